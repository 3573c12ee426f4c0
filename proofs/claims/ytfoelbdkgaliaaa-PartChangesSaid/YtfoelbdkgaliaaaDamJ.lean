/- The engine: an abstract machine for the program's functions, proved right against the model. No condition. -/
import Derived.Test.YtfoelbdkgaliaaaDamG
import GoSem.Dispatch
set_option linter.unusedSectionVars false
set_option linter.unusedVariables false
set_option linter.unusedSimpArgs false
section
namespace Go.Dam
open Go Go.RowKit
variable [gB]
inductive Eff where
 |val (d:D)
 |box (cs:List D)
 |row (cs:List D) (n sz:Nat)
 |row0
 |sto (id off:Nat) (ds:List D)
 |app (dst:D) (sz m:Nat) (ds:List D)
 |cpy (id off:Nat) (ds:List D) (u:Value)
def D.cells:D→Option (List D)
 | .agg cs=>some cs
 | .v x=>some (x.cells.toList.map .v)
 | .sh n cs=>some [.sh n cs]
 | .sl id off n sz=>some [.sl id off n sz]
 | .ptr id off=>some [.ptr id off]
 | .shp cs off=>some [.shp cs off]
 | .emp=>some [.emp]
 | .fn f cs=>some [.fn f cs]
 | .rc cs=>some [.rc cs]
 | .pel id i n j=>some [.pel id i n j]
 |_=>none
def D.one:D→Bool
 | .v x=>x.oneCell'
 | .emp | .sh _ _ | .sl _ _ _ _ | .ptr _ _ | .shp _ _ | .fn _ _ | .rc _ | .pel _ _ _ _=>true
 |_=>false
def Td (P:Program) (t:TypeId):Option (Nat×TypeDesc):=
 match P.info? t,P.underlying t with
 |some i,some d=>some (i.size,d)
 |_,_=>none
def af0:TypeDesc→Bool
 | .struct _ | .array _ _=>true
 |_=>false
def D.behind (bk:Nat→Option dR):D→Option (List D×Nat)
 | .ptr id off=>(bk id).map fun b=>(b.cells,off)
 | .pel id i n j=>(bk id).map fun b=>(b.cells,i*n+j)
 | .shp cs off=>some (cs,off)
 |_=>none
def takeD (P:Program) (t:TypeId) (cs:List D) (off:Nat):Option D:=
 match Td P t with
 |none=>none
 |some (sz,d)=>
  if af0 d then(if 0<sz∧off+sz≤cs.length then some (.agg ((cs.drop off).take sz)) else none)
  else cs[off]?
def LK (P:Program) (bk:Nat→Option dR) (t:TypeId) (a:D):Option Eff:=
 match a.behind bk with
 |none=>none
 |some (cs,off)=>(takeD P t cs off).map .val
def rq (P:Program) (t:TypeId) (a x:D):Option Eff:=
 match a,x.cells,P.info? t with
 | .ptr id off,some ds,some i=>if ds.length=i.size∧ds.all D.one then some (.sto id off ds) else none
 | .pel id i0 n j,some ds,some i=>if ds.length=i.size∧ds.all D.one then some (.sto id (i0*n+j) ds) else none
 |_,_,_=>none
def Ah (P:Program) (t:TypeId):Option (List D):=
 match P.info? t with
 |none=>none
 |some i=>match i.zero with
  |none=>none
  |some z=>some (z.cells.toList.map .v)
def uY (place:Nat→Option (Nat×Nat)) (cells:List D):List (Nat×D)→Option (List D)
 |[]=>some cells
 |(i,x)::rest=>
  match place i,x.cells with
  |some (off,size),some ds=>if ds.length=size∧off+size≤cells.length then uY place (splice cells off ds) rest else none
  |_,_=>none
def EH (P:Program) (t:TypeId) (parts:List (Nat×D)):Option Eff:=
 match Ah P t,P.underlying t with
 |some zero,some (.struct fields)=>
  if fields.toList.all (fun f=>(P.info? f.type).isSome) then
   (uY (fun i=>(fields.toList.map fun f=>(f.offset,((P.info? f.type).map (·.size)).getD 0))[i]?) zero parts).map fun cs=> .val (.agg cs)
  else none
 |some zero,some (.array _ elem)=>
  match P.info? elem with
  |none=>none
  |some j=>(uY (fun i=>some (i*j.size,j.size)) zero parts).map fun cs=> .val (.agg cs)
 |_,_=>none
def qF (P:Program) (s:Sem Value):Option Eff:=(dA P s).map fun u=> .val (D.l7 u)
def indexOf:D→Option Int
 | .v (.int _ i)=>some i
 |_=>none
def Col.cell (i:Nat):Col→D
 | .ints k xs=> .v (.int k (xs.getD i 0))
 | .bools xs=> .v (.bool (xs.getD i false))
 | .rows _ f=> .rc ((f i).map aH.up)
def Col.part (l n:Nat):Col→Col
 | .ints k xs=> .ints k ((xs.drop l).take n)
 | .bools xs=> .bools ((xs.drop l).take n)
 | .rows _ f=> .rows n fun i=>f (i+l)
def gX (cs:List Col):List D:=(List.range (rowLen cs)).flatMap fun i=>cs.map (Col.cell i)
abbrev aA (cs:List aH):List D:=gX (cs.map aH.up)
def xQ (P:Program) (t:TypeId) (cs:List Col) (ix:D):Option Eff:=
 match P.underlying t,indexOf ix with
 |some (.slice elem),some i=>match P.info? elem with
  |none=>none
  |some j=>if j.size=cs.length∧0≤i∧i<rowLen cs then some (.val (.shp (cs.map (Col.cell i.toNat)) 0)) else none
 |_,_=>none
def jY (P:Program) (t:TypeId) (x ix:D):Option Eff:=
 match indexOf ix,P.underlying t with
 |some i,some (.array len elem)=>
  match P.info? elem with
  |none=>none
  |some j=>if 0≤i∧i<len then match x with
    | .ptr id off=>some (.val (.ptr id (off+i.toNat*j.size)))
    | .pel id i0 n0 j0=>some (.val (.pel id i0 n0 (j0+i.toNat*j.size)))
    | .shp cs off=>some (.val (.shp cs (off+i.toNat*j.size)))
    |_=>none
   else none
 |some i,some (.slice elem)=>
  match P.info? elem with
  |none=>none
  |some j=>match x with
   | .sl id off n sz=>if 0≤i∧i<n then some (.val (.pel id i.toNat j.size off)) else none
   | .sh n cs=>if 0≤i∧i<n then some (.val (.shp cs (i.toNat*j.size))) else none
   |_=>none
 |_,_=>none
def jr (P:Program) (t:TypeId) (x ix:D):Option Eff:=
 match x with
 | .rc cs=>xQ P t cs ix
 |x=>jY P t x ix
def lU (P:Program) (t:TypeId) (x:D) (f:Nat):Option Eff:=
 match P.underlying t with
 |some (.struct fields)=>match fields[f]? with
  |none=>none
  |some f=>match P.info? f.type with
   |none=>none
   |some j=>if j.size=0 then none else match x with
    | .ptr id off=>some (.val (.ptr id (off+f.offset)))
    | .pel id i n j=>some (.val (.pel id i n (j+f.offset)))
    | .shp cs off=>some (.val (.shp cs (off+f.offset)))
    |_=>none
 |_=>none
def E5 (P:Program) (t:TypeId) (x:D) (f:Nat):Option Eff:=
 match P.underlying t,x with
 |some (.struct fields), .agg cs=>match fields[f]? with
  |none=>none
  |some f=>(takeD P f.type cs f.offset).map .val
 |_,_=>none
def vY (P:Program) (t:TypeId) (x ix:D):Option Eff:=
 match indexOf ix,P.underlying t,x with
 |some i,some (.array len elem), .agg cs=>
  match P.info? elem with
  |none=>none
  |some j=>if 0≤i∧i<len then(takeD P elem cs (i.toNat*j.size)).map .val else none
 |some i,some .string, .v (.string s)=>if 0≤i then match s[i.toNat]? with
   |some b=>some (.val (.v (.int .u8 b.toNat)))
   |none=>none
  else none
 |_,_,_=>none
def qL (x:D) (i:Nat):Option Eff:=
 match x with
 | .bF cs=>(cs[i]?).map .val
 |_=>none
def di (d:Option D) (dflt most:Nat):Option Nat:=
 match d with
 |none=>some dflt
 |some (.v (.int _ i))=>if 0≤i∧i≤most then some i.toNat else none
 |some _=>none
def yA (P:Program) (t:TypeId) (cs:List Col) (lo hi:Option D):Option Eff:=
 match P.underlying t with
 |some (.slice elem)=>match P.info? elem,di hi (rowLen cs) (rowLen cs) with
  |some j,some h=>match di lo 0 h with
   |none=>none
   |some l=>if j.size=cs.length then some (.val (.rc (cs.map (Col.part l (h - l))))) else none
  |_,_=>none
 |_=>none
def jS (P:Program) (bk:Nat→Option dR) (t:TypeId) (x:D) (lo hi:Option D):Option Eff:=
 match P.underlying t,x with
 |some (.array n elem), .ptr id off=>
  match P.info? elem,di hi n n with
  |some j,some h=>match di lo 0 h with
   |none=>none
   |some l=>match bk id with
    |some b=>if off+n*j.size≤b.cells.length then some (.val (.sl id (off+l*j.size) (h - l) ⟨j.size,0⟩)) else none
    |none=>none
  |_,_=>none
 |some (.slice elem), .sh n cs=>
  match P.info? elem,di hi n n with
  |some j,some h=>match di lo 0 h with
   |none=>none
   |some l=>some (.val (.sh (h - l) ((cs.drop (l*j.size)).take ((h - l)*j.size))))
  |_,_=>none
 |some (.slice elem), .sl id off n sz=>
  match P.info? elem,di hi n (max n sz.r) with
  |some j,some h=>match di lo 0 h with
   |none=>none
   |some l=>if sz.s=j.size then some (.val (.sl id (off+l*sz.s) (h - l) ⟨sz.s,max n sz.r - l⟩)) else none
  |_,_=>none
 |some (.slice elem), .v (.slice none 0 0)=>
  match P.info? elem,di hi 0 0 with
  |some _,some h=>match di lo 0 h with
   |none=>none
   |some _=>some (.val (.v (.slice none 0 0)))
  |_,_=>none
 |some .string, .v (.string s)=>
  match di hi s.size s.size with
  |some h=>match di lo 0 h with
   |none=>none
   |some l=>some (.val (.v (.string (s.extract l h))))
  |none=>none
 |_,_=>none
def sN (P:Program) (bk:Nat→Option dR) (t:TypeId) (x:D) (lo hi:Option D):Option Eff:=
 match x with
 | .rc cs=>yA P t cs lo hi
 |x=>jS P bk t x lo hi
def xu:D→Bool
 | .v (.int _ 0)=>true
 |_=>false
def EZ (x:D) (lo:Option D) (h mx:D):Option Eff:=
 match x,lo,h,mx with
 | .sl _ _ n _,some (.v (.int _ l)), .v (.int _ h), .v (.int _ m)=>if 0≤l∧l≤h∧h≤m∧m≤n then some (.val .undef) else none
 |_,_,_,_=>none
def tH (P:Program) (t:TypeId) (x:D) (lo hi:Option D) (mx:D):Option Eff:=
 match P.underlying t,hi with
 |some (.slice elem),some h=>
  match P.info? elem with
  |none=>none
  |some _=>if xu mx∧xu h∧lo.all xu then match x with
    | .sh n _=>if n=0 then none else some (.val .emp)
    | .sl _ _ n sz=>if max n sz.r=0 then none else some (.val .emp)
    | .emp=>some (.val .emp)
    | .v (.slice none 0 0)=>some (.val (.v (.slice none 0 0)))
    |_=>none
   else EZ x lo h mx
 |_,_=>none
def jX (P:Program) (t:TypeId) (len cap:D):Option Eff:=
 match P.underlying t,indexOf len,indexOf cap with
 |some (.slice elem),some l,some c=>
  match P.info? elem,Ah P elem with
  |some j,some z=>if 0≤l∧l≤c∧c*j.bytes≤2 ^ 40∧c≤2 ^ 40∧z.length=j.size then some (.row (List.replicate c.toNat z).flatten l.toNat j.size) else none
  |_,_=>none
 |_,_,_=>none
def rowOf (cs:List D) (n sz:Nat):Eff:=match n with
 |0=> .row0
 |n+1=> .row cs (n+1) sz
def mZ (P:Program) (t:TypeId) (len:Nat) (parts:List (Nat×D)):Option Eff:=
 match P.underlying t with
 |some (.slice elem)=>
  match P.info? elem,Ah P elem with
  |some j,some z=>if len*j.size≤2 ^ 24∧z.length=j.size then(uY (fun i=>some (i*j.size,j.size)) (List.replicate len z).flatten parts).map fun cs=>rowOf cs len j.size else none
  |_,_=>none
 |_=>none
def D.len:D→Option Nat
 | .emp=>some 0
 | .rc cs=>some (rowLen cs)
 | .sh n _=>some n
 | .sl _ _ n _=>some n
 | .v (.slice _ n _)=>some n
 | .v (.string s)=>some s.size
 |_=>none
def lenD (P:Program) (t:TypeId) (x:D):Option Eff:=
 match P.underlying t with
 |some (.slice _)=>match x with
  | .sh n _=>some (.val (.v (goInt n)))
  | .sl _ _ n _=>some (.val (.v (goInt n)))
  | .v (.slice _ n _)=>some (.val (.v (goInt n)))
  | .emp=>some (.val (.v (goInt 0)))
  | .rc cs=>some (.val (.v (goInt (rowLen cs))))
  |_=>none
 |some .string=>match x with
  | .v (.string s)=>some (.val (.v (goInt s.size)))
  |_=>none
 |some (.array n _)=>some (.val (.v (goInt n)))
 |_=>none
def D.elems (bk:Nat→Option dR) (size:Nat):D→Option (Nat×List D)
 | .sh n cs=>if n*size=cs.length then some (n,cs) else none
 | .rc cs=>if cs.length=size then some (rowLen cs,gX cs) else none
 | .sl id off n sz=>match bk id with
  |some b=>if sz.s=size∧off+n*size≤b.cells.length then some (n,(b.cells.drop off).take (n*size)) else none
  |none=>none
 | .v (.slice none 0 0)=>some (0,[])
 | .emp=>some (0,[])
 |_=>none
def jC (s:D) (sz m:Nat) (ds:List D):Eff:=match m with
 |0=> .val s
 |m+1=> .app s sz (m+1) ds
def jd (P:Program) (bk:Nat→Option dR) (ts:Array TypeId) (s x:D):Option Eff:=
 match ts with
 |⟨[t,t2]⟩=>match P.underlying t,P.underlying t2 with
  |some (.slice e),some (.slice _)=>match P.info? e with
   |some j=>match j.zero with
    |some z=>if 1≤j.bytes∧z.cells.size=j.size then match x.elems bk j.size with
      |some (m,ds)=>if ds.all D.one then match s with
        | .v (.slice none 0 0)=>if m*j.bytes≤2 ^ 44 then some (.app s j.size m ds) else none
        | .emp=>if m*j.bytes≤2 ^ 44 then some (jC s j.size m ds) else none
        | .sl _ _ n sz=>if sz.s=j.size∧(n+m)*j.bytes≤2 ^ 44 then some (jC s j.size m ds) else none
        |_=>none
       else none
      |none=>none
     else none
    |none=>none
   |none=>none
  |_,_=>none
 |_=>none
def RF (P:Program) (bk:Nat→Option dR) (ts:Array TypeId) (d x:D):Option Eff:=
 match ts with
 |⟨[t,_]⟩=>match P.underlying t with
  |some (.slice e)=>match P.info? e with
   |some j=>match d,x.elems bk j.size with
    | .sl id off n sz,some (m,ds)=>if sz.s=j.size∧n≠0∧ds.all D.one then some (.cpy id off (ds.take (Nat.min m n*sz.s)) (goInt (Nat.min m n))) else none
    |_,_=>none
   |none=>none
  |_=>none
 |_=>none
def Ku (P:Program) (ts:Array TypeId) (d:D):Option Eff:=
 match ts with
 |⟨[t]⟩=>match P.underlying t with
  |some (.slice e)=>match P.info? e with
   |some j=>match j.zero with
    |some z=>match d with
     | .sl id off n sz=>if n≠0∧sz.s=j.size∧z.cells.toList.all Value.oneCell' then some (.cpy id off ((Builtin.zeroCells z.cells n).toList.map .v) (.tuple #[])) else none
     |_=>none
    |none=>none
   |none=>none
  |_=>none
 |_=>none
def iF:D→Nat
 | .emp=>1
 | .sh n _=>if n=0 then 0 else 1
 | .sl _ _ n _=>if n=0 then 0 else 1
 | .ptr _ _ | .shp _ _ | .pel _ _ _ _=>2
 | .fn _ _=>3
 | .rc _=>bif gB.walked KT then 1 else 0
 |_=>0
def BM:D→Nat
 | .v (.slice none 0 0)=>1
 | .v (.pointer none)=>2
 | .v .nilFunc=>3
 |_=>0
def fH:TypeDesc→Nat
 | .slice _=>1
 | .pointer _=>2
 | .func _ _ _=>3
 |_=>4
def BU (P:Program) (op:BinOp) (t:TypeId) (a b:D):Option Eff:=
 match P.underlying t with
 |some d=>if(iF a=fH d∧BM b=fH d)∨(BM a=fH d∧iF b=fH d) then match op with
   | .eql=>some (.val (.v (.bool false)))
   | .neq=>some (.val (.v (.bool true)))
   |_=>none
  else none
 |none=>none
def D.qX (ds:List D):Option (List Value):=ds.mapM D.plain
def intD (op:BinOp) (k k':IntKind) (p q:Int):Option D:=
 match op with
 | .shl | .shr=>if 0≤q then some (.v (.int k (aj op k p q))) else none
 | .quo | .rem=>if k=k' then if q=0 then none else some (.v (.int k (aj op k p q))) else none
 | .add | .sub | .mul | .and | .or | .xor | .andNot=>if k=k' then some (.v (.int k (aj op k p q))) else none
 | .eql | .neq | .lss | .leq | .gtr | .geq=>if k=k' then some (.v (.bool (ai op p q))) else none
def qB (op:BinOp) (p q:Int):Int:=bif ai op q p then q else p
def Ey (op:BinOp) (k:IntKind) (p:Int):List D→Option D
 |[]=>some (.v (.int k p))
 | .v (.int k' q)::ds=>if k=k' then Ey op k (qB op p q) ds else none
 |_=>none
def Y2 (op:BinOp):List D→Option D
 | .v (.int k p)::ds=>Ey op k p ds
 |_=>none
def unD (op:UnOp) (a:D):Option D:=
 match op,a with
 | .not, .v (.bool p)=>some (.v (.bool (!p)))
 | .neg, .v (.int k p)=>some (.v (.int k (aj .sub k 0 p)))
 | .xor, .v (.int k p)=>some (.v (.int k (aj .xor k (if k.signed then -1 else k.max) p)))
 |_,_=>none
def YN (P:Program) (src dst:TypeId) (a:D):Option D:=
 match a,P.underlying src,P.underlying dst with
 | .v (.int _ p),some _,some (.int k)=>some (.v (.int k (k.wrap p)))
 |_,_,_=>none
def Xg (c:Bool) (a b:D):D:=
 match a,b with
 | .v (.int k p), .v (.int k' q)=>if k=k' then .v (.int k (bif c then p else q)) else bif c then a else b
 | .v (.bool p), .v (.bool q)=> .v (.bool (bif c then p else q))
 |a,b=>bif c then a else b
def eqFields (P:Program) (f:TypeId→D→D→Option Bool) (xs ys:List D):List Field→Option Bool
 |[]=>some true
 | fd :: l => if fd.name ≠ "_" then match takeD P fd.type xs fd.offset, takeD P fd.type ys fd.offset with
   |some x,some y=>match f fd.type x y,eqFields P f xs ys l with
    |some s,some r=>some (s && r)
    |_,_=>none
   |_,_=>none
  else eqFields P f xs ys l
def xk (P:Program) (f:D→D→Option Bool) (elem:TypeId) (size:Nat) (xs ys:List D) (i:Nat):Nat→Option Bool
 |0=>some true
 |n+1=>match takeD P elem xs (i*size),takeD P elem ys (i*size) with
  |some x,some y=>match f x y,xk P f elem size xs ys (i+1) n with
   |some s,some r=>some (s && r)
   |_,_=>none
  |_,_=>none
def Sv:D→D→Option Bool
 | .v (.bool x), .v (.bool y)=>some (x ==y)
 |_,_=>none
def YR:D→D→Option Bool
 | .v (.int k x), .v (.int k' y)=>if k=k' then some (x ==y) else none
 |_,_=>none
def eqV (P:Program):Nat→TypeId→D→D→Option Bool
 |0,_,_,_=>none
 |d+1,t,a,b=>match P.underlying t with
  |some .bool=>Sv a b
  |some (.int _)=>YR a b
  |some (.struct fields)=>match a,b with
   | .agg xs, .agg ys=>if P.stoodInHeld t then none else eqFields P (eqV P d) xs ys fields.toList
   |_,_=>none
  |some (.array len elem)=>match a,b,P.info? elem with
   | .agg xs, .agg ys,some j=>xk P (eqV P d elem) elem j.size xs ys 0 len
   |_,_,_=>none
  |_=>none
def zL:D→Bool
 | .agg _ | .v (.bool _)=>true
 |_=>false
def eqD (P:Program) (op:BinOp) (t:TypeId) (a b:D):Option D:=
 if zL a∧zL b then if P.eqGuardType P.depth t then none else match op with
  | .eql=>(eqV P 20 t a b).map fun e=> .v (.bool e)
  | .neq=>(eqV P 20 t a b).map fun e=> .v (.bool (!e))
  |_=>none
 else none
def wO (P:Program) (op:BinOp) (t:TypeId) (x y:Operand) (a b:D):Option Eff:=
 match eqD P op t a b with
 |some d=>some (.val d)
 |none=>match a.plain,b.plain with
  |some u,some v=>qF P (do eqGuard op t x y u v;binOp op t u v)
  |_,_=>BU P op t a b
def Ul (P:Program) (op:BinOp) (t:TypeId) (x y:Operand) (a b:D):Option Eff:=
 match a,b with
 | .v (.int k p), .v (.int k' q)=>(intD op k k' p q).map .val
 |a,b=>wO P op t x y a b
def aag (P:Program) (uop:UnOp) (a:D):Option Eff:=
 match unD uop a with
 |some d=>some (.val d)
 |none=>match a.plain with
  |some u=>qF P (Op.unary uop u)
  |none=>none
def J7 (P:Program) (src dst:TypeId) (a:D):Option Eff:=
 match YN P src dst a with
 |some d=>some (.val d)
 |none=>match a.plain with
  |some u=>qF P (convert src dst u)
  |none=>none
def KY (c a b:D):Option Eff:=
 match c with
 | .v (.bool c)=>some (.val (Xg c a b))
 |_=>none
def qW (op:BinOp) (s:List Value→Option Eff) (ds:List D):Option Eff:=
 match Y2 op ds with
 |some d=>some (.val d)
 |none=>match D.qX ds with
  |some vs=>s vs
  |none=>none
def Sm:D→Option Eff
 | .ptr id off=>some (.val (.ptr id off))
 | .pel id i n j=>some (.val (.pel id i n j))
 | .shp cs off=>some (.val (.shp cs off))
 | .fn f cs=>some (.val (.fn f cs))
 |_=>none
def dB (P:Program) (bk:Nat→Option dR) (ρ:Operand→D) (ty:TypeId):Op→Option Eff
 | .move x | .assign x=>some (.val (ρ x))
 | .pick c a b=>KY (ρ c) (ρ a) (ρ b)
 | .alloc t=>(Ah P t).map .box
 | .box _ x=>(ρ x).cells.map .box
 | .build t parts=>EH P t (parts.toList.map fun p=>(p.1,ρ p.2))
 | .buildSlice t len parts=>mZ P t len (parts.toList.map fun p=>(p.1,ρ p.2))
 | .load t a=>LK P bk t (ρ a)
 | .store t a x=>rq P t (ρ a) (ρ x)
 | .nilCheck x=>Sm (ρ x)
 | .binOp op t x y _=>Ul P op t x y (ρ x) (ρ y)
 | .unOp op _ x=>aag P op (ρ x)
 | .convert src dst x=>J7 P src dst (ρ x)
 | .makeFunc (.func f) first captured=>if first.size=0 then some (.val (.fn f (captured.toList.map ρ))) else none
 | .makeSlice t l c=>jX P t (ρ l) (ρ c)
 | .slice t x lo hi none=>sN P bk t (ρ x) (lo.map ρ) (hi.map ρ)
 | .slice t x lo hi (some mx)=>tH P t (ρ x) (lo.map ρ) (hi.map ρ) (ρ mx)
 | .fieldAddr t x f=>lU P t (ρ x) f
 | .field t x f=>E5 P t (ρ x) f
 | .indexAddr t x ix=>jr P t (ρ x) (ρ ix)
 | .index t x ix=>vY P t (ρ x) (ρ ix)
 | .extract x i=>qL (ρ x) i
 | .call ⟨.builtin .len,⟨[x]⟩,⟨[t]⟩⟩=>lenD P t (ρ x)
 | .call ⟨.builtin .append,⟨[s,x]⟩,ts⟩=>jd P bk ts (ρ s) (ρ x)
 | .call ⟨.builtin .copy,⟨[d,x]⟩,ts⟩=>RF P bk ts (ρ d) (ρ x)
 | .call ⟨.builtin .clear,⟨[d]⟩,ts⟩=>Ku P ts (ρ d)
 | .call ⟨.builtin .max,xs,ts⟩=>qW .gtr (fun vs=>qF P (Builtin.max_ ts ty vs.toArray)) (xs.toList.map ρ)
 | .call ⟨.builtin .min,xs,ts⟩=>qW .lss (fun vs=>qF P (Builtin.min_ ts ty vs.toArray)) (xs.toList.map ρ)
 |_=>none
def dK (σ:St) (dst:Option Tmp) (id:Nat):Eff→Option St
 | .val d=>some (σ.put dst d)
 | .box cs=>some (((σ.forget id).setB id ⟨cs.map (D.forget id),false⟩).put dst (.ptr id 0))
 | .row cs n sz=>some (((σ.forget id).setB id ⟨cs.map (D.forget id),false⟩).put dst (.sl id 0 n ⟨sz,0⟩))
 | .row0=>some (σ.put dst .emp)
 | .sto i off ds=>match σ.bk i with
  |some ⟨cells,false⟩=>if off+ds.length≤cells.length then some ((σ.setB i ⟨splice cells off ds,false⟩).put dst (.v undef)) else none
  |_=>none
 | .cpy i off ds u=>match σ.bk i with
  |some ⟨cells,false⟩=>if off+ds.length≤cells.length then some ((σ.setB i ⟨splice cells off ds,false⟩).put dst (D.l7 u)) else none
  |_=>none
 | .app s sz m ds=>match s with
  | .emp=>some (((σ.forget id).setB id ⟨ds.map (D.forget id),false⟩).put dst (.sl id 0 m ⟨sz,0⟩))
  | .v _=>some (((σ.forget id).setB id ⟨ds.map (D.forget id),false⟩).put dst (.sl id 0 m ⟨sz,0⟩))
  | .sl i off n _=>match σ.bk i with
   |some ⟨cells,false⟩=>if off+n*sz≤cells.length then some (((σ.forget i).setB i ⟨((cells.drop off).take (n*sz) ++ ds).map (D.forget i),false⟩).put dst (.sl i 0 (n+m) ⟨sz,0⟩)) else none
   |_=>none
  |_=>none
def Zx:List D→D
 |[]=> .undef
 |d::ds=> .shp (d::ds) 0
def bn (σ:St):Operand→D
 | .tmp t=>σ.fr.tm t
 | .const v=>D.l7 v
 | .global g=>Zx (gB.g g)
 | .func f=> .fn f []
end Go.Dam
end

section
namespace Go.Dam
open Go Go.RowKit
variable [gB]
section
variable {P:Program} {w:World} {A:Nat→Prop} {β:Env} {base:Nat} {σ:St} {tmps:Array Value} {acts:List (Array Value)}
def Good (P:Program) (w:World) (A:Nat→Prop) (β:Env) (r:Result Next):Eff→Prop
 | .val d=>∃ u,r= .ok (.value u) w∧Rep w A β d u
 | .box cs=>∃ T vs,aF w A β cs vs∧r= .ok (.value (.pointer (some ⟨w.heap.size,0,none⟩))) (w.alloc (.cells vs.toArray T))
 | .row cs n sz=>∃ T vs cap,aF w A β cs vs∧n≤cap∧cap*sz≤vs.length∧r= .ok (.value (.slice (some ⟨w.heap.size,0,none⟩) n cap)) (w.alloc (.cells vs.toArray T))
 | .row0=>∃ T vs,r= .ok (.value (.slice (some ⟨w.heap.size,0,none⟩) 0 0)) (w.alloc (.cells vs T))
 | .sto id off ds=>∃ ad vs,β id=some ad∧aF w A β ds vs∧(∀ u∈vs,u.oneCell'=true)∧r=((storeCells (aG ad off) vs).run P w).andThen fun _ w'=> .ok .skip w'
 | .cpy id off ds u=>∃ ad vs,β id=some ad∧aF w A β ds vs∧(∀ u∈vs,u.oneCell'=true)∧r=((storeCells (aG ad off) vs).run P w).andThen fun _ w'=> .ok (.value u) w'
 | .app s sz m ds=>∃ (t t2 ty e:TypeId) (e2:TypeId) (i:TypeInfo) (z:Value) (o:Option Addr) (n c:Nat) (x:Value) (vs:List Value),
   P.underlying t=some (.slice e)∧P.underlying t2=some (.slice e2)∧P.info? e=some i∧i.zero=some z∧z.cells.size=i.size∧1≤i.bytes∧sz=i.size∧Src P w sz m x vs∧aF w A β ds vs∧
   (∀ u∈vs,u.oneCell'=true)∧(n+m)*i.bytes≤2 ^ 44∧ds.length=m*sz∧Rep w A β s (.slice o n c)∧(∀ id off n' sz',s= .sl id off n' sz'→sz'.s=sz)∧(∀ u,s= .v u→u= .slice none 0 0)∧
   r=((Builtin.append_ #[t,t2] ty #[.slice o n c,x]).run P w).andThen fun v w'=> .ok (.value v) w'
theorem Eu {t:TypeId} {sz:Nat} {d:TypeDesc} (h:Td P t=some (sz,d)):∃ i,P.info? t=some i∧i.size=sz∧P.underlying t=some d:=by
 unfold Td at h
 split at h
 next i d' h1 h2=>simp at h;obtain⟨rfl,rfl⟩:=h;exact⟨i,h1,rfl,h2⟩
 next=>cases h
theorem uF {t:TypeId} {d:TypeDesc} (h:P.underlying t=some d) (w:World):(isAgg t).run P w= .ok (af0 d) w:=by
 unfold isAgg
 simp only[Sem.run_bind,run_underlying h,Result.andThen_ok]
 cases d<;>rfl
theorem NP {t:TypeId} {cs:List D} {off:Nat} {ad:Addr} {d:D} (hs:ad.spot=none) (hc:aZ w A β cs ad) (h:takeD P t cs off=some d):
  ∃ u,(loadVar t (aG ad off)).run P w= .ok u w∧Rep w A β d u:=by
 unfold takeD at h
 split at h
 ·cases h
 next sz dd hi=>
  obtain⟨i,h1,rfl,h2⟩:=Eu hi
  split at h
  next hag=>
   split at h
   next hl=>
    simp at h;subst h
    have hlen:((cs.drop off).take i.size).length=i.size:=by simp;omega
    obtain⟨vs,k1,k2⟩:=nC P rfl ((hc.drop hs off).take rfl i.size)
    refine⟨.agg vs.toArray,?_,by simp only[Rep];exact⟨vs,rfl,k2⟩⟩
    rw[hlen] at k1
    simp[loadVar,uF h2,hag,run_sizeOf h1,k1]
   ·cases h
  next hag=>
   obtain⟨u,k1,k2⟩:=hc.get hs off d h
   refine⟨u,?_,k2⟩
   simp[loadVar,uF h2,hag,k1]
theorem og {t:TypeId} {cs:List D} {vs:List Value} {off:Nat} {d:D} (hc:aF w A β cs vs) (h:takeD P t cs off=some d):
  ∃ u,(part t vs.toArray off).run P w= .ok u w∧Rep w A β d u:=by
 unfold takeD at h
 split at h
 ·cases h
 next sz dd hi=>
  obtain⟨i,h1,rfl,h2⟩:=Eu hi
  split at h
  next hag=>
   split at h
   next hl=>
    simp at h;subst h
    refine⟨.agg (vs.toArray.extract off (off+i.size)),?_,?_⟩
    ·simp[part,uF h2,hag,run_sizeOf h1]
    ·simp only[Rep]
     refine⟨(vs.drop off).take i.size,?_,(hc.drop off).take _⟩
     congr 1
     apply Array.ext'
     simp[List.extract_eq_take_drop]
   ·cases h
  next hag=>
   obtain⟨u,k1,k2⟩:=hc.get off d h
   refine⟨u,?_,k2⟩
   simp[part,uF h2,hag,k1]
theorem AO (h:Rel w A β base σ tmps acts) {a:D} {va:Value} (ha:Rep w A β a va) {cs:List D} {off:Nat} (hb:a.behind σ.bk=some (cs,off)) (hne:cs≠[]):
  ∃ ad,va= .pointer (some (aG ad off))∧ad.spot=none∧aZ w A β cs ad:=by
 cases a with
 |ptr id o=>
  simp only[D.behind,Option.map_eq_some_iff] at hb
  obtain⟨b,hb,he⟩:=hb
  simp at he;obtain⟨rfl,rfl⟩:=he
  simp only[Rep] at ha
  obtain⟨ad,h1,rfl⟩:=ha
  rcases h.blk id b hb with⟨h2,_⟩ | ⟨ad',h2,h3⟩
  ·rw[h1] at h2;cases h2
  ·rw[h1] at h2;cases h2
   exact⟨ad,rfl,h3.spot,h3.cells⟩
 |pel id i n j=>
  simp only[D.behind,Option.map_eq_some_iff] at hb
  obtain⟨b,hb,he⟩:=hb
  simp at he;obtain⟨rfl,rfl⟩:=he
  simp only[Rep] at ha
  obtain⟨ad,h1,rfl⟩:=ha
  rcases h.blk id b hb with⟨h2,_⟩ | ⟨ad',h2,h3⟩
  ·rw[h1] at h2;cases h2
  ·rw[h1] at h2;cases h2
   exact⟨ad,rfl,h3.spot,h3.cells⟩
 |shp c o=>
  simp[D.behind] at hb;obtain⟨rfl,rfl⟩:=hb
  simp only[Rep,aC] at ha
  obtain⟨ad,rfl,h1,_,h2⟩:=ha
  exact⟨ad,rfl,h1,h2.tK (fun d u h=>aC.rep d u h)⟩
 |_=>simp[D.behind] at hb
theorem o6 {x:D} {v:Value} (hr:Rep w A β x v) {cs:List D} (h:x.cells=some cs):aF w A β cs v.cells.toList:=by
 cases x with
 |agg ds=>simp[D.cells] at h;subst h;simp only[Rep] at hr;obtain⟨vs,rfl,hr⟩:=hr;simpa [Value.cells] using hr
 |v y=>simp[D.cells] at h;subst h;simp only[Rep,aC] at hr;subst hr;simpa using aF.l7 (w:=w) (A:=A) (β:=β) v.cells.toList
 |sh n ds=>simp[D.cells] at h;subst h;have hr0:=hr;simp only[Rep,aC] at hr;obtain⟨o,c,rfl,_⟩:=hr;simp[Value.cells,aF];exact hr0
 |sl id off n sz=>simp[D.cells] at h;subst h;have hr0:=hr;simp only[Rep] at hr;obtain⟨o,c,rfl,_⟩:=hr;simp[Value.cells,aF];exact hr0
 |ptr id off=>simp[D.cells] at h;subst h;have hr0:=hr;simp only[Rep] at hr;obtain⟨ad,_,rfl⟩:=hr;simp[Value.cells,aF];exact hr0
 |shp ds off=>simp[D.cells] at h;subst h;have hr0:=hr;simp only[Rep,aC] at hr;obtain⟨ad,rfl,_⟩:=hr;simp[Value.cells,aF];exact hr0
 |fn f ds=>simp[D.cells] at h;subst h;have hr0:=hr;simp only[Rep] at hr;obtain⟨vs,rfl,_⟩:=hr;simp[Value.cells,aF];exact hr0
 |emp=>simp[D.cells] at h;subst h;have hr0:=hr;simp only[Rep,aC] at hr;obtain⟨o,rfl⟩:=hr;simp[Value.cells,aF];exact hr0
 |rc ds=>simp[D.cells] at h;subst h;have hr0:=hr;simp only[Rep,aC] at hr;obtain⟨o,c,rfl,_⟩:=hr;simp[Value.cells,aF];exact hr0
 |pel id i n j=>simp[D.cells] at h;subst h;have hr0:=hr;simp only[Rep] at hr;obtain⟨ad,_,rfl⟩:=hr;simp[Value.cells,aF];exact hr0
 |oc _=>simp[D.cells] at h
 |undef=>simp[D.cells] at h
 |ow _ _ _=>simp[D.cells] at h
 |bF _=>simp[D.cells] at h
 |yld=>simp[D.cells] at h
theorem Wv {x:D} {v:Value} (hr:Rep w A β x v) (h:x.one=true):v.oneCell'=true:=by
 cases x with
 |v y=>simp[D.one] at h;simp only[Rep,aC] at hr;subst hr;exact h
 |sh n ds=>simp only[Rep,aC] at hr;obtain⟨o,c,rfl,_⟩:=hr;rfl
 |sl id off n sz=>simp only[Rep] at hr;obtain⟨o,c,rfl,_⟩:=hr;rfl
 |ptr id off=>simp only[Rep] at hr;obtain⟨ad,_,rfl⟩:=hr;rfl
 |shp ds off=>simp only[Rep,aC] at hr;obtain⟨ad,rfl,_⟩:=hr;rfl
 |fn f ds=>simp only[Rep] at hr;obtain⟨vs,rfl,_⟩:=hr;rfl
 |emp=>simp only[Rep,aC] at hr;obtain⟨o,rfl⟩:=hr;rfl
 |rc ds=>simp only[Rep,aC] at hr;obtain⟨o,c,rfl,_⟩:=hr;rfl
 |pel id i n j=>simp only[Rep] at hr;obtain⟨ad,_,rfl⟩:=hr;rfl
 |_=>simp[D.one] at h
theorem kH:∀ {cs:List D} {vs:List Value},aF w A β cs vs→cs.all D.one=true→∀ u∈vs,u.oneCell'=true
 |[],vs,h,_,u,hu=>by simp[aF] at h;subst h;cases hu
 |d::ds,vs,h,ho,u,hu=>by
  simp only[aF] at h
  obtain⟨x,xs,rfl,h1,h2⟩:=h
  simp at ho hu
  rcases hu with rfl | hu
  ·exact Wv h1 ho.1
  ·exact kH h2 (by simpa using ho.2) u hu
inductive qY (w:World) (A:Nat→Prop) (β:Env):List (Nat×D)→List (Nat×Value)→Prop
 |nil:qY w A β [] []
 |cons {i:Nat} {d:D} {v:Value} {ps:List (Nat×D)} {qs:List (Nat×Value)}:Rep w A β d v→qY w A β ps qs→qY w A β ((i,d)::ps) ((i,v)::qs)
theorem pI (place:Nat→Option (Nat×Nat)):∀ (parts:List (Nat×D)) (vparts:List (Nat×Value)) (cells:List D) (vcells:Array Value) (out:List D),
  qY w A β parts vparts→aF w A β cells vcells.toList→uY place cells parts=some out→
  ∃ vout:Array Value,Instr.fill place vcells vparts=some vout∧aF w A β out vout.toList
 |[],_,cells,vcells,out,hf,hr,h=>by
  cases hf
  simp[uY] at h;subst h
  exact⟨vcells,by simp[Instr.fill],hr⟩
 |(i,x)::rest,_,cells,vcells,out,hf,hr,h=>by
  cases hf with
  |@cons _ _ v _ qs hx h2=>
  simp only[uY] at h
  split at h
  next off size ds hp hc=>
   split at h
   next hl=>
    have hcs:=o6 hx hc
    have hlen:=hcs.length
    have hlen2:=hr.length
    simp only[Array.length_toList] at hlen hlen2
    have hput:aF w A β (splice cells off ds) (v.cells.zipIdx.foldl (fun cs (c,j)=>cs.setIfInBounds (off+j) c) vcells).toList:=by
     have hfold:∀ (us:List Value) (k:Nat) (c:Array Value),(us.zipIdx k).foldl (fun cs (c,j)=>cs.setIfInBounds (off+j) c) c=putAt c (off+k) us:=by
      intro us
      induction us with
      |nil=>intro k c;rfl
      |cons u us ih=>intro k c;simp only[List.zipIdx_cons,List.foldl_cons,ih,putAt];rw[Nat.add_assoc]
     have hfold':v.cells.zipIdx.foldl (fun cs (c,j)=>cs.setIfInBounds (off+j) c) vcells=putAt vcells off v.cells.toList:=by
      have:=hfold v.cells.toList 0 vcells
      rw[←Array.foldl_toList,Array.toList_zipIdx]
      simpa using this
     rw[hfold']
     refine aF.nS ?_ ?_
     ·simp[splice,jA];omega
     ·intro j d hj
      rw[vS (by omega)] at hj
      rw[Array.getElem?_toList,uo _ _ _ _ (by simp;omega)]
      split at hj
      next hin=>
       obtain⟨u,k1,k2⟩:=hcs.get _ _ hj
       exact⟨u,by rw[if_pos (by simp;omega)];exact k1,k2⟩
      next hout=>
       obtain⟨u,k1,k2⟩:=hr.get _ _ hj
       exact⟨u,by rw[if_neg (by simp;omega)];simpa using k1,k2⟩
    obtain⟨vout,k1,k2⟩:=pI place rest qs _ _ out h2 hput h
    refine⟨vout,?_,k2⟩
    simp only[Instr.fill,hp]
    rw[if_neg (by simp;omega)]
    exact k1
   ·cases h
  ·cases h
theorem pq {ρ:Operand→D} {ρv:Operand→Value} (hρ:∀ x,Rep w A β (ρ x) (ρv x)):∀ (ps:List (Nat×Operand)),qY w A β (ps.map fun p=>(p.1,ρ p.2)) (ps.map fun p=>(p.1,ρv p.2))
 |[]=> .nil
 |p::ps=> .cons (hρ _) (pq hρ ps)
theorem oH {t:TypeId} {z:List D} (h:Ah P t=some z):∃ i v,P.info? t=some i∧i.zero=some v∧z=v.cells.toList.map .v:=by
 unfold Ah at h
 split at h
 ·cases h
 next i hi=>
  split at h
  ·cases h
  next v hv=>simp at h;exact⟨i,v,hi,hv,h.symm⟩
theorem EQ:∀ (fs:List Field) (w:World),(∀ f∈fs,(P.info? f.type).isSome=true)→(fs.mapM (fun f=>do pure (f.offset,←sizeOf f.type)):Sem (List (Nat×Nat))).run P w= .ok (fs.map fun f=>(f.offset,((P.info? f.type).map (·.size)).getD 0)) w
 |[],w,_=>rfl
 |f::fs,w,hall=>by
  obtain⟨j,hj⟩:=Option.isSome_iff_exists.1 (hall f (by simp))
  have ih:=EQ fs w (fun g hg=>hall g (by simp[hg]))
  simp only[List.mapM_cons,Sem.run_bind,run_sizeOf hj,Result.andThen_ok,Sem.run_pure,ih,List.map_cons,hj,Option.map_some,Option.getD_some]
theorem OG {ρ:Operand→D} {ρv:Operand→Value} (hρ:∀ x,Rep w A β (ρ x) (ρv x)) {t:TypeId} {parts:Array (Nat×Operand)} {e:Eff} (h:EH P t (parts.toList.map fun p=>(p.1,ρ p.2))=some e):
  ∃ d u,e= .val d∧(Instr.build t (parts.map fun (i,x)=>(i,ρv x))).run P w= .ok u w∧Rep w A β d u:=by
 have hp:(parts.map fun (i,x)=>(i,ρv x)).toList=parts.toList.map fun p=>(p.1,ρv p.2):=by simp
 unfold EH at h
 split at h
 next zero fields hz hu=>
  obtain⟨i,z,hi,hzz,rfl⟩:=oH hz
  split at h
  next hall=>
   simp only[Option.map_eq_some_iff] at h
   obtain⟨cs,hf,rfl⟩:=h
   obtain⟨vout,k1,k2⟩:=pI _ _ _ _ z.cells _ (pq hρ parts.toList) (aF.l7 _) hf
   refine⟨_, .agg vout,rfl,?_,by simp only[Rep];exact⟨vout.toList,by simp,k2⟩⟩
   have hall':∀ f∈fields.toList,(P.info? f.type).isSome=true:=fun f hf=>List.all_eq_true.1 hall f hf
   simp only[Instr.build,Sem.run_bind,gq hi hzz,Result.andThen_ok,run_underlying hu,Array.mapM_eq_mapM_toList,Sem.run_map,EQ fields.toList w hall',hp]
   have hpl:(fun (x:Nat)=>((fields.toList.map fun f=>(f.offset,((P.info? f.type).map (·.size)).getD 0)).toArray)[x]?)=fun i=>(fields.toList.map fun f=>(f.offset,((P.info? f.type).map (·.size)).getD 0))[i]? :=by funext i;simp
   rw[hpl,k1]
   rfl
  next=>cases h
 next zero len elem hz hu=>
  obtain⟨i,z,hi,hzz,rfl⟩:=oH hz
  split at h
  ·cases h
  next j hj=>
   simp only[Option.map_eq_some_iff] at h
   obtain⟨cs,hf,rfl⟩:=h
   obtain⟨vout,k1,k2⟩:=pI _ _ _ _ z.cells _ (pq hρ parts.toList) (aF.l7 _) hf
   refine⟨_, .agg vout,rfl,?_,by simp only[Rep];exact⟨vout.toList,by simp,k2⟩⟩
   simp only[Instr.build,Sem.run_bind,gq hi hzz,Result.andThen_ok,run_underlying hu,run_sizeOf hj,hp,k1]
   rfl
 ·cases h
end
end Go.Dam
end

section
namespace Go.Dam
open Go Go.RowKit
variable [gB]
section
variable {P:Program} {w:World} {A:Nat→Prop} {β:Env} {base:Nat} {σ:St} {tmps:Array Value} {acts:List (Array Value)}
theorem MZ {s:Sem Value} {e:Eff} (h:qF P s=some e):∃ u,s.run P w= .ok u w∧e= .val (D.l7 u):=by
 simp only[qF,Option.map_eq_some_iff] at h
 obtain⟨u,h1,rfl⟩:=h
 exact⟨u,ng P w s u h1,rfl⟩
theorem iy {x:D} {v:Value} (hr:Rep w A β x v) {i:Int} (h:indexOf x=some i):∃ k,v= .int k i:=by
 unfold indexOf at h
 split at h
 next k j=>simp at h;subst h;simp only[Rep,aC] at hr;exact⟨k,hr⟩
 ·cases h
theorem yg {ad:Addr} (h:ad.spot=none):aG ad 0=ad:=by cases ad;simp at h;simp[aG,h]
theorem NZ.up {cs:List aH} {x:Value} (h:NZ w A cs x):Rx w A (cs.map aH.up) x:=by
 obtain⟨o,cp,rfl,hv,h1,h2,h3⟩:=h
 refine⟨o,cp,by rw[eu],hv,by rw[eu];exact h1,by rw[eu];exact h2,fun i j c hi hc=>?_⟩
 rw[eu] at hi
 rw[List.getElem?_map,Option.map_eq_some_iff] at hc
 obtain⟨c0,hc0,rfl⟩:=hc
 refine⟨_,by rw[List.length_map];exact h3 i j c0 hi hc0,?_⟩
 cases c0<;>rfl
theorem ZP {c:Col} {i:Nat} {x:Value} (h:Gw w A i x c):aC w A (c.cell i) x:=by
 cases c with
 |ints k xs=>simp only[Col.cell,aC];exact h
 |bools xs=>simp only[Col.cell,aC];exact h
 |rows n f=>simp only[Col.cell,aC];exact NZ.up h
theorem cells_at {i:Nat}:∀ (cs:List Col) (ad:Addr),(∀ j c,cs[j]? =some c→∃ x,w.cell? (aG ad j)=some x∧Gw w A i x c)→ad.spot=none→bC w A (cs.map (Col.cell i)) ad
 |[],ad,h,hs=>by simp[bC]
 |c::cs,ad,h,hs=>by
  simp only[List.map_cons,bC]
  refine⟨?_,cells_at cs (aG ad 1) (fun j k' hj=>?_) rfl⟩
  ·obtain⟨x,h1,h2⟩:=h 0 c rfl
   rw[yg hs] at h1
   exact⟨x,h1,ZP h2⟩
  ·obtain⟨x,h1,h2⟩:=h (j+1) k' (by simpa using hj)
   rw[dh,Nat.add_comm 1 j]
   exact⟨x,h1,h2⟩
theorem J3 {t:TypeId} {cs:List Col} {ix:D} {vx vi:Value} (hx:Rep w A β (.rc cs) vx) (hi:Rep w A β ix vi) {e:Eff} (h:xQ P t cs ix=some e):
  ∃ d u,e= .val d∧(Instr.indexAt t vx vi).run P w= .ok u w∧Rep w A β d u:=by
 unfold xQ at h
 split at h
 next elem i hu hix=>
  obtain⟨k,rfl⟩:=iy hi hix
  split at h
  ·cases h
  next j hj=>
   split at h
   next hb=>
    obtain⟨hsz,h0,h1⟩:=hb
    simp at h;subst h
    simp only[Rep,aC] at hx
    obtain⟨o,cp,rfl,_,hc,hx1,hx2⟩:=hx
    obtain⟨ad,rfl,h2,h3⟩:=hx1 (by omega)
    have hb':0≤i∧i<((rowLen cs:Nat):Int):=⟨h0,h1⟩
    refine⟨_, .pointer (some (aG ad (i.toNat*j.size))),rfl,?_,?_⟩
    ·simp[Instr.indexAt,asIntOf,run_underlying hu,Instr.sureAddr,hb',run_sizeOf hj,cO _ _ h2]
    ·simp only[Rep,aC]
     refine⟨aG ad (i.toNat*j.size),by simp,rfl,fun _=>h3,cells_at _ _ (fun m k' hk=>?_) rfl⟩
     rw[dh,hsz]
     exact hx2 i.toNat m k' (by omega) hk
   ·cases h
 ·cases h
theorem yS {t:TypeId} {x ix:D} {vx vi:Value} (hx:Rep w A β x vx) (hi:Rep w A β ix vi) {e:Eff} (h:jY P t x ix=some e):
  ∃ d u,e= .val d∧(Instr.indexAt t vx vi).run P w= .ok u w∧Rep w A β d u:=by
 unfold jY at h
 split at h
 next i len elem hix hu=>
  obtain⟨k,rfl⟩:=iy hi hix
  split at h
  ·cases h
  next j hj=>
   split at h
   next hb=>
    split at h
    next id off=>
     simp at h;subst h
     simp only[Rep] at hx
     obtain⟨ad,h1,rfl⟩:=hx
     refine⟨_, .pointer (some (aG ad (off+i.toNat*j.size))),rfl,?_,by simp only[Rep];exact⟨ad,h1,rfl⟩⟩
     simp[Instr.indexAt,asIntOf,run_underlying hu,Instr.sureAddr,hb,run_sizeOf hj,cO]
    next id i0 n0 j0=>
     simp at h;subst h
     simp only[Rep] at hx
     obtain⟨ad,h1,rfl⟩:=hx
     refine⟨_, .pointer (some (aG ad (i0*n0+j0+i.toNat*j.size))),rfl,?_,by simp only[Rep];exact⟨ad,h1,by rw[Nat.add_assoc]⟩⟩
     simp[Instr.indexAt,asIntOf,run_underlying hu,Instr.sureAddr,hb,run_sizeOf hj,cO]
    next cs off=>
     simp at h;subst h
     simp only[Rep,aC] at hx
     obtain⟨ad,rfl,h1,h2,h3⟩:=hx
     refine⟨_, .pointer (some (aG ad (off+i.toNat*j.size))),rfl,?_,by simp only[Rep,aC];exact⟨ad,rfl,h1,h2,h3⟩⟩
     simp[Instr.indexAt,asIntOf,run_underlying hu,Instr.sureAddr,hb,run_sizeOf hj,cO]
    ·cases h
   ·cases h
 next i elem hix hu=>
  obtain⟨k,rfl⟩:=iy hi hix
  split at h
  ·cases h
  next j hj=>
   split at h
   next id off n sz=>
    split at h
    next hb=>
     simp at h;subst h
     simp only[Rep] at hx
     obtain⟨o,c,rfl,hx⟩:=hx
     rcases hx with⟨h1,_⟩ | ⟨_,ad,h1,rfl,_⟩
     ·omega
     refine⟨_, .pointer (some (aG ad (off+i.toNat*j.size))),rfl,?_,by simp only[Rep];exact⟨ad,h1,by rw[Nat.add_comm]⟩⟩
     simp[Instr.indexAt,asIntOf,run_underlying hu,Instr.sureAddr,hb,run_sizeOf hj,cO]
    ·cases h
   next n cs=>
    split at h
    next hb=>
     simp at h;subst h
     simp only[Rep,aC] at hx
     obtain⟨o,c,rfl,hn,hx1,hx2⟩:=hx
     obtain⟨ad,rfl,h2,h3⟩:=hx1 (.inl (by omega))
     refine⟨_, .pointer (some (aG ad (i.toNat*j.size))),rfl,?_,by simp only[Rep,aC];exact⟨ad,rfl,h2,fun _=>h3,hx2⟩⟩
     simp[Instr.indexAt,asIntOf,run_underlying hu,Instr.sureAddr,hb,run_sizeOf hj,cO _ _ h2]
    ·cases h
   ·cases h
 ·cases h
theorem BA {t:TypeId} {x ix:D} {vx vi:Value} (hx:Rep w A β x vx) (hi:Rep w A β ix vi) {e:Eff} (h:jr P t x ix=some e):
  ∃ d u,e= .val d∧(Instr.indexAt t vx vi).run P w= .ok u w∧Rep w A β d u:=by
 unfold jr at h
 split at h
 ·exact J3 hx hi h
 ·exact yS hx hi h
theorem Bl {t:TypeId} {x:D} {vx:Value} (hx:Rep w A β x vx) {f:Nat} {e:Eff} (h:lU P t x f=some e):
  ∃ d u,e= .val d∧(Instr.fieldAt t vx f).run P w= .ok u w∧Rep w A β d u:=by
 unfold lU at h
 split at h
 next fields hu=>
  split at h
  ·cases h
  next f' hf=>
   split at h
   ·cases h
   next j hj=>
    split at h
    ·cases h
    next hz=>
     split at h
     next id off=>
      simp at h;subst h
      simp only[Rep] at hx
      obtain⟨ad,h1,rfl⟩:=hx
      refine⟨_, .pointer (some (aG ad (off+f'.offset))),rfl,?_,by simp only[Rep];exact⟨ad,h1,rfl⟩⟩
      simp[Instr.fieldAt,run_underlying hu,hf,Instr.sureAddr,fieldPlace,run_sizeOf hj,hz,cO]
     next id i0 n0 j0=>
      simp at h;subst h
      simp only[Rep] at hx
      obtain⟨ad,h1,rfl⟩:=hx
      refine⟨_, .pointer (some (aG ad (i0*n0+j0+f'.offset))),rfl,?_,by simp only[Rep];exact⟨ad,h1,by rw[Nat.add_assoc]⟩⟩
      simp[Instr.fieldAt,run_underlying hu,hf,Instr.sureAddr,fieldPlace,run_sizeOf hj,hz,cO]
     next cs off=>
      simp at h;subst h
      simp only[Rep,aC] at hx
      obtain⟨ad,rfl,h1,h2,h3⟩:=hx
      refine⟨_, .pointer (some (aG ad (off+f'.offset))),rfl,?_,by simp only[Rep,aC];exact⟨ad,rfl,h1,h2,h3⟩⟩
      simp[Instr.fieldAt,run_underlying hu,hf,Instr.sureAddr,fieldPlace,run_sizeOf hj,hz,cO]
     ·cases h
 ·cases h
theorem NH {t:TypeId} {x:D} {vx:Value} (hx:Rep w A β x vx) {f:Nat} {e:Eff} (h:E5 P t x f=some e):
  ∃ d u,e= .val d∧(Instr.field t vx f).run P w= .ok u w∧Rep w A β d u:=by
 unfold E5 at h
 split at h
 next fields cs hu=>
  split at h
  ·cases h
  next f' hf=>
   simp only[Option.map_eq_some_iff] at h
   obtain⟨d,hd,rfl⟩:=h
   simp only[Rep] at hx
   obtain⟨vs,rfl,hx⟩:=hx
   obtain⟨u,k1,k2⟩:=og hx hd
   exact⟨d,u,rfl,by simp[Instr.field,run_underlying hu,hf,asAgg,k1],k2⟩
 ·cases h
theorem Nh {t:TypeId} {x ix:D} {vx vi:Value} (hx:Rep w A β x vx) (hi:Rep w A β ix vi) {e:Eff} (h:vY P t x ix=some e):
  ∃ d u,e= .val d∧(Instr.index t vx vi).run P w= .ok u w∧Rep w A β d u:=by
 unfold vY at h
 split at h
 next i len elem cs hix hu=>
  obtain⟨k,rfl⟩:=iy hi hix
  split at h
  ·cases h
  next j hj=>
   split at h
   next hb=>
    simp only[Option.map_eq_some_iff] at h
    obtain⟨d,hd,rfl⟩:=h
    simp only[Rep] at hx
    obtain⟨vs,rfl,hx⟩:=hx
    obtain⟨u,k1,k2⟩:=og hx hd
    exact⟨d,u,rfl,by simp[Instr.index,asIntOf,run_underlying hu,hb,run_sizeOf hj,k1],k2⟩
   ·cases h
 next i s hix hu=>
  obtain⟨k,rfl⟩:=iy hi hix
  split at h
  next hb=>
   split at h
   next b hs=>
    simp at h;subst h
    simp only[Rep,aC] at hx;subst hx
    exact⟨_, .int .u8 b.toNat,rfl,by simp[Instr.index,asIntOf,run_underlying hu,hb,hs],by simp[Rep,aC]⟩
   ·cases h
  ·cases h
 ·cases h
theorem Gm {x:D} {vx:Value} (hx:Rep w A β x vx) {i:Nat} {e:Eff} (h:qL x i=some e):
  ∃ d u,e= .val d∧(Instr.extract vx i).run P w= .ok u w∧Rep w A β d u:=by
 unfold qL at h
 split at h
 next cs=>
  simp only[Option.map_eq_some_iff] at h
  obtain⟨d,hd,rfl⟩:=h
  simp only[Rep] at hx
  obtain⟨vs,rfl,hx⟩:=hx
  obtain⟨u,k1,k2⟩:=hx.get i d hd
  exact⟨d,u,rfl,by simp[Instr.extract,k1],k2⟩
 ·cases h
theorem OH {o:Option D} {ov:Option Value} (hr:match o,ov with | none,none=>True | some d,some v=>Rep w A β d v | _,_=>False) {dflt most n:Nat} (h:di o dflt most=some n) (code:BoundsCode):
  match ov with | some v=>(Instr.sliceBound v most code).run P w= .ok n w∧n≤most | none=>n=dflt:=by
 cases o with
 |none=>
  cases ov with
  |none=>simp[di] at h;exact h.symm
  |some v=>exact hr.elim
 |some d=>
  cases ov with
  |none=>exact hr.elim
  |some v=>
   cases d with
   |v x=>
    cases x with
    |int k i=>
     simp only[di] at h
     split at h
     next hb=>
      simp at h;subst h
      simp only[Rep,aC] at hr
      subst hr
      exact⟨by simp[Instr.sliceBound,asIntOf,hb],by omega⟩
     ·cases h
    |_=>simp[di] at h
   |_=>simp[di] at h
theorem BP {ρ:Operand→D} {ρv:Operand→Value} (hρ:∀ x,Rep w A β (ρ x) (ρv x)) (o:Option Operand):
  match o.map ρ,o.map ρv with | none,none=>True | some d,some v=>Rep w A β d v | _,_=>False:=by
 cases o<;>simp[hρ]
theorem jb {lo hi:Option D} {vlo vhi:Option Value} (hlo:match lo,vlo with | none,none=>True | some d,some v=>Rep w A β d v | _,_=>False)
  (hhi:match hi,vhi with | none,none=>True | some d,some v=>Rep w A β d v | _,_=>False) {isSlice:Bool} {len cap h l most:Nat} (hm:len≤most) (hc:most≤cap) (h1:di hi len most=some h) (h2:di lo 0 h=some l):
  (Instr.sliceBounds isSlice len cap vlo vhi none).run P w= .ok (l,h,cap) w∧l≤h∧h≤most:=by
 have hh:h≤most:=by
  unfold di at h1
  split at h1
  ·simp at h1;omega
  ·split at h1
   ·simp at h1;omega
   ·cases h1
  ·cases h1
 have hl:l≤h:=by
  unfold di at h2
  split at h2
  ·simp at h2;omega
  ·split at h2
   ·simp at h2;omega
   ·cases h2
  ·cases h2
 refine⟨?_,hl,hh⟩
 have e1:=fun code=>OH (P:=P) hlo h2 code
 have e2:∀ code,match vhi with | some v=>(Instr.sliceBound v cap code).run P w= .ok h w | none=>h=len:=by
  intro code
  cases hi with
  |none=>
   cases vhi with
   |none=>simp[di] at h1;exact h1.symm
   |some v=>exact hhi.elim
  |some d=>
   cases vhi with
   |none=>exact hhi.elim
   |some v=>
    cases d with
    |v x=>
     cases x with
     |int k i=>
      simp only[di] at h1
      split at h1
      next hb=>
       simp at h1;subst h1
       simp only[Rep,aC] at hhi
       subst hhi
       have hb':0≤i∧i≤cap:=by omega
       show(Instr.sliceBound _ _ _).run P w=_
       simp[Instr.sliceBound,asIntOf,hb']
      ·cases h1
     |_=>simp[di] at h1
    |_=>simp[di] at h1
 cases vlo with
 |none=>
  have e3:l=0:=e1 .index
  cases vhi with
  |none=>have e4:h=len:=e2 .index;simp[Instr.sliceBounds,e3,e4]
  |some v=>simp[Instr.sliceBounds,e3,e2]
 |some v'=>
  have e3:=fun code=>(e1 code).1
  cases vhi with
  |none=>have e4:h=len:=e2 .index;subst e4;simp[Instr.sliceBounds,e3]
  |some v=>simp[Instr.sliceBounds,e3,e2]
theorem mW {cs:List Col} {l h':Nat} (h1:l≤h') (h2:h'≤rowLen cs):rowLen (cs.map (Col.part l (h' - l)))=h' - l:=by
 cases cs with
 |nil=>simp[rowLen] at *;omega
 |cons c cs=>cases c<;>simp[rowLen,Col.part,Col.len] at* <;>omega
theorem Xb {c:Col} {i l n:Nat} {x:Value} (hi:i<n) (h:Gw w A (i+l) x c):Gw w A i x (c.part l n):=by
 cases c with
 |ints k xs=>simp only[Gw,Col.part] at h ⊢;rw[h];simp[List.getD_eq_getElem?_getD,List.getElem?_take,hi,Nat.add_comm]
 |bools xs=>simp only[Gw,Col.part] at h ⊢;rw[h];simp[List.getD_eq_getElem?_getD,List.getElem?_take,hi,Nat.add_comm]
 |rows m f=>exact h
theorem Gt {t:TypeId} {cs:List Col} {vx:Value} (hx:Rep w A β (.rc cs) vx) {lo hi:Option D} {vlo vhi:Option Value}
  (hlo:match lo,vlo with | none,none=>True | some d,some v=>Rep w A β d v | _,_=>False) (hhi:match hi,vhi with | none,none=>True | some d,some v=>Rep w A β d v | _,_=>False)
  {e:Eff} (h:yA P t cs lo hi=some e):∃ d u,e= .val d∧(Instr.sliceAt t vx vlo vhi none).run P w= .ok u w∧Rep w A β d u:=by
 unfold yA at h
 split at h
 next elem hu=>
  split at h
  next j h' hj hb1=>
   split at h
   ·cases h
   next l hb2=>
    split at h
    next hsz=>
     simp at h;subst h
     simp only[Rep,aC] at hx
     obtain⟨o,c,rfl,hv,hnc,hx1,hx2⟩:=hx
     obtain⟨hrun,hl,hh⟩:=jb (P:=P) (isSlice:=true) hlo hhi (Nat.le_refl _) hnc hb1 hb2
     refine⟨_, .slice (if c=l then o else o.map (·.add (l*j.size))) (h' - l) (c - l),rfl,?_,?_⟩
     ·simp only[Instr.sliceAt,Instr.slice,Sem.run_bind,run_underlying hu,Result.andThen_ok,hrun,run_sizeOf hj,Sem.run_pure]
     ·simp only[Rep,aC]
      refine⟨_,_,by rw[mW hl hh],fun hL=>by have:=hv hL;split<;>simp_all,by rw[mW hl hh];omega,?_,?_⟩
      ·rw[mW hl hh]
       intro hne
       obtain⟨ad,rfl,h3,h4⟩:=hx1 (by omega)
       rw[if_neg (by omega)]
       exact⟨aG ad (l*j.size),by simp[cO _ _ h3],rfl,h4⟩
      ·rw[mW hl hh]
       intro i m k hi hk
       obtain⟨ad,rfl,h3,h4⟩:=hx1 (by omega)
       rw[if_neg (by omega)]
       simp only[Option.map_some,cO _ _ h3,Option.getD_some,dh,List.length_map]
       rw[List.getElem?_map,Option.map_eq_some_iff] at hk
       obtain⟨k0,hk0,rfl⟩:=hk
       obtain⟨x,hx3,hx4⟩:=hx2 (i+l) m k0 (by omega) hk0
       simp only[Option.getD_some] at hx3
       rw[hsz,←Nat.add_assoc,←Nat.add_mul,Nat.add_comm l i]
       exact⟨x,hx3,Xb hi hx4⟩
    ·cases h
  ·cases h
 ·cases h
theorem Ky (hrel:Rel w A β base σ tmps acts) {t:TypeId} {x:D} {vx:Value} (hx:Rep w A β x vx) {lo hi:Option D} {vlo vhi:Option Value}
  (hlo:match lo,vlo with | none,none=>True | some d,some v=>Rep w A β d v | _,_=>False) (hhi:match hi,vhi with | none,none=>True | some d,some v=>Rep w A β d v | _,_=>False)
  {e:Eff} (h:jS P σ.bk t x lo hi=some e):∃ d u,e= .val d∧(Instr.sliceAt t vx vlo vhi none).run P w= .ok u w∧Rep w A β d u:=by
 unfold jS at h
 split at h
 next n elem id off hu=>
  split at h
  next j h' hj hb1=>
   split at h
   ·cases h
   next l hb2=>
    split at h
    next b hbk=>
     split at h
     next hlen=>
      simp at h;subst h
      simp only[Rep] at hx
      obtain⟨ad,h1,rfl⟩:=hx
      obtain⟨hrun,hl,hh⟩:=jb (P:=P) (isSlice:=false) hlo hhi (Nat.le_refl n) (Nat.le_refl n) hb1 hb2
      refine⟨_, .slice (some (if n=l then aG ad off else aG ad (off+l*j.size))) (h' - l) (n - l),rfl,?_,?_⟩
      ·simp only[Instr.sliceAt,Sem.run_bind,run_underlying hu,Result.andThen_ok,Instr.sureAddr,Sem.run_pure,hrun,run_sizeOf hj,Ag]
      ·simp only[Rep]
       refine⟨_,_,rfl,?_⟩
       by_cases e:n=l
       ·left;omega
       ·rw[if_neg e]
        refine .inr ⟨by omega,ad,h1,rfl,?_⟩
        rcases hrel.blk id b hbk with⟨h2,_⟩ | ⟨ad',h2,h3⟩
        ·rw[h1] at h2;cases h2
        ·rw[h1] at h2;cases h2
         obtain⟨c,T,hobj⟩:=h3.obj
         refine⟨c,T,(0,0),hobj,?_⟩
         have hle:l≤n:=by omega
         have hmul:l*j.size+(n - l)*j.size=n*j.size:=by rw[←Nat.add_mul];congr 1;omega
         rcases Nat.eq_zero_or_pos (n*j.size) with hz | hz
         ·have:=h3.inside c T hobj
          have:off≤b.cells.length:=by omega
          rcases Nat.eq_zero_or_pos b.cells.length with hz2 | hz2
          ·omega
          ·obtain⟨u,hu2,_⟩:=h3.cells.get h3.spot (b.cells.length - 1) _ (List.getElem?_eq_getElem (by omega))
           have hc:w.cell? (aG ad (b.cells.length - 1))=c[ad.off+(b.cells.length - 1)]? :=fZ hobj
           rw[hc] at hu2
           have:=(Array.getElem?_eq_some_iff.1 hu2).1
           omega
         ·obtain⟨u,hu2,_⟩:=h3.cells.get h3.spot (b.cells.length - 1) _ (List.getElem?_eq_getElem (by omega))
          have hc:w.cell? (aG ad (b.cells.length - 1))=c[ad.off+(b.cells.length - 1)]? :=fZ hobj
          rw[hc] at hu2
          have:=(Array.getElem?_eq_some_iff.1 hu2).1
          omega
     ·cases h
    ·cases h
  ·cases h
 next elem n cs hu=>
  split at h
  next j h' hj hb1=>
   split at h
   ·cases h
   next l hb2=>
    simp at h;subst h
    simp only[Rep,aC] at hx
    obtain⟨o,c,rfl,hnc,hx1,hx2⟩:=hx
    obtain⟨hrun,hl,hh⟩:=jb (P:=P) (isSlice:=true) hlo hhi (Nat.le_refl _) hnc hb1 hb2
    refine⟨_, .slice (if c=l then o else o.map (·.add (l*j.size))) (h' - l) (c - l),rfl,?_,?_⟩
    ·simp only[Instr.sliceAt,Instr.slice,Sem.run_bind,run_underlying hu,Result.andThen_ok,hrun,run_sizeOf hj,Sem.run_pure]
    ·simp only[Rep,aC]
     refine⟨_,_,rfl,by omega,?_,?_⟩
     ·intro hne
      have hn0:n≠0:=by
       intro hn
       subst hn
       have e1:h' - l=0:=by omega
       rw[e1] at hne
       simp at hne
      obtain⟨ad,rfl,h3,h4⟩:=hx1 (.inl hn0)
      by_cases e:c=l
      ·rw[if_pos e];exact⟨ad,rfl,h3,h4⟩
      ·rw[if_neg e];exact⟨aG ad (l*j.size),by simp[cO _ _ h3],rfl,h4⟩
     ·by_cases e:c=l
      ·have e1:h' - l=0:=by omega
       rw[e1];simp[bC]
      ·rw[if_neg e]
       by_cases hz:n=0∧cs=[]
       ·rw[hz.2];simp[bC]
       ·obtain⟨ad,rfl,h3,h4⟩:=hx1 (by by_cases hn:n=0<;>simp_all)
        simp only[Option.map_some,cO _ _ h3,Option.getD_some]
        exact bC.take _ (bC.drop h3 (l*j.size) hx2)
  ·cases h
 next elem id off n sz hu=>
  split at h
  next j h' hj hb1=>
   split at h
   ·cases h
   next l hb2=>
    split at h
    next hsz=>
     obtain⟨sz,r⟩:=sz
     simp only at hsz hb1 h
     subst hsz
     simp at h;subst h
     simp only[Rep] at hx
     obtain⟨o,c,rfl,hx⟩:=hx
     have hnc:max n r≤c:=by rcases hx with h | h<;>omega
     obtain⟨hrun,hl,hh⟩:=jb (P:=P) (isSlice:=true) hlo hhi (Nat.le_max_left n r) hnc hb1 hb2
     refine⟨_, .slice (if c=l then o else o.map (·.add (l*j.size))) (h' - l) (c - l),rfl,?_,?_⟩
     ·simp only[Instr.sliceAt,Instr.slice,Sem.run_bind,run_underlying hu,Result.andThen_ok,hrun,run_sizeOf hj,Sem.run_pure]
     ·simp only[Rep]
      refine⟨_,_,rfl,?_⟩
      by_cases e:c=l
      ·left;omega
      ·rcases hx with⟨h1,h2⟩ | ⟨h1,ad,h2,rfl,c1,T1,fz1,h3,h4⟩
       ·omega
       ·refine .inr ⟨by omega,ad,h2,by rw[if_neg e];simp,⟨c1,T1,fz1,h3,?_⟩⟩
        have hmul:l*j.size+(c - l)*j.size=c*j.size:=by rw[←Nat.add_mul];congr 1;omega
        omega
    ·cases h
  ·cases h
 next elem hu=>
  split at h
  next j h' hj hb1=>
   split at h
   ·cases h
   next l hb2=>
    simp at h;subst h
    simp only[Rep,aC] at hx;subst hx
    obtain⟨hrun,hl,hh⟩:=jb (P:=P) (isSlice:=true) hlo hhi (Nat.le_refl 0) (Nat.le_refl 0) hb1 hb2
    obtain rfl:h'=0:=by omega
    obtain rfl:l=0:=by omega
    refine⟨_, .slice none 0 0,rfl,?_,by simp[Rep,aC]⟩
    simp[Instr.sliceAt,Instr.slice,run_underlying hu,hrun,run_sizeOf hj]
  ·cases h
 next s hu=>
  split at h
  next h' hb1=>
   split at h
   ·cases h
   next l hb2=>
    simp at h;subst h
    simp only[Rep,aC] at hx;subst hx
    obtain⟨hrun,hl,hh⟩:=jb (P:=P) (isSlice:=false) hlo hhi (Nat.le_refl s.size) (Nat.le_refl s.size) hb1 hb2
    refine⟨_, .string (s.extract l h'),rfl,?_,by simp[Rep,aC]⟩
    simp[Instr.sliceAt,Instr.slice,run_underlying hu,hrun]
  ·cases h
 ·cases h
theorem Nj (hrel:Rel w A β base σ tmps acts) {t:TypeId} {x:D} {vx:Value} (hx:Rep w A β x vx) {lo hi:Option D} {vlo vhi:Option Value}
  (hlo:match lo,vlo with | none,none=>True | some d,some v=>Rep w A β d v | _,_=>False) (hhi:match hi,vhi with | none,none=>True | some d,some v=>Rep w A β d v | _,_=>False)
  {e:Eff} (h:sN P σ.bk t x lo hi=some e):∃ d u,e= .val d∧(Instr.sliceAt t vx vlo vhi none).run P w= .ok u w∧Rep w A β d u:=by
 unfold sN at h
 split at h
 ·exact Gt hx hlo hhi h
 ·exact Ky hrel hx hlo hhi h
theorem qg {d:D} {v:Value} (h:xu d=true) (hr:Rep w A β d v):∃ k,v= .int k 0:=by
 unfold xu at h
 split at h
 next k=>simp only[Rep,aC] at hr;exact⟨k,hr⟩
 ·cases h
theorem Jq {t:TypeId} {x:D} {vx:Value} (hx:Rep w A β x vx) {lo hi:Option D} {vlo vhi:Option Value} {mx:D} {vmx:Value}
  (hlo:match lo,vlo with | none,none=>True | some d,some v=>Rep w A β d v | _,_=>False) (hhi:match hi,vhi with | none,none=>True | some d,some v=>Rep w A β d v | _,_=>False) (hmx:Rep w A β mx vmx)
  {e:Eff} (h:tH P t x lo hi mx=some e):∃ d u,e= .val d∧(Instr.sliceAt t vx vlo vhi (some vmx)).run P w= .ok u w∧Rep w A β d u:=by
 unfold tH at h
 split at h
 next elem h' hu=>
  split at h
  ·cases h
  next j hj=>
   split at h
   next hz=>
    obtain⟨z1,z2,z3⟩:=hz
    obtain⟨k1,rfl⟩:=qg z1 hmx
    cases vhi with
    |none=>exact hhi.elim
    |some vh=>
     obtain⟨k2,rfl⟩:=qg z2 hhi
     have key:∀ (o:Option Addr) (n c:Nat),(Instr.sliceAt t (.slice o n c) vlo (some (.int k2 0)) (some (.int k1 0))).run P w= .ok (.slice o 0 0) w:=by
      intro o n c
      cases lo with
      |none=>
       cases vlo with
       |none=>simp[Instr.sliceAt,Instr.slice,run_underlying hu,Instr.sliceBounds,Instr.sliceBound,asIntOf,run_sizeOf hj]
       |some v=>exact hlo.elim
      |some d=>
       cases vlo with
       |none=>exact hlo.elim
       |some v=>
        obtain⟨k3,rfl⟩:=qg (by simpa using z3) hlo
        simp[Instr.sliceAt,Instr.slice,run_underlying hu,Instr.sliceBounds,Instr.sliceBound,asIntOf,run_sizeOf hj]
     split at h
     ·split at h
      ·cases h
      next hn=>
       simp only[Option.some.injEq] at h;subst h
       simp only[Rep,aC] at hx
       obtain⟨o,c,rfl,_,hx1,_⟩:=hx
       obtain⟨ad,rfl,_⟩:=hx1 (.inl hn)
       exact⟨_,_,rfl,key _ _ _,by simp only[Rep,aC];exact⟨ad,rfl⟩⟩
     ·split at h
      ·cases h
      next hn=>
       simp only[Option.some.injEq] at h;subst h
       simp only[Rep] at hx
       obtain⟨o,c,rfl,hx⟩:=hx
       rcases hx with⟨h1,_⟩ | ⟨_,ad,_,rfl,_⟩
       ·exact absurd h1 hn
       ·exact⟨_,_,rfl,key _ _ _,by simp only[Rep,aC];exact⟨_,rfl⟩⟩
     ·simp only[Option.some.injEq] at h;subst h
      simp only[Rep,aC] at hx
      obtain⟨o,rfl⟩:=hx
      exact⟨_,_,rfl,key _ _ _,by simp only[Rep,aC];exact⟨o,rfl⟩⟩
     ·simp only[Option.some.injEq] at h;subst h
      simp only[Rep,aC] at hx;subst hx
      exact⟨_,_,rfl,key _ _ _,by simp[Rep,aC]⟩
     ·cases h
   ·unfold EZ at h
    split at h
    next id off n sz k1 l k2 hh k3 m hneg=>
     split at h
     next hb=>
      simp only[Option.some.injEq] at h;subst h
      simp only[Rep] at hx
      obtain⟨o,c,rfl,hx⟩:=hx
      have hnc:n≤c:=by rcases hx with h | h<;>omega
      cases vhi with
      |none=>exact hhi.elim
      |some vh=>
       cases vlo with
       |none=>exact hlo.elim
       |some vl=>
        simp only[Rep,aC] at hhi hlo hmx
        subst hhi;subst hlo;subst hmx
        obtain⟨m',rfl⟩:=Int.eq_ofNat_of_zero_le (show 0≤m by omega)
        obtain⟨h2,rfl⟩:=Int.eq_ofNat_of_zero_le (show 0≤hh by omega)
        obtain⟨l',rfl⟩:=Int.eq_ofNat_of_zero_le (show 0≤l by omega)
        have b1:m'≤c:=by omega
        have b2:h2≤m':=by omega
        have b3:l'≤h2:=by omega
        refine⟨.undef, .slice (if m'=l' then o else o.map (·.add (l'*j.size))) (h2 - l') (m' - l'),rfl,?_,by simp[Rep,aC]⟩
        simp[Instr.sliceAt,Instr.slice,run_underlying hu,Instr.sliceBounds,Instr.sliceBound,asIntOf,run_sizeOf hj,b1,b2,b3]
     ·cases h
    ·cases h
 ·cases h
end
end Go.Dam
end
