/- The engine: an abstract machine for the program's functions, proved right against the model. No condition. -/
import Derived.Test.YtfoelbdkgaliaaaDamY
set_option linter.unusedSectionVars false
set_option linter.unusedVariables false
set_option linter.unusedSimpArgs false
section
namespace Go.Dam
open Go Go.RowKit
variable [gB]
section
variable {P:Program} {F:FuncId→List D→D→Prop} {R:Array Oper} {O:Oper→St→St→Prop} {p:Plan}
structure QQ (P:Program) (F:FuncId→List D→D→Prop) (R:Array Oper) (p:Plan) (k:Nat) (o:Oper) (σ:St) (r:QR):Prop where
 what:(bf R o σ=some false∧r=⟨.v undef,[],[],[],none⟩)∨(bf R o σ=some true∧CO P F o (bn σ) σ.bk r)
 mine:∀ i cs,(i,cs)∈r.new→i∈p.zs k∧Unused i σ∧∀ j cs',(j,cs')∈r.new→D.bQ i cs'=false
 nodup:(r.new.map (·.1)).Nodup
 men:sF p k r.d
 menc:∀ i cs,(i,cs)∈r.new→∀ d∈cs,sF p k d
 gon:∀ g,r.gone=some g→p.Gr k=true∧g=p.tgt k
theorem QQ.step {k:Nat} {o:Oper} {σ:St} {r:QR} (h:QQ P F R p k o σ r) (hs:kindOf P o.op=0∨∀ j∈p.S k,Sep (bn σ) o (p.tgt j) r):fC P F O R p k o σ (σ.q o.dst r):=by
 rcases h.what with⟨h1,rfl⟩ | ⟨h1,h2⟩
 ·exact .skip h1
 ·exact .op h1 h2 h.mine h.nodup h.men h.menc hs h.gon
theorem P7 {k:Nat} {o:Oper} {σ:St} (h:bf R o σ=some false):QQ P F R p k o σ ⟨.v undef,[],[],[],none⟩:=
 ⟨.inl ⟨h,rfl⟩,(fun i cs h=>by cases h), .nil,(fun l _ id _=>rfl),(fun i cs h=>by cases h),(fun g h=>by cases h)⟩
theorem QQ.move {k:Nat} {o:Oper} {σ σ':St} {r:QR} (h:QQ P F R p k o σ r) (hs:Same R o σ σ') (hu:∀ i cs,(i,cs)∈r.new→Unused i σ')
  (hop:bf R o σ=some true→kindOf P o.op≤1→dB P σ'.bk (bn σ) o.type o.op=dB P σ.bk (bn σ) o.type o.op)
  (hsh:bf R o σ=some true→∀ fo args (f:FuncId) (caps as:List D) passed,callParts o.op=some (fo,args)→bn σ fo= .fn f caps→aN (share σ.bk depth) (args.toList.map (bn σ) ++ caps)=some (as,passed)→r.told=passed→
   aN (share σ'.bk depth) (args.toList.map (bn σ) ++ caps)=some (as,passed)) (hgo:∀ g,r.gone=some g→σ'.bk g=σ.bk g):QQ P F R p k o σ' r where
 what:=by
  rcases h.what with⟨h1,h2⟩ | ⟨h1,h2⟩
  ·exact .inl ⟨hs.wanted.trans h1,h2⟩
  ·exact .inr ⟨hs.wanted.trans h1,XU h2 hs.eval (hop h1) (hsh h1) hgo⟩
 mine:=fun i cs hm=>⟨(h.mine i cs hm).1,hu i cs hm,(h.mine i cs hm).2.2⟩
 nodup:=h.nodup
 men:=h.men
 menc:=h.menc
 gon:=h.gon
theorem ED {op:Op} {fo:Operand} {args:Array Operand} (h:callParts op=some (fo,args)):fo∈op.operands∧∀ x∈args.toList,x∈op.operands:=by
 cases op with
 |call c=>
  obtain⟨callee,as,ts⟩:=c
  cases callee with
  |value g=>
   simp[callParts] at h
   obtain⟨rfl,rfl⟩:=h
   exact⟨by simp[Op.operands,Call.operands],fun x hx=>by simp[Op.operands,Call.operands];right;simpa using hx⟩
  |_=>simp[callParts] at h
 |_=>simp[callParts] at h
theorem Oi {σ:St} {op:Op} {fo:Operand} {args:Array Operand} {f:FuncId} {caps:List D} (h:callParts op=some (fo,args)) (hf:bn σ fo= .fn f caps) {id:Nat} (he:∀ x∈op.operands,(bn σ x).has id=false):
  D.bQ id (args.toList.map (bn σ) ++ caps)=false:=by
 obtain⟨h1,h2⟩:=ED h
 refine bV fun d hd=>?_
 rcases List.mem_append.1 hd with hd | hd
 ·simp only[List.mem_map] at hd
  obtain⟨x,hx,rfl⟩:=hd
  exact he x (h2 x hx)
 ·have:=he fo h1
  rw[hf] at this
  exact lK (by simpa [D.has] using this) d hd
theorem pW (σ:St) (dst:Option Tmp) (r:QR):(σ.q dst r).bk=lm σ.bk r:=by cases dst<;>rfl
theorem St.ext' {σ σ':St} (h1:σ.fr=σ'.fr) (h2:σ.stk=σ'.stk) (h3:σ.bk=σ'.bk) (h4:σ.loop=σ'.loop):σ=σ':=by
 cases σ;cases σ';simp at h1 h2 h3 h4;simp[h1,h2,h3,h4]
theorem LZ (σ:St) (dst:Option Tmp) (d:D):(σ.put dst d).loop=σ.loop:=by cases dst<;>rfl
theorem jM (σ:St) (dst:Option Tmp) (d:D):(σ.put dst d).stk=σ.stk∧(σ.put dst d).bk=σ.bk:=by cases dst<;>exact⟨rfl,rfl⟩
theorem gG {op:Op} (h:kindOf P op=0) {fo:Operand} {args:Array Operand}:callParts op≠some (fo,args):=by
 intro hc
 cases op with
 |call c=>
  obtain⟨callee,as,ts⟩:=c
  cases callee with
  |value g=>simp[kindOf] at h
  |_=>simp[callParts] at hc
 |_=>simp[callParts] at hc
theorem XP {o:Oper} {ρ:Operand→D} {bk:Nat→Option dR} {r:QR} (hk:kindOf P o.op=0) (h:CO P F o ρ bk r):r.ro=[]:=by
 cases h with
 |call h _ _ _ _=>exact absurd h (gG hk)
 |_=>rfl
theorem Ox {o:Oper} {ρ:Operand→D} {bk:Nat→Option dR} {r:QR} (h:CO P F o ρ bk r):∀ g,g∈r.ro→g∈r.told:=by
 cases h with
 |call h1 h2 h3 h4 h5=>
  intro g hg
  simp only at hg ⊢
  split at hg
  ·cases hg
  ·exact hg
 |_=>intro g hg;cases hg
theorem D8 {o:Oper} {ρ:Operand→D} {bk:Nat→Option dR} {r:QR} (h:CO P F o ρ bk r) {g:Nat} (hg:r.gone=some g):(∃ y∈o.op.operands,(ρ y).has g=true)∧kindOf P o.op=1∧r.ro=[]∧bk g≠none:=by
 cases h with
 |grow hk hy h1 hz hb hl=>
  simp only[Option.some.injEq] at hg;subst hg
  obtain⟨y,y1,y2⟩:=hy
  exact⟨⟨y,y1,by rw[y2];simp[D.has]⟩,hk,rfl,by rw[hb];simp⟩
 |_=>cases hg
theorem DL {bk:Nat→Option dR} {r:QR}:Agree (fun i=>∃ cs,(i,cs)∈r.new) bk (lm bk { r with gone:=none }):=fun i hi=>ab7 (r:={ r with gone:=none }) i fun h=>by
 rcases h with h | h
 ·exact hi h
 ·cases h
theorem EG {bk:Nat→Option dR} {r:QR} {g:Nat} (hg:∀ i,r.gone=some i→i=g):Agree (·=g) (lm bk { r with gone:=none }) (lm bk r):=by
 intro i hi
 simp only[lm]
 cases kX i r.new with
 |some b=>rfl
 |none=>
  simp only[]
  rw[if_neg (show ¬ r.gone=some i from fun h=>hi (hg i h))]
  simp
theorem Dv {bk:Nat→Option dR} {r:QR} (h:r.gone=none):lm bk { r with gone:=none }=lm bk r:=by
 cases r;simp only at h;subst h;rfl
theorem MN {bk:Nat→Option dR} {r:QR} {ρ:Operand→D} {o:Oper} {ri:QR} (hk:kindOf P o.op≤1) (hn:∀ x∈o.op.operands,∀ id cs,(id,cs)∈r.new→(ρ x).has id=false)
  (hs:∀ g,r.gone=some g→kindOf P o.op=0∨Sep ρ o g ri):dB P (lm bk r) ρ o.type o.op=dB P bk ρ o.type o.op:=by
 have h1:dB P (lm bk { r with gone:=none }) ρ o.type o.op=dB P bk ρ o.type o.op:=zM DL hk fun x hx id ⟨cs,hid⟩=>hn x hx id cs hid
 cases hg:r.gone with
 |none=>rw[←Dv hg];exact h1
 |some g=>
  rcases hs g hg with h0 | h2
  ·exact rQ h0
  ·rw[←h1]
   exact zM (EG (g:=g) fun i e=>by rw[hg] at e;cases e;rfl) hk fun y hy n hn=>by subst hn;exact h2.1 y hy
theorem Pg {bk:Nat→Option dR} {r ri:QR} {ρ:Operand→D} {o:Oper} {ds as:List D} {passed:List Nat} (hb:∀ l b,bk l=some b→∀ id cs,(id,cs)∈r.new→D.bQ id b.cells=false) (hds:∀ id cs,(id,cs)∈r.new→D.bQ id ds=false)
  (ht:ri.told=passed) (hs:∀ g,r.gone=some g→Sep ρ o g ri) (h:aN (share bk depth) ds=some (as,passed)):aN (share (lm bk r) depth) ds=some (as,passed):=by
 have h1:aN (share (lm bk { r with gone:=none }) depth) ds=some (as,passed):=by
  rw[←h]
  exact iT DL (fun l b hb' id ⟨cs,hid⟩=>hb l b hb' id cs hid) depth _ fun id ⟨cs,hid⟩=>hds id cs hid
 cases hg:r.gone with
 |none=>rw[←Dv hg];exact h1
 |some g=>exact kK (EG (g:=g) fun i e=>by rw[hg] at e;cases e;rfl) depth _ as passed h1 (by rw[←ht];exact(hs g hg).2)
theorem QN {bk:Nat→Option dR} {r ri:QR} {ρ:Operand→D} {o:Oper} {ds as:List D} {passed:List Nat} (hb:∀ l b,bk l=some b→∀ id cs,(id,cs)∈r.new→D.bQ id b.cells=false) (hds:∀ id cs,(id,cs)∈r.new→D.bQ id ds=false)
  (ht:ri.told=passed) (hs:∀ g,r.gone=some g→Sep ρ o g ri) (h:aN (share (lm bk r) depth) ds=some (as,passed)):aN (share bk depth) ds=some (as,passed):=by
 have h1:aN (share (lm bk { r with gone:=none }) depth) ds=some (as,passed):=by
  cases hg:r.gone with
  |none=>rw[Dv hg];exact h
  |some g=>exact kK (EG (g:=g) fun i e=>by rw[hg] at e;cases e;rfl).symm depth _ as passed h (by rw[←ht];exact(hs g hg).2)
 rw[←h1]
 exact(iT DL (fun l b hb' id ⟨cs,hid⟩=>hb l b hb' id cs hid) depth _ fun id ⟨cs,hid⟩=>hds id cs hid).symm
theorem ZY {i j:Nat} (hij:p.W j i=true) {oi oj:Oper} (hap:oi.apart R oj=true) (hdis:∀ id,id∈p.zs i→id∉p.zs j) {σ:St} {ri rj:QR} (hi:QQ P F R p i oi σ ri) (hj:QQ P F R p j oj (σ.q oi.dst ri) rj) (hu:∀ id cs,(id,cs)∈rj.new→Unused id σ)
  (gi:∀ g,rj.gone=some g→bf R oi σ=some true→kindOf P oi.op=0∨Sep (bn σ) oi g ri) (gj:∀ g,ri.gone=some g→bf R oj (σ.q oi.dst ri)=some true→kindOf P oj.op=0∨Sep (bn (σ.q oi.dst ri)) oj g rj):
  QQ P F R p j oj σ rj∧QQ P F R p i oi (σ.q oj.dst rj) ri∧(σ.q oi.dst ri).q oj.dst rj=(σ.q oj.dst rj).q oi.dst ri:=by
 obtain⟨a1,a2,a3⟩:=Oper.apart_spec hap
 have sj:Same R oj σ (σ.q oi.dst ri):=sV a1
 have si:Same R oi σ (σ.q oj.dst rj):=sV a3
 have ui:∀ id cs,(id,cs)∈ri.new→Unused id σ:=fun id cs h=>(hi.mine id cs h).2.1
 have told_i:bf R oi σ=some true→∀ g,rj.gone=some g→∀ fo args,callParts oi.op=some (fo,args)→Sep (bn σ) oi g ri:=fun hw g hg fo args hc=>by
  rcases gi g hg hw with h | h
  ·exact absurd hc (gG h)
  ·exact h
 have told_j:bf R oj (σ.q oi.dst ri)=some true→∀ g,ri.gone=some g→∀ fo args,callParts oj.op=some (fo,args)→Sep (bn (σ.q oi.dst ri)) oj g rj:=fun hw g hg fo args hc=>by
  rcases gj g hg hw with h | h
  ·exact absurd hc (gG h)
  ·exact h
 have no_i:∀ g,rj.gone=some g→g∉ri.ro∧ri.gone≠some g∧∀ cs,(g,cs)∉ri.new:=by
  intro g hg
  rcases hj.what with⟨_,rfl⟩ | ⟨hwj,qj⟩
  ·cases hg
  obtain⟨⟨y,y1,y2⟩,kj,_,bj⟩:=D8 qj hg
  refine⟨fun hr=>?_,fun he=>?_,fun cs hc=>?_⟩
  ·rcases hi.what with⟨_,rfl⟩ | ⟨hwi,qi⟩
   ·cases hr
   ·rcases gi g hg hwi with h | h
    ·exact absurd hr (by rw[XP h qi];simp)
    ·exact h.2 (Ox qi g hr)
  ·rcases gj g he hwj with h | h
   ·rw[kj] at h;cases h
   ·rw[h.1 y y1] at y2;cases y2
  ·have:=(ui g cs hc).eval y
   rw[←sj.eval y y1,y2] at this;cases this
 have no_j:∀ g,ri.gone=some g→g∉rj.ro∧∀ cs,(g,cs)∉rj.new:=by
  intro g hg
  rcases hi.what with⟨_,rfl⟩ | ⟨hwi,qi⟩
  ·cases hg
  obtain⟨⟨y,y1,y2⟩,kj,_,bj⟩:=D8 qi hg
  refine⟨fun hr=>?_,fun cs hc=>?_⟩
  ·rcases hj.what with⟨_,rfl⟩ | ⟨hwj,qj⟩
   ·cases hr
   ·rcases gj g hg hwj with h | h
    ·exact absurd hr (by rw[XP h qj];simp)
    ·exact h.2 (Ox qj g hr)
  ·have:=(hu g cs hc).eval y
   rw[y2] at this;cases this
 have hj':QQ P F R p j oj σ rj:=by
  refine hj.move sj.symm hu (fun hw hk=>?_) (fun hw fo args f caps as passed h1 h2 h3 h4=>?_) fun g hg=>?_
  ·rw[pW]
   refine(MN (ri:=rj) hk (fun x hx id cs hid=>?_) fun g hg=>gj g hg hw).symm
   rw[sj.eval x hx];exact(ui id cs hid).eval x
  ·rw[pW] at h3
   refine QN (fun l b hb id cs hid=>(ui id cs hid).bk l b hb) (fun id cs hid=>?_) h4 (fun g hg=>told_j hw g hg fo args h1) h3
   have e2:bn (σ.q oi.dst ri) fo= .fn f caps:=h2
   refine Oi h1 e2 (fun x hx=>?_)
   rw[sj.eval x hx]
   exact(ui id cs hid).eval x
  ·obtain⟨k1,k2,k3⟩:=no_i g hg
   rw[pW];simp only[lm,fQ k3,if_neg k1,if_neg k2]
 have hi':QQ P F R p i oi (σ.q oj.dst rj) ri:=by
  refine hi.move si (fun id cs h=>?_) (fun hw hk=>?_) (fun hw fo args f caps as passed h1 h2 h3 h4=>?_) fun g hg=>?_
  ·have hz:=(hi.mine id cs h).1
   refine qP (ui id cs h) (hj.men i hij id hz) (fun cs' h'=>?_) (fun l cs' h'=>bV fun d hd=>hj.menc l cs' h' d hd i hij id hz)
   exact hdis id hz (hj.mine id cs' h').1
  ·rw[pW]
   exact MN (ri:=ri) hk (fun x hx id cs hid=>(hu id cs hid).eval x) fun g hg=>gi g hg hw
  ·rw[pW]
   exact Pg (fun l b hb id cs hid=>(hu id cs hid).bk l b hb) (fun id cs hid=>Oi h1 h2 (fun x hx=>(hu id cs hid).eval x)) h4 (fun g hg=>told_i hw g hg fo args h1) h3
  ·obtain⟨k1,k3⟩:=no_j g hg
   have k2:rj.gone≠some g:=fun e=>(no_i g e).2.1 hg
   rw[pW];simp only[lm,fQ k3,if_neg k1,if_neg k2]
 refine⟨hj',hi',?_⟩
 have roi:∀ id cs,(id,cs)∈rj.new→id∉ri.ro:=by
  intro id cs h
  rcases hi.what with⟨_,rfl⟩ | ⟨_,h2⟩
  ·simp
  ·exact Ze h2 (fun l b hb=>(hu id cs h).bk l b hb) (fun x hx=>(hu id cs h).eval x)
 have roj:∀ id cs,(id,cs)∈ri.new→id∉rj.ro:=by
  intro id cs h
  rcases hj'.what with⟨_,rfl⟩ | ⟨_,h2⟩
  ·simp
  ·exact Ze h2 (fun l b hb=>(ui id cs h).bk l b hb) (fun x hx=>(ui id cs h).eval x)
 have hbk:lm (lm σ.bk ri) rj=lm (lm σ.bk rj) ri:=by
  funext id
  simp only[lm]
  cases h1:kX id ri.new with
  |some b=>
   obtain⟨cs,m1,_⟩:=rM h1
   cases h2:kX id rj.new with
   |some b'=>
    obtain⟨cs',m2,_⟩:=rM h2
    exact absurd (hj.mine id cs' m2).1 (hdis id (hi.mine id cs m1).1)
   |none=>
    have:rj.gone≠some id:=fun e=>(no_i id e).2.2 cs m1
    simp[roj id cs m1,this]
  |none=>
   cases h2:kX id rj.new with
   |some b'=>
    obtain⟨cs',m2,_⟩:=rM h2
    have:ri.gone≠some id:=fun e=>(no_j id e).2 cs' m2
    simp[roi id cs' m2,this]
   |none=>
    simp only[]
    by_cases x1:id∈ri.ro<;>by_cases x2:id∈rj.ro<;>by_cases x3:ri.gone=some id<;>by_cases x4:rj.gone=some id<;>simp[x1,x2,x3,x4]
 refine St.ext' ?_ ?_ ?_ (by cases oi.dst<;>cases oj.dst<;>rfl)
 ·have e1:=congrArg St.fr (St.put_comm ({ σ with bk:=lm (lm σ.bk ri) rj }:St) (s:=oi.dst) (t:=oj.dst) a2 ri.d rj.d)
  have e2:((σ.q oi.dst ri).q oj.dst rj).fr=((St.put ({ σ with bk:=lm (lm σ.bk ri) rj }:St) oi.dst ri.d).put oj.dst rj.d).fr:=by
   cases oi.dst<;>cases oj.dst<;>rfl
  have e3:((σ.q oj.dst rj).q oi.dst ri).fr=((St.put ({ σ with bk:=lm (lm σ.bk ri) rj }:St) oj.dst rj.d).put oi.dst ri.d).fr:=by
   cases oi.dst<;>cases oj.dst<;>rfl
  rw[e2,e3,e1]
 ·cases oi.dst<;>cases oj.dst<;>rfl
 ·rw[pW,pW,pW,pW];exact hbk
theorem UD {x:D} {cs:List D} {id:Nat} (h:x.cells=some cs) (hx:x.has id=false):D.bQ id cs=false:=by
 cases x with
 |agg ds=>simp[D.cells] at h;subst h;simpa [D.has] using hx
 |v y=>
  simp[D.cells] at h;subst h
  refine bV fun d hd=>?_
  simp only[List.mem_map] at hd
  obtain⟨z,_,rfl⟩:=hd
  rfl
 |sh n ds=>simp[D.cells] at h;subst h;simp[D.bQ];exact hx
 |sl a b c d=>simp[D.cells] at h;subst h;simp[D.bQ];exact hx
 |ptr a b=>simp[D.cells] at h;subst h;simp[D.bQ];exact hx
 |pel a b c d=>simp[D.cells] at h;subst h;simp[D.bQ];exact hx
 |shp ds off=>simp[D.cells] at h;subst h;simp[D.bQ];exact hx
 |emp=>simp[D.cells] at h;subst h;rfl
 |rc cs=>simp[D.cells] at h;subst h;rfl
 |fn f ds=>simp[D.cells] at h;subst h;simp[D.bQ];exact hx
 |_=>simp[D.cells] at h
theorem kind2 {op:Op} (h:kindOf P op=2):∃ t ad x,op= .store t ad x:=by
 unfold kindOf at h
 split at h<;>first | (cases h;done) | exact⟨_,_,_,rfl⟩ | (exfalso;omega)
theorem MX {bk:Nat→Option dR} {ρ:Operand→D} {ty t:TypeId} {ad x:Operand} {id off:Nat} {ds:List D} (h:dB P bk ρ ty (.store t ad x)=some (.sto id off ds)):(ρ ad).has id=true∧(ρ x).cells=some ds:=by
 simp only[dB,rq] at h
 split at h
 next i o d inf h1 h2 h3=>
  split at h
  ·simp at h;obtain⟨rfl,rfl,rfl⟩:=h;exact⟨by rw[h1];simp[D.has],h2⟩
  ·cases h
 next i o n j d inf h1 h2 h3=>
  split at h
  ·simp at h;obtain⟨rfl,rfl,rfl⟩:=h;exact⟨by rw[h1];simp[D.has],h2⟩
  ·cases h
 ·cases h
theorem PO {id:Nat} {cs ds:List D} {off:Nat} (h1:D.bQ id cs=false) (h2:D.bQ id ds=false):D.bQ id (splice cs off ds)=false:=by
 refine bV fun d hd=>?_
 simp only[splice,List.mem_append] at hd
 rcases hd with(hd | hd) | hd
 ·exact lK h1 d (List.mem_of_mem_take hd)
 ·exact lK h2 d hd
 ·exact lK h1 d (List.mem_of_mem_drop hd)
theorem lW {id j off:Nat} {σ:St} {cells ds:List D} {dst:Option Tmp} (h:Unused id σ) (hb:σ.bk j=some ⟨cells,false⟩) (hd:D.bQ id ds=false):Unused id ((σ.setB j ⟨splice cells off ds,false⟩).put dst (.v undef)) where
 fr:=fun t=>by
  cases dst with
  |none=>exact h.fr t
  |some s=>
   simp only[St.put,Fr.put,St.setB]
   split
   ·have key:∀ (p:Prop) (i:Decidable p),D.has id (@ite D p i (.v undef) .undef)=false:=by
     intro p i;by_cases hs:p
     ·rw[if_pos hs];rfl
     ·rw[if_neg hs];rfl
    exact key _ _
   ·exact h.fr t
 stk:=fun f hf=>by
  rw[(jM _ dst _).1] at hf
  exact h.stk f hf
 lp:=fun e=>by rw[LZ];exact h.lp e
 no:=by
  rw[(jM _ dst _).2]
  simp only[St.setB]
  split
  next e=>subst e;rw[h.no] at hb;cases hb
  next=>exact h.no
 bk:=fun i b hbi=>by
  rw[(jM _ dst _).2] at hbi
  simp only[St.setB] at hbi
  split at hbi
  next e=>simp at hbi;subst hbi;exact PO (h.bk j _ hb) hd
  next=>exact h.bk i b hbi
theorem abP {i j:Nat} {oi oj:Oper} (hap:oi.apart R oj=true) {σ:St} {ri:QR} (hi:QQ P F R p i oi σ ri) {id off:Nat} {ds cells:List D} (hw:bf R oj (σ.q oi.dst ri)=some true) (hk:kindOf P oj.op=2)
  (hop:dB P (σ.q oi.dst ri).bk (bn (σ.q oi.dst ri)) oj.type oj.op=some (.sto id off ds)) (hb:(σ.q oi.dst ri).bk id=some ⟨cells,false⟩) (hl:off+ds.length≤cells.length) (hm:∀ d∈ds,sF p j d)
  (hsep:bf R oi σ=some true→kindOf P oi.op=0∨Sep (bn σ) oi id ri) (ht:p.U j=true→id=p.tgt j):
  fC P F O R p j oj σ ((σ.setB id ⟨splice cells off ds,false⟩).put oj.dst (.v undef))∧QQ P F R p i oi ((σ.setB id ⟨splice cells off ds,false⟩).put oj.dst (.v undef)) ri∧
   ((σ.q oi.dst ri).setB id ⟨splice cells off ds,false⟩).put oj.dst (.v undef)=((σ.setB id ⟨splice cells off ds,false⟩).put oj.dst (.v undef)).q oi.dst ri:=by
 obtain⟨a1,a2,a3⟩:=Oper.apart_spec hap
 have sj:Same R oj σ (σ.q oi.dst ri):=sV a1
 obtain⟨t,ad,x,hopj⟩:=kind2 hk
 rw[hopj] at hop
 obtain⟨p1,p2⟩:=MX hop
 have ead:=sj.eval ad (by rw[hopj];simp[Op.operands])
 have ex:=sj.eval x (by rw[hopj];simp[Op.operands])
 rw[ead] at p1
 rw[ex] at p2
 have hnew:∀ cs,(id,cs)∉ri.new:=by
  intro cs hc
  have:=((hi.mine id cs hc).2.1).eval ad
  rw[p1] at this
  cases this
 have hgone:ri.gone≠some id:=fun e=>by
  rw[pW] at hb
  simp only[lm,fQ hnew,if_pos e] at hb
  cases hb
 have hbσ:σ.bk id=some ⟨cells,false⟩∧id∉ri.ro:=by
  rw[pW] at hb
  simp only[lm,fQ hnew,if_neg hgone] at hb
  split at hb
  ·cases h:σ.bk id with
   |none=>rw[h] at hb;cases hb
   |some b=>rw[h] at hb;simp at hb
  next hr=>exact⟨hb,hr⟩
 have hopσ:dB P σ.bk (bn σ) oj.type oj.op=some (.sto id off ds):=by
  rw[hopj]
  have:dB P σ.bk (bn σ) oj.type (.store t ad x)=dB P (σ.q oi.dst ri).bk (bn (σ.q oi.dst ri)) oj.type (.store t ad x):=by
   simp only[dB,ead,ex]
  rw[this];exact hop
 have si:Same R oi σ ((σ.setB id ⟨splice cells off ds,false⟩).put oj.dst (.v undef)):=Es a3
 have hag:Agree (·=id) σ.bk ((σ.setB id ⟨splice cells off ds,false⟩).put oj.dst (.v undef)).bk:=by
  intro l hl'
  rw[(jM _ oj.dst _).2]
  simp only[St.setB,if_neg hl']
 refine⟨.sto (by rw[←sj.wanted];exact hw) hk hopσ hbσ.1 hl hm ht,?_,?_⟩
 ·refine hi.move si (fun l cs hc=>?_) (fun hw1 hk1=>?_) (fun hw1 fo args f caps as passed h1 h2 h3 h4=>?_) ?_
  ·have hul:=(hi.mine l cs hc).2.1
   exact lW hul hbσ.1 (UD p2 (hul.eval x))
  ·rcases hsep hw1 with h0 | hs
   ·exact rQ h0
   ·exact zM hag hk1 (fun y hy n hn=>by subst hn;exact hs.1 y hy)
  ·rcases hsep hw1 with h0 | hs
   ·exact absurd h1 (gG h0)
   ·have hnot:id∉passed:=by rw[←h4];exact hs.2
    exact kK hag depth _ as passed h3 hnot
  ·intro g hg
   rw[(jM _ oj.dst _).2]
   simp only[St.setB]
   rw[if_neg fun e=>hgone (by rw[hg,e])]
 ·refine St.ext' ?_ ?_ ?_ (by cases oi.dst<;>cases oj.dst<;>rfl)
  ·have e1:=congrArg St.fr (St.put_comm σ (s:=oi.dst) (t:=oj.dst) a2 ri.d (.v undef))
   have e2:(((σ.q oi.dst ri).setB id ⟨splice cells off ds,false⟩).put oj.dst (.v undef)).fr=((σ.put oi.dst ri.d).put oj.dst (.v undef)).fr:=by
    cases oi.dst<;>cases oj.dst<;>rfl
   have e3:(((σ.setB id ⟨splice cells off ds,false⟩).put oj.dst (.v undef)).q oi.dst ri).fr=((σ.put oj.dst (.v undef)).put oi.dst ri.d).fr:=by
    cases oi.dst<;>cases oj.dst<;>rfl
   rw[e2,e3,e1]
  ·cases oi.dst<;>cases oj.dst<;>rfl
  ·rw[(jM _ oj.dst _).2,pW,(jM _ oj.dst _).2]
   funext l
   simp only[St.setB,pW,lm]
   by_cases e:l=id
   ·subst e
    simp[fQ hnew,hbσ.2,hgone]
   ·simp[e]
theorem abX {i j:Nat} {oi oj:Oper} (hap:oi.apart R oj=true) {σ:St} {rj:QR} {id off:Nat} {ds cells:List D} (hw:bf R oi σ=some true) (hk:kindOf P oi.op=2)
  (hop:dB P σ.bk (bn σ) oi.type oi.op=some (.sto id off ds)) (hb:σ.bk id=some ⟨cells,false⟩) (hl:off+ds.length≤cells.length) (hm:∀ d∈ds,sF p i d) (ht:p.U i=true→id=p.tgt i)
  (hj:QQ P F R p j oj ((σ.setB id ⟨splice cells off ds,false⟩).put oi.dst (.v undef)) rj) (hk0:bf R oj ((σ.setB id ⟨splice cells off ds,false⟩).put oi.dst (.v undef))=some true→kindOf P oj.op=0) (hu:∀ id cs,(id,cs)∈rj.new→Unused id σ):
  QQ P F R p j oj σ rj∧(fC P F O R p i oi (σ.q oj.dst rj) (((σ.q oj.dst rj).setB id ⟨splice cells off ds,false⟩).put oi.dst (.v undef)))∧
   ((σ.setB id ⟨splice cells off ds,false⟩).put oi.dst (.v undef)).q oj.dst rj=((σ.q oj.dst rj).setB id ⟨splice cells off ds,false⟩).put oi.dst (.v undef):=by
 obtain⟨a1,a2,a3⟩:=Oper.apart_spec hap
 have sj:Same R oj σ ((σ.setB id ⟨splice cells off ds,false⟩).put oi.dst (.v undef)):=Es a1
 have si:Same R oi σ (σ.q oj.dst rj):=sV a3
 obtain⟨t,ad,x,hopi⟩:=kind2 hk
 have hj':QQ P F R p j oj σ rj:=by
  refine hj.move sj.symm hu (fun hw1 _=>rQ (hk0 hw1)) (fun hw1 fo args f caps as passed h1 h2 h3 h4=>absurd h1 (gG (hk0 hw1))) (fun g hg=>by
   rcases hj.what with⟨_,rfl⟩ | ⟨hw1,h2⟩
   ·cases hg
   ·have:=(D8 h2 hg).2.1;rw[hk0 hw1] at this;cases this)
 have hnew:∀ cs,(id,cs)∉rj.new:=fun cs hc=>by have:=(hu id cs hc).no;rw[hb] at this;cases this
 have hro:id∉rj.ro∧rj.gone=none:=by
  rcases hj.what with⟨_,rfl⟩ | ⟨hw1,h2⟩
  ·simp
  ·cases h2 with
   |call h1 _ _ _ _=>exact absurd h1 (gG (hk0 hw1))
   |grow h1 _ _ _ _ _=>rw[hk0 hw1] at h1;cases h1
   |_=>simp
 refine⟨hj',?_,?_⟩
 ·refine .sto (si.wanted.trans hw) hk ?_ ?_ hl hm ht
  ·rw[hopi] at hop ⊢
   have:dB P (σ.q oj.dst rj).bk (bn (σ.q oj.dst rj)) oi.type (.store t ad x)=dB P σ.bk (bn σ) oi.type (.store t ad x):=by
    simp only[dB,si.eval ad (by rw[hopi];simp[Op.operands]),si.eval x (by rw[hopi];simp[Op.operands])]
   rw[this];exact hop
  ·rw[pW];simp only[lm,fQ hnew,hro.2,if_neg hro.1];simpa using hb
 ·refine St.ext' ?_ ?_ ?_ (by cases oi.dst<;>cases oj.dst<;>rfl)
  ·have e1:=congrArg St.fr (St.put_comm σ (s:=oi.dst) (t:=oj.dst) a2 (.v undef) rj.d)
   have e2:(((σ.setB id ⟨splice cells off ds,false⟩).put oi.dst (.v undef)).q oj.dst rj).fr=((σ.put oi.dst (.v undef)).put oj.dst rj.d).fr:=by
    cases oi.dst<;>cases oj.dst<;>rfl
   have e3:(((σ.q oj.dst rj).setB id ⟨splice cells off ds,false⟩).put oi.dst (.v undef)).fr=((σ.put oj.dst rj.d).put oi.dst (.v undef)).fr:=by
    cases oi.dst<;>cases oj.dst<;>rfl
   rw[e2,e3,e1]
  ·cases oi.dst<;>cases oj.dst<;>rfl
  ·rw[pW,(jM _ oi.dst _).2,(jM _ oi.dst _).2]
   funext l
   simp only[St.setB,pW,lm]
   by_cases e:l=id
   ·subst e
    simp[fQ hnew,hro.1,hro.2]
   ·simp[e]
theorem rH {id:Nat} {σ:St} {dst:Option Tmp} {v:Value} (h:Unused id (σ.put dst (.v undef))):Unused id (σ.put dst (D.l7 v)) where
 fr:=fun t=>by
  have h1:=h.fr t
  cases dst with
  |none=>exact h1
  |some s=>
   simp only[St.put,Fr.put] at h1 ⊢
   split
   ·split
    ·exact RZ v id
    ·rfl
   ·next hne=>rw[if_neg hne] at h1;exact h1
 stk:=fun f hf=>by
  rw[(jM _ dst _).1] at hf
  exact h.stk f (by rw[(jM _ dst _).1];exact hf)
 no:=by have:=h.no;rw[(jM _ dst _).2] at this ⊢;exact this
 lp:=fun e=>by have:=h.lp e;rw[LZ] at this ⊢;exact this
 bk:=fun i b hb=>by
  rw[(jM _ dst _).2] at hb
  exact h.bk i b (by rw[(jM _ dst _).2];exact hb)
theorem zo {bk:Nat→Option dR} {ρ:Operand→D} {ty:TypeId} {op:Op} {e:Eff} (hk:kindOf P op=0) (h:dB P bk ρ ty op=some e):∃ d,e= .val d:=by
 have hp:∀ (s:Sem Value),qF P s=some e→∃ d,e= .val d:=fun s h=>by
  simp only[qF,Option.map_eq_some_iff] at h;obtain⟨u,_,rfl⟩:=h;exact⟨_,rfl⟩
 cases op with
 |move x=>simp only[dB,Option.some.injEq] at h;exact⟨_,h.symm⟩
 |assign x=>simp only[dB,Option.some.injEq] at h;exact⟨_,h.symm⟩
 |pick c a b=>simp only[dB,KY] at h;(repeat' split at h)<;>first | exact hp _ h | (simp only[Option.some.injEq] at h;exact⟨_,h.symm⟩) | (simp only[Option.map_eq_some_iff] at h;obtain⟨u,_,rfl⟩:=h;exact⟨_,rfl⟩) | cases h
 |build t ps=>
  simp only[dB,EH] at h
  split at h
  ·split at h
   ·simp only[Option.map_eq_some_iff] at h;obtain⟨u,_,rfl⟩:=h;exact⟨_,rfl⟩
   ·cases h
  ·split at h
   ·cases h
   ·simp only[Option.map_eq_some_iff] at h;obtain⟨u,_,rfl⟩:=h;exact⟨_,rfl⟩
  ·cases h
 |nilCheck x=>simp only[dB,Sm] at h;split at h<;>first | (simp only[Option.some.injEq] at h;exact⟨_,h.symm⟩) | cases h
 |binOp o t x y yt=>simp only[dB,Ul,wO,BU] at h;(repeat' split at h)<;>first | exact hp _ h | (simp only[Option.some.injEq] at h;exact⟨_,h.symm⟩) | (simp only[Option.map_eq_some_iff] at h;obtain⟨u,_,rfl⟩:=h;exact⟨_,rfl⟩) | cases h
 |unOp o t x=>simp only[dB,aag] at h;(repeat' split at h)<;>first | exact hp _ h | (simp only[Option.some.injEq] at h;exact⟨_,h.symm⟩) | (simp only[Option.map_eq_some_iff] at h;obtain⟨u,_,rfl⟩:=h;exact⟨_,rfl⟩) | cases h
 |convert s d x=>simp only[dB,J7] at h;(repeat' split at h)<;>first | exact hp _ h | (simp only[Option.some.injEq] at h;exact⟨_,h.symm⟩) | (simp only[Option.map_eq_some_iff] at h;obtain⟨u,_,rfl⟩:=h;exact⟨_,rfl⟩) | cases h
 |makeFunc f a b=>
  cases f<;>simp only[dB] at h<;>first | (split at h<;>first | (simp only[Option.some.injEq] at h;exact⟨_,h.symm⟩) | cases h) | cases h
 |fieldAddr t x f=>simp only[dB,lU] at h;(repeat' split at h)<;>first | (simp only[Option.some.injEq] at h;exact⟨_,h.symm⟩) | cases h
 |field t x f=>simp only[dB,E5] at h;(repeat' split at h)<;>first | (simp only[Option.map_eq_some_iff] at h;obtain⟨u,_,rfl⟩:=h;exact⟨_,rfl⟩) | cases h
 |indexAddr t x i=>simp only[dB,jr] at h;split at h<;>simp only[xQ,jY] at h<;>(repeat' split at h)<;>first | (simp only[Option.some.injEq] at h;exact⟨_,h.symm⟩) | cases h
 |index t x i=>simp only[dB,vY] at h;(repeat' split at h)<;>first | (simp only[Option.map_eq_some_iff] at h;obtain⟨u,_,rfl⟩:=h;exact⟨_,rfl⟩) | (simp only[Option.some.injEq] at h;exact⟨_,h.symm⟩) | cases h
 |extract x i=>simp only[dB,qL] at h;split at h<;>first | (simp only[Option.map_eq_some_iff] at h;obtain⟨u,_,rfl⟩:=h;exact⟨_,rfl⟩) | cases h
 |slice t x lo hi mx=>
  cases mx with
  |none=>simp[kindOf] at hk
  |some m=>simp only[dB,tH,EZ] at h;(repeat' split at h)<;>first | (simp only[Option.some.injEq] at h;exact⟨_,h.symm⟩) | cases h
 |call c=>
  obtain⟨callee,args,ts⟩:=c
  cases callee with
  |value g=>simp[kindOf] at hk
  |invoke r m=>simp[dB] at h
  |builtin b=>
   cases b<;>first | (simp[kindOf] at hk;done) | skip
   ·rcases args with _ | ⟨x,_ | ⟨y,l⟩⟩<;>rcases ts with _ | ⟨t,_ | ⟨u,m⟩⟩<;>simp only[dB] at h<;>first | (cases h;done) | skip
    all_goals (simp only[lenD] at h;(repeat' split at h)<;>first | (simp only[Option.some.injEq] at h;exact⟨_,h.symm⟩) | cases h)
   ·simp only[dB,qW] at h;(repeat' split at h)<;>first | exact hp _ h | (simp only[Option.some.injEq] at h;exact⟨_,h.symm⟩) | (simp only[Option.map_eq_some_iff] at h;obtain⟨u,_,rfl⟩:=h;exact⟨_,rfl⟩) | cases h
   ·simp only[dB,qW] at h;(repeat' split at h)<;>first | exact hp _ h | (simp only[Option.some.injEq] at h;exact⟨_,h.symm⟩) | (simp only[Option.map_eq_some_iff] at h;obtain⟨u,_,rfl⟩:=h;exact⟨_,rfl⟩) | cases h
 |_=>first | (simp[kindOf] at hk;done) | (simp[dB] at h;done)
theorem ajK {o:Oper} {ρ:Operand→D} {bk:Nat→Option dR} {r:QR} (hk:kindOf P o.op=0) (h:CO P F o ρ bk r):r.new=[]∧r.ro=[]∧r.gone=none:=by
 cases h with
 |val _ _=>exact⟨rfl,rfl,rfl⟩
 |box _ h=>obtain⟨d,e⟩:=zo hk h;cases e
 |row _ h=>obtain⟨d,e⟩:=zo hk h;cases e
 |row0 _ _=>exact⟨rfl,rfl,rfl⟩
 |grow hk1 _ _ _ _ _=>rw[hk] at hk1;cases hk1
 |app0 _ h _=>obtain⟨d,e⟩:=zo hk h;cases e
 |appE hk1 _ _=>rw[hk] at hk1;cases hk1
 |ext h _ _ _=>exact absurd h (gG hk)
 |call h _ _ _ _=>exact absurd h (gG hk)
theorem qq0 {k:Nat} {o:Oper} {σ:St} {r:QR} (h:QQ P F R p k o σ r) (hk:bf R o σ=some true→kindOf P o.op=0):r.new=[]∧r.ro=[]∧r.gone=none:=by
 rcases h.what with⟨_,rfl⟩ | ⟨h1,h2⟩
 ·exact⟨rfl,rfl,rfl⟩
 ·exact ajK (hk h1) h2
theorem afF {bk:Nat→Option dR} {r:QR} (h:r.new=[]∧r.ro=[]∧r.gone=none):lm bk r=bk:=by
 funext i;simp[lm,h.1,h.2.1,h.2.2,kX]
end
end Go.Dam
end

section
namespace Go.Dam
open Go Go.RowKit
variable [gB]
section
variable {P:Program} {F:FuncId→List D→D→Prop} {R:Array Oper} {O:Oper→St→St→Prop} {p:Plan}
def DR (P:Program) (R:Array Oper) (p:Plan) (i j:Nat) (oi oj:Oper):Bool:=
 oi.apart R oj && (!p.T i && (!p.T j && (p.W i j && (p.W j i &&
 ((decide (kindOf P oi.op≤1) && decide (kindOf P oj.op≤1)) || ((kindOf P oi.op ==0 && kindOf P oj.op ==2) || ((kindOf P oi.op ==1 && kindOf P oj.op ==2 && ((p.S i).contains j && p.U j)) || ((kindOf P oi.op ==2 && kindOf P oj.op ==0) || ((kindOf P oi.op ==0 && kindOf P oj.op ==4) || (kindOf P oi.op ==4 && kindOf P oj.op ==0))))))))))
def Inv (p:Plan) (listed:Array Bool) (σ:St):Prop:=∀ k,listed.getD k true=false→∀ id∈p.zs k,Unused id σ
theorem Sep.move {ρ ρ':Operand→D} {o:Oper} {t:Nat} {r:QR} (h:Sep ρ o t r) (h1:∀ y∈o.op.operands,ρ' y=ρ y):Sep ρ' o t r:=
 ⟨fun y hy=>by rw[h1 y hy];exact h.1 y hy,h.2⟩
structure CQ (P:Program) (R:Array Oper) (p:Plan) (k:Nat) (o:Oper) (σ:St) (id off:Nat) (k':Value) (ds cells:List D):Prop where
 w:bf R o σ=some true
 kd:kindOf P o.op=4
 op:dB P σ.bk (bn σ) o.type o.op=some (.cpy id off ds k')
 b:σ.bk id=some ⟨cells,false⟩
 l:off+ds.length≤cells.length
 m:∀ d∈ds,sF p k d
theorem sD {op:Op} {fo:Operand} {args:Array Operand} (h:callParts op=some (fo,args)):kindOf P op≤1:=by
 cases op with
 |call c=>
  obtain⟨callee,as,ts⟩:=c
  cases callee with
  |value g=>simp[kindOf]
  |_=>simp[callParts] at h
 |_=>simp[callParts] at h
theorem xw {k:Nat} {o:Oper} {σ σ':St} (h:fC P F O R p k o σ σ') (hk:p.T k=false):
  (∃ r,QQ P F R p k o σ r∧σ'=σ.q o.dst r∧(bf R o σ=some true→kindOf P o.op≤1)∧(bf R o σ=some true→kindOf P o.op=0∨∀ j∈p.S k,Sep (bn σ) o (p.tgt j) r))∨
  (∃ id off ds cells,bf R o σ=some true∧kindOf P o.op=2∧dB P σ.bk (bn σ) o.type o.op=some (.sto id off ds)∧σ.bk id=some ⟨cells,false⟩∧off+ds.length≤cells.length∧(∀ d∈ds,sF p k d)∧(p.U k=true→id=p.tgt k)∧σ'=(σ.setB id ⟨splice cells off ds,false⟩).put o.dst (.v undef))∨
  (∃ id off k' ds cells,CQ P R p k o σ id off k' ds cells∧σ'=(σ.setB id ⟨splice cells off ds,false⟩).put o.dst (D.l7 k')):=by
 cases h with
 |skip h=>exact .inl ⟨_,P7 h,rfl,(fun e=>by rw[h] at e;cases e),fun e=>by rw[h] at e;cases e⟩
 |op h1 h2 h3 h4 h5 h6 h7 h8=>
  refine .inl ⟨_,⟨.inr ⟨h1,h2⟩,h3,h4,h5,h6,h8⟩,rfl,fun _=>?_,fun _=>h7⟩
  cases h2 with
  |val h _=>exact h
  |box h _=>exact h
  |row h _=>exact h
  |row0 h _=>exact h
  |app0 h _ _=>exact h
  |appE h _ _=>omega
  |grow h _ _ _ _ _=>omega
  |ext h _ _ _=>exact sD h
  |call h _ _ _ _=>exact sD h
 |sto h1 h2 h3 h4 h5 h6 h7=>exact .inr (.inl ⟨_,_,_,_,h1,h2,h3,h4,h5,h6,h7,rfl⟩)
 |cpy h1 h2 h3 h4 h5 h6=>exact .inr (.inr ⟨_,_,_,_,_,⟨h1,h2,h3,h4,h5,h6⟩,rfl⟩)
 |oth h _ _=>rw[hk] at h;cases h
theorem NQ {o oi:Oper} {σ:St} {id:Nat} {b:dR} {d0:D} (h:∀ d,oi.dst=some d→d∉o.looksAt R):Same R o σ ((σ.setB id b).put oi.dst d0):=by
 intro t ht
 cases hd:oi.dst with
 |none=>rfl
 |some d=>
  have hne:t≠d:=fun e=>h d hd (e▸ht)
  simp[St.put,Fr.put,hne,St.setB]
theorem CQ.step {k:Nat} {o:Oper} {σ:St} {id off:Nat} {k':Value} {ds cells:List D} (h:CQ P R p k o σ id off k' ds cells):fC P F O R p k o σ ((σ.setB id ⟨splice cells off ds,false⟩).put o.dst (D.l7 k')):=
 .cpy h.w h.kd h.op h.b h.l h.m
theorem q0 {σ:St} {dst:Option Tmp} {r:QR} (h:r.new=[]∧r.ro=[]∧r.gone=none):σ.q dst r=σ.put dst r.d:=by
 simp only[St.q,afF h]
theorem abD {i j:Nat} {oi oj:Oper} (hap:oi.apart R oj=true) {σ:St} {ri:QR} {id off:Nat} {k':Value} {ds cells:List D} (hi:QQ P F R p i oi σ ri) (hk:bf R oi σ=some true→kindOf P oi.op=0) (hj:CQ P R p j oj (σ.q oi.dst ri) id off k' ds cells):
  CQ P R p j oj σ id off k' ds cells∧QQ P F R p i oi ((σ.setB id ⟨splice cells off ds,false⟩).put oj.dst (D.l7 k')) ri∧
   ((σ.q oi.dst ri).setB id ⟨splice cells off ds,false⟩).put oj.dst (D.l7 k')=((σ.setB id ⟨splice cells off ds,false⟩).put oj.dst (D.l7 k')).q oi.dst ri:=by
 obtain⟨a1,a2,a3⟩:=Oper.apart_spec hap
 have h0:=qq0 hi hk
 have sj:Same R oj σ (σ.q oi.dst ri):=sV a1
 have si:Same R oi σ ((σ.setB id ⟨splice cells off ds,false⟩).put oj.dst (D.l7 k')):=NQ a3
 have ebk:(σ.q oi.dst ri).bk=σ.bk:=by rw[pW,afF h0]
 refine⟨⟨sj.wanted.symm.trans hj.w,hj.kd,?_,by rw[←ebk];exact hj.b,hj.l,hj.m⟩,?_,?_⟩
 ·have:=hj.op
  rw[ebk] at this
  rw[←this]
  exact yO fun x hx=>(sj.eval x hx).symm
 ·refine hi.move si (fun l cs hc=>by rw[h0.1] at hc;cases hc) (fun hw1 hk1=>rQ (hk hw1)) (fun hw1 fo args f caps as passed h1 h2 h3 h4=>absurd h1 (gG (hk hw1))) (fun g hg=>by rw[h0.2.2] at hg;cases hg)
 ·rw[q0 h0,q0 h0]
  have e:∀ (τ:St) (d:D),(τ.put oi.dst d).setB id ⟨splice cells off ds,false⟩=(τ.setB id ⟨splice cells off ds,false⟩).put oi.dst d:=fun τ d=>by cases oi.dst<;>rfl
  rw[e,St.put_comm _ (s:=oi.dst) (t:=oj.dst) a2]
theorem aby {i j:Nat} {oi oj:Oper} (hap:oi.apart R oj=true) {σ:St} {rj:QR} {id off:Nat} {k':Value} {ds cells:List D} (hi:CQ P R p i oi σ id off k' ds cells) (hj:QQ P F R p j oj ((σ.setB id ⟨splice cells off ds,false⟩).put oi.dst (D.l7 k')) rj)
  (hk:bf R oj ((σ.setB id ⟨splice cells off ds,false⟩).put oi.dst (D.l7 k'))=some true→kindOf P oj.op=0):
  QQ P F R p j oj σ rj∧CQ P R p i oi (σ.q oj.dst rj) id off k' ds cells∧
   ((σ.setB id ⟨splice cells off ds,false⟩).put oi.dst (D.l7 k')).q oj.dst rj=((σ.q oj.dst rj).setB id ⟨splice cells off ds,false⟩).put oi.dst (D.l7 k'):=by
 obtain⟨a1,a2,a3⟩:=Oper.apart_spec hap
 have h0:=qq0 hj hk
 have sj:Same R oj σ ((σ.setB id ⟨splice cells off ds,false⟩).put oi.dst (D.l7 k')):=NQ a1
 have si:Same R oi σ (σ.q oj.dst rj):=sV a3
 have ebk:(σ.q oj.dst rj).bk=σ.bk:=by rw[pW,afF h0]
 refine⟨?_,⟨si.wanted.trans hi.w,hi.kd,?_,by rw[ebk];exact hi.b,hi.l,hi.m⟩,?_⟩
 ·refine hj.move sj.symm (fun l cs hc=>by rw[h0.1] at hc;cases hc) (fun hw1 hk1=>rQ (hk hw1)) (fun hw1 fo args f caps as passed h1 h2 h3 h4=>absurd h1 (gG (hk hw1))) (fun g hg=>by rw[h0.2.2] at hg;cases hg)
 ·rw[ebk,←hi.op]
  exact yO fun x hx=>si.eval x hx
 ·rw[q0 h0,q0 h0]
  have e:∀ (τ:St) (d:D),(τ.put oj.dst d).setB id ⟨splice cells off ds,false⟩=(τ.setB id ⟨splice cells off ds,false⟩).put oj.dst d:=fun τ d=>by cases oj.dst<;>rfl
  rw[e,St.put_comm _ (s:=oi.dst) (t:=oj.dst) a2]
theorem comm {i j:Nat} {oi oj:Oper} (hi:R[i]? =some oi) (hj:R[j]? =some oj) (hp:DR P R p i j oi oj=true) (hdis:∀ id,id∈p.zs i→id∉p.zs j) {σ σ1 σ2:St} (hun:∀ id∈p.zs j,Unused id σ)
  (hgi:p.Gr j=true→kindOf P oi.op=0∨j∈p.S i) (hgj:p.Gr i=true→kindOf P oj.op=0∨i∈p.S j)
  (h1:fC P F O R p i oi σ σ1) (h2:fC P F O R p j oj σ1 σ2):∃ σ3,fC P F O R p j oj σ σ3∧fC P F O R p i oi σ3 σ2:=by
 simp only[DR,Bool.and_eq_true,Bool.not_eq_true'] at hp
 obtain⟨hap,hTi,hTj,hWij,hWji,hk⟩:=hp
 obtain⟨a1,a2,a3⟩:=Oper.apart_spec hap
 rcases xw h1 hTi with⟨ri,q1,rfl,ki,s1⟩ | ⟨id,off,ds,cells,w1,k1,o1,b1,l1,m1,t1,rfl⟩ | ⟨id,off,k',ds,cells,cq,rfl⟩
 ·rcases xw h2 hTj with⟨rj,q2,rfl,kj,s2⟩ | ⟨id,off,ds,cells,w2,k2,o2,b2,l2,m2,t2,rfl⟩ | ⟨id,off,k',ds,cells,cq2,rfl⟩
  ·obtain⟨c1,c2,c3⟩:=ZY hWji hap hdis q1 q2 (fun id cs h=>hun id (q2.mine id cs h).1)
    (fun g hg hw=>by
     obtain⟨g1,rfl⟩:=q2.gon g hg
     rcases hgi g1 with h | h
     ·exact .inl h
     ·exact(s1 hw).imp _root_.id fun h'=>h' j h)
    (fun g hg hw=>by
     obtain⟨g1,rfl⟩:=q1.gon g hg
     rcases hgj g1 with h | h
     ·exact .inl h
     ·exact(s2 hw).imp _root_.id fun h'=>h' i h)
   refine⟨σ.q oj.dst rj,?_,?_⟩
   ·rcases c1.what with⟨e1,rfl⟩ | ⟨e1,e2⟩
    ·exact .skip e1
    ·refine c1.step ?_
     have sj:Same R oj σ (σ.q oi.dst ri):=sV a1
     rcases s2 (sj.wanted.trans e1) with h | h
     ·exact .inl h
     ·exact .inr fun l hl=>(h l hl).move (fun y hy=>(sj.eval y hy).symm)
   ·rw[c3]
    rcases c2.what with⟨e1,rfl⟩ | ⟨e1,e2⟩
    ·exact .skip e1
    ·refine c2.step ?_
     have si:Same R oi σ (σ.q oj.dst rj):=sV a3
     rcases s1 (si.wanted.symm.trans e1) with h | h
     ·exact .inl h
     ·exact .inr fun l hl=>(h l hl).move (fun y hy=>si.eval y hy)
  ·obtain⟨c1,c2,c3⟩:=abP hap q1 w2 k2 o2 b2 l2 m2 (ht:=t2) (fun hw=>by
    have hk1:=ki hw
    rcases s1 hw with h | h
    ·exact .inl h
    ·simp only[k2,Bool.or_eq_true,Bool.and_eq_true,decide_eq_true_eq,beq_iff_eq] at hk
     rcases hk with⟨_,hk⟩ | ⟨hk,_⟩ | hk | ⟨_,hk⟩ | ⟨_,hk⟩ | ⟨_,hk⟩
     ·exact absurd hk (by decide)
     ·exact .inl hk
     ·have hk':=hk.2
      rw[t2 hk'.2]
      exact .inr (h j (by simpa using hk'.1))
     ·exact absurd hk (by decide)
     ·exact absurd hk (by decide)
     ·exact absurd hk (by decide))
   refine⟨_,c1,?_⟩
   rw[c3]
   rcases c2.what with⟨e1,rfl⟩ | ⟨e1,e2⟩
   ·exact .skip e1
   ·refine c2.step ?_
    have si:Same R oi σ ((σ.setB id ⟨splice cells off ds,false⟩).put oj.dst (.v undef)):=Es a3
    rcases s1 (si.wanted.symm.trans e1) with h | h
    ·exact .inl h
    ·exact .inr fun l hl=>(h l hl).move (fun y hy=>si.eval y hy)
  ·have hki:kindOf P oi.op=0:=by
    have:=cq2.kd
    simp only[this,Bool.or_eq_true,Bool.and_eq_true,decide_eq_true_eq,beq_iff_eq] at hk
    rcases hk with⟨_,hk⟩ | ⟨_,hk⟩ | ⟨⟨_,hk⟩,_⟩ | ⟨_,hk⟩ | ⟨hk,_⟩ | ⟨_,hk⟩
    ·exact absurd hk (by decide)
    ·exact absurd hk (by decide)
    ·exact absurd hk (by decide)
    ·exact absurd hk (by decide)
    ·exact hk
    ·exact absurd hk (by decide)
   obtain⟨c1,c2,c3⟩:=abD hap q1 (fun _=>hki) cq2
   refine⟨_,c1.step,?_⟩
   rw[c3]
   rcases c2.what with⟨e1,rfl⟩ | ⟨e1,e2⟩
   ·exact .skip e1
   ·exact c2.step (.inl hki)
 ·have hkj:kindOf P oj.op=0:=by
   simp only[k1,Bool.or_eq_true,Bool.and_eq_true,decide_eq_true_eq,beq_iff_eq] at hk
   rcases hk with⟨hk,_⟩ | ⟨hk,_⟩ | ⟨⟨hk,_⟩,_⟩ | ⟨_,hk⟩ | ⟨hk,_⟩ | ⟨hk,_⟩
   ·exact absurd hk (by decide)
   ·exact absurd hk (by decide)
   ·exact absurd hk (by decide)
   ·exact hk
   ·exact absurd hk (by decide)
   ·exact absurd hk (by decide)
  rcases xw h2 hTj with⟨rj,q2,rfl,kj,s2⟩ | ⟨id,off,ds,cells,w2,k2,o2,b2,l2,m2,t2,rfl⟩ | ⟨id,off,k',ds,cells,cq2,rfl⟩
  ·obtain⟨c1,c2,c3⟩:=abX (O:=O) hap w1 k1 o1 b1 l1 m1 t1 q2 (fun _=>hkj) (fun id cs h=>hun id (q2.mine id cs h).1)
   refine⟨σ.q oj.dst rj,?_,?_⟩
   ·rcases c1.what with⟨e1,rfl⟩ | ⟨e1,e2⟩
    ·exact .skip e1
    ·exact c1.step (.inl hkj)
   ·rw[c3];exact c2
  ·rw[hkj] at k2;cases k2
  ·have:=cq2.kd;rw[hkj] at this;cases this
 ·have hkj:kindOf P oj.op=0:=by
   have:=cq.kd
   simp only[this,Bool.or_eq_true,Bool.and_eq_true,decide_eq_true_eq,beq_iff_eq] at hk
   rcases hk with⟨hk,_⟩ | ⟨hk,_⟩ | ⟨⟨hk,_⟩,_⟩ | ⟨hk,_⟩ | ⟨hk,_⟩ | ⟨_,hk⟩
   ·exact absurd hk (by decide)
   ·exact absurd hk (by decide)
   ·exact absurd hk (by decide)
   ·exact absurd hk (by decide)
   ·exact absurd hk (by decide)
   ·exact hk
  rcases xw h2 hTj with⟨rj,q2,rfl,kj,s2⟩ | ⟨id,off,ds,cells,w2,k2,o2,b2,l2,m2,t2,rfl⟩ | ⟨id2,off2,k2',ds2,cells2,cq2,rfl⟩
  ·obtain⟨c1,c2,c3⟩:=aby hap cq q2 (fun _=>hkj)
   refine⟨σ.q oj.dst rj,?_,?_⟩
   ·rcases c1.what with⟨e1,rfl⟩ | ⟨e1,e2⟩
    ·exact .skip e1
    ·exact c1.step (.inl hkj)
   ·rw[c3];exact c2.step
  ·rw[hkj] at k2;cases k2
  ·have:=cq2.kd;rw[hkj] at this;cases this
end
end Go.Dam
end

section
namespace Go.Dam
open Go Go.RowKit
variable [gB]
theorem Ih {d:D} {id:Nat} (h:d.has id=false):d.forget id=d:=by unfold D.forget;rw[h];rfl
theorem mF {cs:List D} {id:Nat} (h:D.bQ id cs=false):cs.map (D.forget id)=cs:=by
 have:cs.map (D.forget id)=cs.map _root_.id:=List.map_congr_left fun d hd=>Ih (lK h d hd)
 rw[this];simp
theorem Unused.same {id:Nat} {σ:St} (h:Unused id σ):σ.forget id=σ:=by
 have hf:∀ f:Fr,(∀ t,(f.tm t).has id=false)→f.forget id=f:=fun f hf=>by
  cases f with
  |mk nt tm=>simp only[Fr.forget,Fr.mk.injEq,true_and];funext t;exact Ih (hf t)
 refine St.ext' (hf _ h.fr) ?_ ?_ (by
  show(if id=dI then none else σ.loop)=σ.loop
  split
  ·next e=>exact(h.lp e).symm
  ·rfl)
 ·have:σ.stk.map (Fr.forget id)=σ.stk.map _root_.id:=List.map_congr_left fun f hf'=>hf f (h.stk f hf')
  simp only[St.forget];rw[this];simp
 ·funext i
  simp only[St.forget]
  by_cases e:i=id
  ·subst e;rw[if_pos rfl,h.no]
  ·rw[if_neg e]
   cases hb:σ.bk i with
   |none=>rfl
   |some b=>simp only[Option.map_some,Option.some.injEq];cases b with | mk cs ro=>simp only[dR.forget,dR.mk.injEq,and_true];exact mF (h.bk i _ hb)
def news (id:Nat):List (List D)→List (Nat×List D)
 |[]=>[]
 |c::cs=>(id,c)::news (id+1) cs
theorem KQ:∀ (bs:List (List D)) (id n:Nat),(bs.zipIdx n).map (fun (cs,k)=>(id+k,cs))=news (id+n) bs
 |[],_,_=>rfl
 |c::cs,id,n=>by
  simp only[List.zipIdx_cons,List.map_cons,news]
  rw[KQ cs id (n+1)];rfl
theorem mX:∀ {bs:List (List D)} {id i:Nat} {cs:List D},(i,cs)∈news id bs→id≤i∧cs∈bs
 |c::bs,id,i,cs,h=>by
  simp only[news,List.mem_cons,Prod.mk.injEq] at h
  rcases h with⟨rfl,rfl⟩ | h
  ·exact⟨Nat.le_refl _,by simp⟩
  ·obtain⟨h1,h2⟩:=mX h;exact⟨by omega,by simp[h2]⟩
theorem Unused.setB {id j:Nat} {σ:St} {b:dR} (h:Unused id σ) (hne:id≠j) (hb:D.bQ id b.cells=false):Unused id (σ.setB j b) where
 fr:=h.fr
 stk:=h.stk
 no:=by simp only[St.setB];rw[if_neg hne];exact h.no
 lp:=h.lp
 bk:=fun i b' hb'=>by
  simp only[St.setB] at hb'
  split at hb'
  ·simp at hb';subst hb';exact hb
  ·exact h.bk i b' hb'
theorem sQ:∀ (bs:List (List D)) (id:Nat) (σ:St),(∀ i cs,(i,cs)∈news id bs→Unused i σ∧∀ j cs',(j,cs')∈news id bs→D.bQ i cs'=false)→
  gY σ id bs={ σ with bk:=fun i=>match kX i (news id bs) with | some b=>some b | none=>σ.bk i }
 |[],_,σ,_=>rfl
 |c::cs,id,σ,h=>by
  obtain⟨h1,h2⟩:=h id c (by simp[news])
  have hstep:=sQ cs (id+1) (σ.setB id ⟨c,false⟩) (fun i cs' hi=>by
   obtain⟨h3,h4⟩:=h i cs' (by simp[news,hi])
   have:=(mX hi).1
   exact⟨h3.setB (by omega) (h4 id c (by simp[news])),fun j cs'' hj=>h4 j cs'' (by simp[news,hj])⟩)
  simp only[gY]
  rw[h1.same,hstep]
  refine St.ext' rfl rfl ?_ rfl
  funext i
  simp only[St.setB,news,kX]
  by_cases e:i=id
  ·subst e
   rw[fQ (i:=i) (l:=news (i+1) cs) (fun cs' hm=>by have:=(mX hm).1;omega)]
   simp
  ·rw[if_neg e,if_neg (Ne.symm e)]
def FW (ro:Option Nat):Fence:={ Fence.wide with round:=ro }
theorem Ql {ro:Option Nat} {n:Nat} {P:Program} {f:FuncId} {args:Array Value} {w:World} {R:Ending→World→Prop} (h:Calls P f args w R):CallsIn (FW ro) n P f args w R:=
 (callsIn_wide.2 h:CallsIn Fence.wide n P f args w R)
theorem Wj {ro:Option Nat} {n:Nat} {P:Program} {row:String} {args:Array Value} {w:World} {R:Value→World→Prop} (h:Rows P row args w R):RowsIn (FW ro) n P row args w R:=
 fun c cs _=>let ⟨v,w',r,s⟩:=h c cs;⟨v,w',r,stepsIn_wide.2 s⟩
theorem SQ {ro:Option Nat} {n:Nat} {P:Program} {o:Oper} {a:Act} {w:World} {K:Act→World→Prop} {Q:Exit→Act→World→Prop} (hd:∀ c,o.op≠ .defer c) (h:o.wp P a w K Q):o.wpIn (FW ro) n P a w K Q:=by
 refine⟨fun _ _=>trivial,?_⟩
 rw[Oper.semAt_eq _ _ _ hd]
 unfold Oper.wp at h
 generalize (execOp a.eval o).run P w=r at *
 cases r with
 |ok x w'=>
  cases x<;>simp only[Oper.upon,Oper.uponIn] at h ⊢<;>first
   |exact h
   |exact⟨fun e=>(by cases e),Ql h⟩
   |exact⟨fun e=>(by cases e),Wj h⟩
   |exact h.elim
 |halt x w'=>cases x<;>simp only[Oper.upon,Oper.uponIn] at h ⊢<;>exact h
def mark (D:Nat):Deferred:={ target:= .collected D,args:=#[] }
def Marks (w w':World) (A':Nat→Prop) (a a':Act):Prop:=
 ∃ Ds:List Nat,a'.defers=Ds.map mark ++ a.defers∧Ds.Nodup∧∀ D∈Ds,w.heap.size≤D∧¬ A' D∧w'.heap[D]? =some (.deferred (some []))
theorem Marks.same {w w':World} {A':Nat→Prop} {a a':Act} (h:a'.defers=a.defers):Marks w w' A' a a':=⟨[],by simp[h],by simp,by simp⟩
theorem Marks.trans {w w' w'':World} {A' A'':Nat→Prop} {base:Nat} {a a' a'':Act} (h:Marks w w' A' a a') (k:Marks w' w'' A'' a' a'') (ht:Turn A' A'' base w' w'') (hs:w.heap.size≤w'.heap.size):Marks w w'' A'' a a'':=by
 obtain⟨D1,h1,h2,h3⟩:=h
 obtain⟨D2,k1,k2,k3⟩:=k
 refine⟨D2 ++ D1,by rw[k1,h1];simp,?_,?_⟩
 ·refine List.nodup_append.2 ⟨k2,h2,?_⟩
  intro x hx y hy e
  subst e
  have:=(k3 x hx).1
  have:=(Array.getElem?_eq_some_iff.1 (h3 x hy).2.2).1
  omega
 ·intro D hD
  rcases List.mem_append.1 hD with hD | hD
  ·obtain⟨p,q,r⟩:=k3 D hD;exact⟨by omega,q,r⟩
  ·obtain⟨p,q,r⟩:=h3 D hD
   exact⟨p,fun ha=>q (ht.side.new D _ r rfl ha),ht.side.keep D _ r rfl⟩
def UW (σ':St) (base:Nat) (acts:List (Array Value)) (A:Nat→Prop) (a:Act) (w:World) (K:Act→World→Prop):Prop:=
 ∀ a' w' A' β',Marks w w' A' a a'→Rel w' A' β' base σ' a'.tmps acts→Turn A A' base w w'→K a' w'
theorem UW.trans {σ':St} {base:Nat} {acts:List (Array Value)} {A A':Nat→Prop} {a a':Act} {w w':World} {K:Act→World→Prop} (h:UW σ' base acts A a w K) (hd:Marks w w' A' a a') (ht:Turn A A' base w w'):UW σ' base acts A' a' w' K:=
 fun a'' w'' A'' β'' hd' hr ht'=>h a'' w'' A'' β'' (hd.trans hd' ht' ht.below.size) hr (ht.trans ht')
theorem put_defers (a:Act) (dst:Option Tmp) (u:Value):(a.put dst u).defers=a.defers:=by cases dst<;>rfl
section
variable {P:Program} {F:FuncId→List D→D→Prop} {R:Array Oper} {O:Oper→St→St→Prop} {p:Plan}
theorem Zn {o:Oper} {σ:St} {r:QR} (h:CO P F o (bn σ) σ.bk r) (hn:∀ i cs,(i,cs)∈r.new→Unused i σ∧∀ j cs',(j,cs')∈r.new→D.bQ i cs'=false):ku P F o σ (σ.q o.dst r):=by
 have hplain:∀ d,σ.q o.dst ⟨d,[],[],[],none⟩=σ.put o.dst d:=fun d=>by
  simp only[St.q]
  congr 1
 cases h with
 |val _ h=>rw[hplain];exact .op (id:=0) h rfl
 |@box cs id _ h=>
  obtain⟨h1,h2⟩:=hn id cs (by simp)
  refine .op (id:=id) h ?_
  simp only[dK,h1.same,mF (h2 id cs (by simp))]
  congr 1
  simp only[St.q,St.setB]
  congr 2
  funext i
  simp only[lm,kX]
  by_cases e:i=id
  ·subst e;simp
  ·rw[if_neg e,if_neg (Ne.symm e)];simp
 |@row cs n sz id _ h=>
  obtain⟨h1,h2⟩:=hn id cs (by simp)
  refine .op (id:=id) h ?_
  simp only[dK,h1.same,mF (h2 id cs (by simp))]
  congr 1
  simp only[St.q,St.setB]
  congr 2
  funext i
  simp only[lm,kX]
  by_cases e:i=id
  ·subst e;simp
  ·rw[if_neg e,if_neg (Ne.symm e)];simp
 |row0 _ h=>rw[hplain];exact .op (id:=0) h rfl
 |@app0 s sz m id ds _ h hs=>
  obtain⟨h1,h2⟩:=hn id ds (by simp)
  refine .op (id:=id) h ?_
  have e:dK σ o.dst id (.app s sz m ds)=some (((σ.forget id).setB id ⟨ds.map (D.forget id),false⟩).put o.dst (.sl id 0 m ⟨sz,0⟩)):=by
   rcases hs with rfl | ⟨u,rfl⟩<;>rfl
  rw[e]
  simp only[h1.same,mF (h2 id ds (by simp))]
  congr 1
  simp only[St.q,St.setB]
  congr 2
  funext i
  simp only[lm,kX]
  by_cases e:i=id
  ·subst e;simp
  ·rw[if_neg e,if_neg (Ne.symm e)];simp
 |@appE sz m id ds _ h hz=>
  obtain⟨h1,h2⟩:=hn id ds (by simp)
  have e2:((σ.forget id).setB id ⟨ds.map (D.forget id),false⟩).put o.dst (.sl id 0 m ⟨sz,0⟩)=σ.q o.dst ⟨.sl id 0 m ⟨sz,0⟩,[(id,ds)],[],[],none⟩:=by
   simp only[h1.same,mF (h2 id ds (by simp))]
   simp only[St.q,St.setB]
   congr 2
   funext i
   simp only[lm,kX]
   by_cases e:i=id
   ·subst e;simp
   ·rw[if_neg e,if_neg (Ne.symm e)];simp
  cases m with
  |zero=>
   have:=hz rfl
   subst this
   refine .opw (id:=id) (σ1:=σ.put o.dst .emp) h rfl ?_
   rw[←e2]
   exact Qh
  |succ m=>
   refine .op (id:=id) h ?_
   rw[←e2];rfl
 |ext h1 h2 h3 h4=>rw[hplain];exact .ext h1 h2 h3 h4
 |@grow i n m s id sz ds cells hk hy h hz hb hl=>
  obtain⟨h1,h2⟩:=hn id (cells.take (n*s) ++ ds) (by simp)
  have e:σ.grown o.dst i id n m s (cells.take (n*s) ++ ds)=σ.q o.dst ⟨.sl id 0 (n+m) ⟨s,0⟩,[(id,cells.take (n*s) ++ ds)],[],[],some i⟩:=by
   simp only[St.grown,St.q,St.setB,St.dO]
   congr 2
   funext j
   simp only[lm,kX]
   by_cases e:j=id
   ·subst e;simp
   ·rw[if_neg e,if_neg (Ne.symm e)]
    by_cases e2:j=i
    ·subst e2;simp
    ·have:¬ i=j:=fun h=>e2 h.symm
     simp[e2,this]
  rw[←e]
  cases m with
  |zero=>
   obtain⟨rfl,hs⟩:=hz rfl
   refine .opw (id:=0) (σ1:=σ.put o.dst (.sl i 0 n sz)) h rfl ?_
   rw[List.append_nil]
   exact Gv hb h1 hs
  |succ m=>exact ku.grow (F:=F) (o:=o) h hb hl h1 (h2 id _ (by simp))
 |@call fo args f caps as passed res id h1 h2 h3 h4 h5=>
  refine .call (id:=id) h1 h2 h3 ⟨as,passed,res,h4,h5,?_⟩
  have hne:=KQ (thaw id res).2 id 0
  simp only[Nat.add_zero] at hne
  simp only[hne] at hn ⊢
  have hro:∀ i cs,(i,cs)∈news id (thaw id res).2→Unused i (if flat res then σ else σ.eU passed):=fun i cs hi=>by
   have hu:=(hn i cs hi).1
   split
   ·exact hu
   ·refine⟨hu.fr,hu.stk,?_,?_,hu.lp⟩
    ·simp only[St.eU];split<;>simp[hu.no]
    ·intro j b hb
     simp only[St.eU] at hb
     split at hb
     ·simp only[Option.map_eq_some_iff] at hb
      obtain⟨b0,hb0,rfl⟩:=hb
      exact hu.bk j b0 hb0
     ·exact hu.bk j b hb
  rw[sQ _ _ _ (fun i cs hi=>⟨hro i cs hi,(hn i cs hi).2⟩)]
  simp only[St.q]
  congr 1
  refine St.ext' ?_ ?_ ?_ (by cases flat res<;>rfl)
  ·cases flat res<;>rfl
  ·cases flat res<;>rfl
  ·funext i
   simp only[lm]
   cases kX i (news id (thaw id res).2) with
   |some b=>rfl
   |none=>
    cases flat res with
    |true=>simp
    |false=>simp[St.eU]
def WI (P:Program) (F:FuncId→List D→D→Prop) (O:Oper→St→St→Prop) (R:Array Oper) (p:Plan) (σ':St):Nat→Array Bool→St→Prop
 |0,listed,σ=>Region.ready .any R listed=[]∧σ=σ'
 |n+1,listed,σ=>(Region.ready .any R listed=[]→σ=σ')∧∀ i∈Region.ready .any R listed,∃ o,R[i]? =some o∧∃ σ1,fC P F O R p i o σ σ1∧WI P F O R p σ' n (listed.setIfInBounds i true) σ1
end
end Go.Dam
end
