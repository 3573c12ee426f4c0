/- The engine: an abstract machine for the program's functions, proved right against the model. No condition. -/
import Derived.Test.YtfoelbdkgaliaaaGreatDamW
import Derived.RangeFuncIn
set_option linter.unusedSectionVars false
set_option linter.unusedVariables false
set_option linter.unusedSimpArgs false
noncomputable section
namespace Go.Dam
open Go Go.RowKit
variable [iG]
section
variable {P:Program} {F:FuncId→List D→D→Prop} {R:Array Oper}
def Same (R:Array Oper) (o:Oper) (σ σ':St):Prop:=∀ t∈o.looksAt R,σ'.fr.tm t=σ.fr.tm t
theorem Same.symm {o:Oper} {σ σ':St} (h:Same R o σ σ'):Same R o σ' σ:=fun t ht=>(h t ht).symm
theorem Same.eval {o:Oper} {σ σ':St} (h:Same R o σ σ'):∀ x∈o.op.operands,bP σ' x=bP σ x:=by
 intro x hx
 cases x with
 |tmp t=>exact h t (by simp[Oper.looksAt];left;exact⟨_,hx,rfl⟩)
 |_=>rfl
theorem Same.wanted {o:Oper} {σ σ':St} (h:Same R o σ σ'):bJ R o σ'=bJ R o σ:=by
 unfold bJ
 cases hg:o.guard with
 |none=>rfl
 |some g=>
  obtain⟨j,want⟩:=g
  simp only[]
  cases hd:(R[j]?).bind (·.dst) with
  |none=>rfl
  |some t=>
   simp only[]
   rw[h t (by simp[Oper.looksAt,hg,hd])]
theorem xG {o oi:Oper} {σ:St} {r:QR} (h:∀ d,oi.dst=some d→d∉o.looksAt R):Same R o σ (σ.q oi.dst r):=by
 intro t ht
 cases hd:oi.dst with
 |none=>rfl
 |some d=>
  have hne:t≠d:=fun e=>h d hd (e▸ht)
  simp[St.q,St.put,Fr.put,hne]
theorem KG {o oi:Oper} {σ:St} {id:Nat} {b:fK} (h:∀ d,oi.dst=some d→d∉o.looksAt R):Same R o σ ((σ.setB id b).put oi.dst (.v undef)):=by
 intro t ht
 cases hd:oi.dst with
 |none=>rfl
 |some d=>
  have hne:t≠d:=fun e=>h d hd (e▸ht)
  simp[St.put,Fr.put,hne,St.setB]
theorem xO {i:Nat} {b:fK}:∀ {l:List (Nat×List D)},ni i l=some b→∃ cs,(i,cs)∈l∧b=⟨cs,false⟩
 |(j,cs)::l,h=>by
  simp only[ni] at h
  split at h
  next e=>subst e;simp at h;exact⟨cs,by simp,h.symm⟩
  next=>obtain⟨cs',h1,h2⟩:=xO h;exact⟨cs',by simp[h1],h2⟩
theorem iI {i:Nat}:∀ {l:List (Nat×List D)},(∀ cs,(i,cs)∉l)→ni i l=none
 |[],_=>rfl
 |(j,cs)::l,h=>by
  simp only[ni]
  rw[if_neg (fun e=>h cs (by simp[e])),iI (fun c hc=>h c (by simp[hc]))]
theorem Ew {i:Nat}:∀ {cs:List D},D.dm i cs=true→∃ d∈cs,d.has i=true
 |d::ds,h=>by
  simp only[D.dm,Bool.or_eq_true] at h
  rcases h with h | h
  ·exact⟨d,by simp,h⟩
  ·obtain⟨e,h1,h2⟩:=Ew h;exact⟨e,by simp[h1],h2⟩
theorem dF {i:Nat} {cs:List D} (h:∀ d∈cs,d.has i=false):D.dm i cs=false:=by
 rw[Bool.eq_false_iff];intro e
 obtain⟨d,h1,h2⟩:=Ew e
 rw[h d h1] at h2;cases h2
theorem oW {i:Nat}:∀ {cs:List D},D.dm i cs=false→∀ d∈cs,d.has i=false
 |d::ds,h,e,he=>by
  simp[D.dm] at h
  rcases List.mem_cons.1 he with rfl | he
  ·exact h.1
  ·exact oW h.2 e he
theorem agl {bk:Nat→Option fK} {r:QR}:Agree (fun i=>(∃ cs,(i,cs)∈r.new)∨r.gone=some i) bk (nN bk r):=by
 intro i hi
 simp only[nN]
 rw[iI (fun cs hc=>hi (.inl ⟨cs,hc⟩))]
 simp only[]
 rw[if_neg fun h=>hi (.inr h)]
 split
 ·cases bk i<;>rfl
 ·rfl
theorem afl {o:Oper} {ρ ρ':Operand→D} {bk bk':Nat→Option fK} {r:QR} (h:F7 P F o ρ bk r) (hρ:∀ x∈o.op.operands,ρ' x=ρ x)
  (hop:kindOf P o.op≤1→dR P bk' ρ o.type o.op=dR P bk ρ o.type o.op) (hsh:∀ fo args (f:FuncId) (caps as:List D) passed,callParts o.op=some (fo,args)→ρ fo= .fn f caps→aW (share bk depth) (args.toList.map ρ ++ caps)=some (as,passed)→r.told=passed→
   aW (share bk' depth) (args.toList.map ρ ++ caps)=some (as,passed)) (hgo:∀ g,r.gone=some g→bk' g=bk g):F7 P F o ρ' bk' r:=by
 have hcong:kindOf P o.op≤1→dR P bk' ρ' o.type o.op=dR P bk ρ o.type o.op:=fun hk=>(DW hρ).trans (hop hk)
 have hparts:∀ fo args,callParts o.op=some (fo,args)→ρ' fo=ρ fo∧args.toList.map ρ'=args.toList.map ρ:=by
  intro fo args hc
  cases hopc:o.op with
  |call c=>
   rw[hopc] at hc
   obtain⟨callee,as,ts⟩:=c
   cases callee with
   |value g=>
    simp[callParts] at hc
    obtain⟨rfl,rfl⟩:=hc
    refine⟨hρ _ (by rw[hopc];simp[Op.operands,Call.operands]),List.map_congr_left fun x hx=>hρ x (by rw[hopc];simp[Op.operands,Call.operands];right;simpa using hx)⟩
   |_=>simp[callParts] at hc
  |_=>rw[hopc] at hc;simp[callParts] at hc
 cases h with
 |val hk h1=>exact .val hk ((hcong hk).trans h1)
 |box hk h1=>exact .box hk ((hcong hk).trans h1)
 |row hk h1=>exact .row hk ((hcong hk).trans h1)
 |row0 hk h1=>exact .row0 hk ((hcong hk).trans h1)
 |app0 hk h1 hs=>exact .app0 hk ((hcong hk).trans h1) hs
 |appE hk h1 hz=>exact .appE hk ((hcong (by omega)).trans h1) hz
 |grow hk hy h1 hz hb hl=>
  obtain⟨y,y1,y2⟩:=hy
  exact .grow hk ⟨y,y1,(hρ y y1).trans y2⟩ ((hcong (by omega)).trans h1) hz ((hgo _ rfl).trans hb) hl
 |ext h1 h2 h3 h4=>
  obtain⟨e1,e2⟩:=hparts _ _ h1
  exact .ext h1 (e1.trans h2) (by rw[e2];exact h3) h4
 |@call fo args f caps as passed res id h1 h2 h3 h4 h5=>
  obtain⟨e1,e2⟩:=hparts _ _ h1
  refine .call h1 (e1.trans h2) h3 ?_ h5
  rw[e2]
  exact hsh fo args f caps as passed h1 h2 h4 rfl
theorem Y6 (v:Value) (id:Nat):(D.oV v).has id=false:=by
 cases v with
 |agg cs=>
  simp only[D.oV,D.has]
  refine dF fun d hd=>?_
  simp only[List.mem_map] at hd
  obtain⟨x,_,rfl⟩:=hd
  rfl
 |tuple cs=>
  simp only[D.oV,D.has]
  refine dF fun d hd=>?_
  simp only[List.mem_map] at hd
  obtain⟨x,_,rfl⟩:=hd
  rfl
 |_=>rfl
theorem Unused.eval {id:Nat} {σ:St} (h:Unused id σ) (x:Operand):(bP σ x).has id=false:=by
 cases x with
 |tmp t=>exact h.fr t
 |const v=>exact Y6 v id
 |global g=>
  show(acJ (iG.g g)).has id=false
  cases iG.g g<;>rfl
 |func f=>simp[bP,D.has,D.dm]
theorem abC {bk:Nat→Option fK} {i:Nat} (hb:∀ j b,bk j=some b→D.dm i b.cells=false):∀ (k:Nat) (d e:D) (ids:List Nat),share bk k d=some (e,ids)→d.has i=false→i∉ids:=by
 intro k
 induction k with
 |zero=>
  intro d e ids h _
  cases d with
  |v x=>simp only[share,Option.some.injEq,Prod.mk.injEq] at h;obtain⟨_,rfl⟩:=h;simp
  |emp=>simp only[share,Option.some.injEq,Prod.mk.injEq] at h;obtain⟨_,rfl⟩:=h;simp
  |rc cs=>simp only[share,Option.some.injEq,Prod.mk.injEq] at h;obtain⟨_,rfl⟩:=h;simp
  |sh n cs=>simp only[share,Option.some.injEq,Prod.mk.injEq] at h;obtain⟨_,rfl⟩:=h;simp
  |fn f cs=>cases cs with
   |nil=>simp only[share,Option.some.injEq,Prod.mk.injEq] at h;obtain⟨_,rfl⟩:=h;simp
   |cons _ _=>simp[share] at h
  |_=>simp[share] at h
 |succ k ih=>
  have hall:∀ (ds es:List D) (ids:List Nat),aW (share bk k) ds=some (es,ids)→D.dm i ds=false→i∉ids:=by
   intro ds
   induction ds with
   |nil=>intro es ids h _;simp[share.aW] at h;obtain⟨_,rfl⟩:=h;simp
   |cons d ds ihd=>
    intro es ids h hn
    simp only[share.aW] at h
    split at h
    next e j es' is' h1 h2=>
     simp at h;obtain⟨rfl,rfl⟩:=h
     simp[D.dm] at hn
     simp[ih d e j h1 hn.1,ihd es' is' h2 hn.2]
    ·cases h
  intro d e ids h hd
  cases d with
  |v x=>simp only[share,Option.some.injEq,Prod.mk.injEq] at h;obtain⟨_,rfl⟩:=h;simp
  |emp=>simp only[share,Option.some.injEq,Prod.mk.injEq] at h;obtain⟨_,rfl⟩:=h;simp
  |rc cs=>simp only[share,Option.some.injEq,Prod.mk.injEq] at h;obtain⟨_,rfl⟩:=h;simp
  |sh n cs=>simp only[share,Option.some.injEq,Prod.mk.injEq] at h;obtain⟨_,rfl⟩:=h;simp
  |fn f cs=>cases cs with
   |nil=>simp only[share,Option.some.injEq,Prod.mk.injEq] at h;obtain⟨_,rfl⟩:=h;simp
   |cons _ _=>simp[share] at h
  |agg cs=>
   simp only[share] at h
   split at h
   ·cases h
   next ds is h1=>
    simp at h;obtain⟨rfl,rfl⟩:=h
    exact hall cs ds is h1 (by simpa [D.has] using hd)
  |sl id off n sz=>
   simp only[share] at h
   split at h
   ·cases h
   next b hbk=>
    split at h
    next hl=>
     split at h
     ·cases h
     next cs is h1=>
      simp at h;obtain⟨rfl,rfl⟩:=h
      have h2:=hall _ _ _ h1 (QX (hb id b hbk) _ _)
      simp[D.has] at hd
      simp[h2,Ne.symm hd]
    ·cases h
  |_=>simp[share] at h
theorem BH {bk:Nat→Option fK} {i:Nat} (hb:∀ j b,bk j=some b→D.dm i b.cells=false) {k:Nat}:∀ (ds es:List D) (ids:List Nat),aW (share bk k) ds=some (es,ids)→D.dm i ds=false→i∉ids
 |[],es,ids,h,_=>by simp[share.aW] at h;obtain⟨_,rfl⟩:=h;simp
 |d::ds,es,ids,h,hn=>by
  simp only[share.aW] at h
  split at h
  next e j es' is' h1 h2=>
   simp at h;obtain⟨rfl,rfl⟩:=h
   simp[D.dm] at hn
   simp[abC hb k d e j h1 hn.1,BH hb ds es' is' h2 hn.2]
  ·cases h
theorem afj {o:Oper} {σ:St} {r:QR} (h:F7 P F o (bP σ) σ.bk r) {id:Nat} (hu:∀ j b,σ.bk j=some b→D.dm id b.cells=false) (he:∀ x∈o.op.operands,(bP σ x).has id=false):id∉r.ro:=by
 cases h with
 |call h1 h2 h3 h4 h5=>
  simp only[]
  split
  ·simp
  ·refine BH hu _ _ _ h4 (dF fun d hd=>?_)
   cases hopc:o.op with
   |call c=>
    rw[hopc] at h1
    obtain⟨callee,as,ts⟩:=c
    cases callee with
    |value g=>
     simp[callParts] at h1
     obtain⟨rfl,rfl⟩:=h1
     rcases List.mem_append.1 hd with hd | hd
     ·simp only[List.mem_map] at hd
      obtain⟨x,hx,rfl⟩:=hd
      exact he x (by rw[hopc];simp[Op.operands,Call.operands];right;simpa using hx)
     ·have:=he g (by rw[hopc];simp[Op.operands,Call.operands])
      rw[h2] at this
      exact oW (by simpa [D.has] using this) d hd
    |_=>simp[callParts] at h1
   |_=>rw[hopc] at h1;simp[callParts] at h1
 |_=>simp
theorem Fr.put_comm (f:Fr) {s t:Nat} (h:s≠t) (d e:D):(f.put s d).put t e=(f.put t e).put s d:=by
 simp only[Fr.put]
 congr 1
 funext i
 by_cases h1:i=t
 ·subst h1;rw[if_pos rfl,if_neg (Ne.symm h),if_pos rfl];rfl
 ·by_cases h2:i=s
  ·subst h2;rw[if_neg h,if_pos rfl,if_pos rfl];rfl
  ·rw[if_neg h1,if_neg h2,if_neg h2,if_neg h1]
theorem St.put_comm (σ:St) {s t:Option Tmp} (h:∀ d,s=some d→t≠some d) (d e:D):(σ.put s d).put t e=(σ.put t e).put s d:=by
 cases s with
 |none=>rfl
 |some s=>
  cases t with
  |none=>rfl
  |some t=>
   have hne:s≠t:=fun e=>h s rfl (by rw[e])
   simp only[St.put,Fr.put_comm _ hne]
theorem xu {id:Nat} {σ:St} {dst:Option Tmp} {r:QR} (h:Unused id σ) (hd:r.d.has id=false) (hn:∀ cs,(id,cs)∉r.new) (hc:∀ i cs,(i,cs)∈r.new→D.dm id cs=false):Unused id (σ.q dst r) where
 fr:=fun t=>by
  cases dst with
  |none=>exact h.fr t
  |some s=>
   simp only[St.q,St.put,Fr.put]
   split
   ·split
    ·exact hd
    ·rfl
   ·exact h.fr t
 stk:=fun f hf=>by
  have:(σ.q dst r).stk=σ.stk:=by cases dst<;>rfl
  rw[this] at hf
  exact h.stk f hf
 lp:=fun e=>by
  have:(σ.q dst r).loop=σ.loop:=by cases dst<;>rfl
  rw[this];exact h.lp e
 no:=by
  have:(σ.q dst r).bk=nN σ.bk r:=by cases dst<;>rfl
  rw[this]
  simp only[nN,iI hn,h.no]
  split
  ·rfl
  ·split<;>rfl
 bk:=fun i b hb=>by
  have:(σ.q dst r).bk=nN σ.bk r:=by cases dst<;>rfl
  rw[this] at hb
  simp only[nN] at hb
  split at hb
  next b' hb'=>
   simp at hb;subst hb
   obtain⟨cs,h1,rfl⟩:=xO hb'
   exact hc i cs h1
  next=>
   split at hb
   ·cases hb
   ·split at hb
    ·simp only[Option.map_eq_some_iff] at hb
     obtain⟨b0,h1,rfl⟩:=hb
     exact h.bk i b0 h1
    ·exact h.bk i b hb
end
section
variable {P:Program} {F:FuncId→List D→D→Prop} {R:Array Oper} {O:Oper→St→St→Prop} {p:Plan}
structure QQ (P:Program) (F:FuncId→List D→D→Prop) (R:Array Oper) (p:Plan) (k:Nat) (o:Oper) (σ:St) (r:QR):Prop where
 what:(bJ R o σ=some false∧r=⟨.v undef,[],[],[],none⟩)∨(bJ R o σ=some true∧F7 P F o (bP σ) σ.bk r)
 mine:∀ i cs,(i,cs)∈r.new→i∈p.zs k∧Unused i σ∧∀ j cs',(j,cs')∈r.new→D.dm i cs'=false
 nodup:(r.new.map (·.1)).Nodup
 men:wQ p k r.d
 menc:∀ i cs,(i,cs)∈r.new→∀ d∈cs,wQ p k d
 gon:∀ g,r.gone=some g→p.Gr k=true∧g=p.tgt k
theorem QQ.step {k:Nat} {o:Oper} {σ:St} {r:QR} (h:QQ P F R p k o σ r) (hs:kindOf P o.op=0∨∀ j∈p.S k,Sep (bP σ) o (p.tgt j) r):gJ P F O R p k o σ (σ.q o.dst r):=by
 rcases h.what with⟨h1,rfl⟩ | ⟨h1,h2⟩
 ·exact .skip h1
 ·exact .op h1 h2 h.mine h.nodup h.men h.menc hs h.gon
theorem XQ {k:Nat} {o:Oper} {σ:St} (h:bJ R o σ=some false):QQ P F R p k o σ ⟨.v undef,[],[],[],none⟩:=
 ⟨.inl ⟨h,rfl⟩,(fun i cs h=>by cases h), .nil,(fun l _ id _=>rfl),(fun i cs h=>by cases h),(fun g h=>by cases h)⟩
theorem QQ.move {k:Nat} {o:Oper} {σ σ':St} {r:QR} (h:QQ P F R p k o σ r) (hs:Same R o σ σ') (hu:∀ i cs,(i,cs)∈r.new→Unused i σ')
  (hop:bJ R o σ=some true→kindOf P o.op≤1→dR P σ'.bk (bP σ) o.type o.op=dR P σ.bk (bP σ) o.type o.op)
  (hsh:bJ R o σ=some true→∀ fo args (f:FuncId) (caps as:List D) passed,callParts o.op=some (fo,args)→bP σ fo= .fn f caps→aW (share σ.bk depth) (args.toList.map (bP σ) ++ caps)=some (as,passed)→r.told=passed→
   aW (share σ'.bk depth) (args.toList.map (bP σ) ++ caps)=some (as,passed)) (hgo:∀ g,r.gone=some g→σ'.bk g=σ.bk g):QQ P F R p k o σ' r where
 what:=by
  rcases h.what with⟨h1,h2⟩ | ⟨h1,h2⟩
  ·exact .inl ⟨hs.wanted.trans h1,h2⟩
  ·exact .inr ⟨hs.wanted.trans h1,afl h2 hs.eval (hop h1) (hsh h1) hgo⟩
 mine:=fun i cs hm=>⟨(h.mine i cs hm).1,hu i cs hm,(h.mine i cs hm).2.2⟩
 nodup:=h.nodup
 men:=h.men
 menc:=h.menc
 gon:=h.gon
theorem JZ {op:Op} {fo:Operand} {args:Array Operand} (h:callParts op=some (fo,args)):fo∈op.operands∧∀ x∈args.toList,x∈op.operands:=by
 cases op with
 |call c=>
  obtain⟨callee,as,ts⟩:=c
  cases callee with
  |value g=>
   simp[callParts] at h
   obtain⟨rfl,rfl⟩:=h
   exact⟨by simp[Op.operands,Call.operands],fun x hx=>by simp[Op.operands,Call.operands];right;simpa using hx⟩
  |_=>simp[callParts] at h
 |_=>simp[callParts] at h
theorem UY {σ:St} {op:Op} {fo:Operand} {args:Array Operand} {f:FuncId} {caps:List D} (h:callParts op=some (fo,args)) (hf:bP σ fo= .fn f caps) {id:Nat} (he:∀ x∈op.operands,(bP σ x).has id=false):
  D.dm id (args.toList.map (bP σ) ++ caps)=false:=by
 obtain⟨h1,h2⟩:=JZ h
 refine dF fun d hd=>?_
 rcases List.mem_append.1 hd with hd | hd
 ·simp only[List.mem_map] at hd
  obtain⟨x,hx,rfl⟩:=hd
  exact he x (h2 x hx)
 ·have:=he fo h1
  rw[hf] at this
  exact oW (by simpa [D.has] using this) d hd
theorem sV (σ:St) (dst:Option Tmp) (r:QR):(σ.q dst r).bk=nN σ.bk r:=by cases dst<;>rfl
theorem St.ext' {σ σ':St} (h1:σ.fr=σ'.fr) (h2:σ.stk=σ'.stk) (h3:σ.bk=σ'.bk) (h4:σ.loop=σ'.loop):σ=σ':=by
 cases σ;cases σ';simp at h1 h2 h3 h4;simp[h1,h2,h3,h4]
theorem SX (σ:St) (dst:Option Tmp) (d:D):(σ.put dst d).loop=σ.loop:=by cases dst<;>rfl
theorem lI (σ:St) (dst:Option Tmp) (d:D):(σ.put dst d).stk=σ.stk∧(σ.put dst d).bk=σ.bk:=by cases dst<;>exact⟨rfl,rfl⟩
theorem iV {op:Op} (h:kindOf P op=0) {fo:Operand} {args:Array Operand}:callParts op≠some (fo,args):=by
 intro hc
 cases op with
 |call c=>
  obtain⟨callee,as,ts⟩:=c
  cases callee with
  |value g=>simp[kindOf] at h
  |_=>simp[callParts] at hc
 |_=>simp[callParts] at hc
theorem adD {o:Oper} {ρ:Operand→D} {bk:Nat→Option fK} {r:QR} (hk:kindOf P o.op=0) (h:F7 P F o ρ bk r):r.ro=[]:=by
 cases h with
 |call h _ _ _ _=>exact absurd h (iV hk)
 |_=>rfl
theorem Uu {o:Oper} {ρ:Operand→D} {bk:Nat→Option fK} {r:QR} (h:F7 P F o ρ bk r):∀ g,g∈r.ro→g∈r.told:=by
 cases h with
 |call h1 h2 h3 h4 h5=>
  intro g hg
  simp only at hg ⊢
  split at hg
  ·cases hg
  ·exact hg
 |_=>intro g hg;cases hg
theorem J4 {o:Oper} {ρ:Operand→D} {bk:Nat→Option fK} {r:QR} (h:F7 P F o ρ bk r) {g:Nat} (hg:r.gone=some g):(∃ y∈o.op.operands,(ρ y).has g=true)∧kindOf P o.op=1∧r.ro=[]∧bk g≠none:=by
 cases h with
 |grow hk hy h1 hz hb hl=>
  simp only[Option.some.injEq] at hg;subst hg
  obtain⟨y,y1,y2⟩:=hy
  exact⟨⟨y,y1,by rw[y2];simp[D.has]⟩,hk,rfl,by rw[hb];simp⟩
 |_=>cases hg
theorem Kw {bk:Nat→Option fK} {r:QR}:Agree (fun i=>∃ cs,(i,cs)∈r.new) bk (nN bk { r with gone:=none }):=fun i hi=>agl (r:={ r with gone:=none }) i fun h=>by
 rcases h with h | h
 ·exact hi h
 ·cases h
theorem G6 {bk:Nat→Option fK} {r:QR} {g:Nat} (hg:∀ i,r.gone=some i→i=g):Agree (·=g) (nN bk { r with gone:=none }) (nN bk r):=by
 intro i hi
 simp only[nN]
 cases ni i r.new with
 |some b=>rfl
 |none=>
  simp only[]
  rw[if_neg (show ¬ r.gone=some i from fun h=>hi (hg i h))]
  simp
theorem KE {bk:Nat→Option fK} {r:QR} (h:r.gone=none):nN bk { r with gone:=none }=nN bk r:=by
 cases r;simp only at h;subst h;rfl
theorem UE {bk:Nat→Option fK} {r:QR} {ρ:Operand→D} {o:Oper} {ri:QR} (hk:kindOf P o.op≤1) (hn:∀ x∈o.op.operands,∀ id cs,(id,cs)∈r.new→(ρ x).has id=false)
  (hs:∀ g,r.gone=some g→kindOf P o.op=0∨Sep ρ o g ri):dR P (nN bk r) ρ o.type o.op=dR P bk ρ o.type o.op:=by
 have h1:dR P (nN bk { r with gone:=none }) ρ o.type o.op=dR P bk ρ o.type o.op:=CY Kw hk fun x hx id ⟨cs,hid⟩=>hn x hx id cs hid
 cases hg:r.gone with
 |none=>rw[←KE hg];exact h1
 |some g=>
  rcases hs g hg with h0 | h2
  ·exact vY h0
  ·rw[←h1]
   exact CY (G6 (g:=g) fun i e=>by rw[hg] at e;cases e;rfl) hk fun y hy n hn=>by subst hn;exact h2.1 y hy
theorem WY {bk:Nat→Option fK} {r ri:QR} {ρ:Operand→D} {o:Oper} {ds as:List D} {passed:List Nat} (hb:∀ l b,bk l=some b→∀ id cs,(id,cs)∈r.new→D.dm id b.cells=false) (hds:∀ id cs,(id,cs)∈r.new→D.dm id ds=false)
  (ht:ri.told=passed) (hs:∀ g,r.gone=some g→Sep ρ o g ri) (h:aW (share bk depth) ds=some (as,passed)):aW (share (nN bk r) depth) ds=some (as,passed):=by
 have h1:aW (share (nN bk { r with gone:=none }) depth) ds=some (as,passed):=by
  rw[←h]
  exact jG Kw (fun l b hb' id ⟨cs,hid⟩=>hb l b hb' id cs hid) depth _ fun id ⟨cs,hid⟩=>hds id cs hid
 cases hg:r.gone with
 |none=>rw[←KE hg];exact h1
 |some g=>exact mD (G6 (g:=g) fun i e=>by rw[hg] at e;cases e;rfl) depth _ as passed h1 (by rw[←ht];exact(hs g hg).2)
theorem Vz {bk:Nat→Option fK} {r ri:QR} {ρ:Operand→D} {o:Oper} {ds as:List D} {passed:List Nat} (hb:∀ l b,bk l=some b→∀ id cs,(id,cs)∈r.new→D.dm id b.cells=false) (hds:∀ id cs,(id,cs)∈r.new→D.dm id ds=false)
  (ht:ri.told=passed) (hs:∀ g,r.gone=some g→Sep ρ o g ri) (h:aW (share (nN bk r) depth) ds=some (as,passed)):aW (share bk depth) ds=some (as,passed):=by
 have h1:aW (share (nN bk { r with gone:=none }) depth) ds=some (as,passed):=by
  cases hg:r.gone with
  |none=>rw[KE hg];exact h
  |some g=>exact mD (G6 (g:=g) fun i e=>by rw[hg] at e;cases e;rfl).symm depth _ as passed h (by rw[←ht];exact(hs g hg).2)
 rw[←h1]
 exact(jG Kw (fun l b hb' id ⟨cs,hid⟩=>hb l b hb' id cs hid) depth _ fun id ⟨cs,hid⟩=>hds id cs hid).symm
theorem agh {i j:Nat} (hij:p.W j i=true) {oi oj:Oper} (hap:oi.apart R oj=true) (hdis:∀ id,id∈p.zs i→id∉p.zs j) {σ:St} {ri rj:QR} (hi:QQ P F R p i oi σ ri) (hj:QQ P F R p j oj (σ.q oi.dst ri) rj) (hu:∀ id cs,(id,cs)∈rj.new→Unused id σ)
  (gi:∀ g,rj.gone=some g→bJ R oi σ=some true→kindOf P oi.op=0∨Sep (bP σ) oi g ri) (gj:∀ g,ri.gone=some g→bJ R oj (σ.q oi.dst ri)=some true→kindOf P oj.op=0∨Sep (bP (σ.q oi.dst ri)) oj g rj):
  QQ P F R p j oj σ rj∧QQ P F R p i oi (σ.q oj.dst rj) ri∧(σ.q oi.dst ri).q oj.dst rj=(σ.q oj.dst rj).q oi.dst ri:=by
 obtain⟨a1,a2,a3⟩:=Oper.apart_spec hap
 have sj:Same R oj σ (σ.q oi.dst ri):=xG a1
 have si:Same R oi σ (σ.q oj.dst rj):=xG a3
 have ui:∀ id cs,(id,cs)∈ri.new→Unused id σ:=fun id cs h=>(hi.mine id cs h).2.1
 have told_i:bJ R oi σ=some true→∀ g,rj.gone=some g→∀ fo args,callParts oi.op=some (fo,args)→Sep (bP σ) oi g ri:=fun hw g hg fo args hc=>by
  rcases gi g hg hw with h | h
  ·exact absurd hc (iV h)
  ·exact h
 have told_j:bJ R oj (σ.q oi.dst ri)=some true→∀ g,ri.gone=some g→∀ fo args,callParts oj.op=some (fo,args)→Sep (bP (σ.q oi.dst ri)) oj g rj:=fun hw g hg fo args hc=>by
  rcases gj g hg hw with h | h
  ·exact absurd hc (iV h)
  ·exact h
 have no_i:∀ g,rj.gone=some g→g∉ri.ro∧ri.gone≠some g∧∀ cs,(g,cs)∉ri.new:=by
  intro g hg
  rcases hj.what with⟨_,rfl⟩ | ⟨hwj,qj⟩
  ·cases hg
  obtain⟨⟨y,y1,y2⟩,kj,_,bj⟩:=J4 qj hg
  refine⟨fun hr=>?_,fun he=>?_,fun cs hc=>?_⟩
  ·rcases hi.what with⟨_,rfl⟩ | ⟨hwi,qi⟩
   ·cases hr
   ·rcases gi g hg hwi with h | h
    ·exact absurd hr (by rw[adD h qi];simp)
    ·exact h.2 (Uu qi g hr)
  ·rcases gj g he hwj with h | h
   ·rw[kj] at h;cases h
   ·rw[h.1 y y1] at y2;cases y2
  ·have:=(ui g cs hc).eval y
   rw[←sj.eval y y1,y2] at this;cases this
 have no_j:∀ g,ri.gone=some g→g∉rj.ro∧∀ cs,(g,cs)∉rj.new:=by
  intro g hg
  rcases hi.what with⟨_,rfl⟩ | ⟨hwi,qi⟩
  ·cases hg
  obtain⟨⟨y,y1,y2⟩,kj,_,bj⟩:=J4 qi hg
  refine⟨fun hr=>?_,fun cs hc=>?_⟩
  ·rcases hj.what with⟨_,rfl⟩ | ⟨hwj,qj⟩
   ·cases hr
   ·rcases gj g hg hwj with h | h
    ·exact absurd hr (by rw[adD h qj];simp)
    ·exact h.2 (Uu qj g hr)
  ·have:=(hu g cs hc).eval y
   rw[y2] at this;cases this
 have hj':QQ P F R p j oj σ rj:=by
  refine hj.move sj.symm hu (fun hw hk=>?_) (fun hw fo args f caps as passed h1 h2 h3 h4=>?_) fun g hg=>?_
  ·rw[sV]
   refine(UE (ri:=rj) hk (fun x hx id cs hid=>?_) fun g hg=>gj g hg hw).symm
   rw[sj.eval x hx];exact(ui id cs hid).eval x
  ·rw[sV] at h3
   refine Vz (fun l b hb id cs hid=>(ui id cs hid).bk l b hb) (fun id cs hid=>?_) h4 (fun g hg=>told_j hw g hg fo args h1) h3
   have e2:bP (σ.q oi.dst ri) fo= .fn f caps:=h2
   refine UY h1 e2 (fun x hx=>?_)
   rw[sj.eval x hx]
   exact(ui id cs hid).eval x
  ·obtain⟨k1,k2,k3⟩:=no_i g hg
   rw[sV];simp only[nN,iI k3,if_neg k1,if_neg k2]
 have hi':QQ P F R p i oi (σ.q oj.dst rj) ri:=by
  refine hi.move si (fun id cs h=>?_) (fun hw hk=>?_) (fun hw fo args f caps as passed h1 h2 h3 h4=>?_) fun g hg=>?_
  ·have hz:=(hi.mine id cs h).1
   refine xu (ui id cs h) (hj.men i hij id hz) (fun cs' h'=>?_) (fun l cs' h'=>dF fun d hd=>hj.menc l cs' h' d hd i hij id hz)
   exact hdis id hz (hj.mine id cs' h').1
  ·rw[sV]
   exact UE (ri:=ri) hk (fun x hx id cs hid=>(hu id cs hid).eval x) fun g hg=>gi g hg hw
  ·rw[sV]
   exact WY (fun l b hb id cs hid=>(hu id cs hid).bk l b hb) (fun id cs hid=>UY h1 h2 (fun x hx=>(hu id cs hid).eval x)) h4 (fun g hg=>told_i hw g hg fo args h1) h3
  ·obtain⟨k1,k3⟩:=no_j g hg
   have k2:rj.gone≠some g:=fun e=>(no_i g e).2.1 hg
   rw[sV];simp only[nN,iI k3,if_neg k1,if_neg k2]
 refine⟨hj',hi',?_⟩
 have roi:∀ id cs,(id,cs)∈rj.new→id∉ri.ro:=by
  intro id cs h
  rcases hi.what with⟨_,rfl⟩ | ⟨_,h2⟩
  ·simp
  ·exact afj h2 (fun l b hb=>(hu id cs h).bk l b hb) (fun x hx=>(hu id cs h).eval x)
 have roj:∀ id cs,(id,cs)∈ri.new→id∉rj.ro:=by
  intro id cs h
  rcases hj'.what with⟨_,rfl⟩ | ⟨_,h2⟩
  ·simp
  ·exact afj h2 (fun l b hb=>(ui id cs h).bk l b hb) (fun x hx=>(ui id cs h).eval x)
 have hbk:nN (nN σ.bk ri) rj=nN (nN σ.bk rj) ri:=by
  funext id
  simp only[nN]
  cases h1:ni id ri.new with
  |some b=>
   obtain⟨cs,m1,_⟩:=xO h1
   cases h2:ni id rj.new with
   |some b'=>
    obtain⟨cs',m2,_⟩:=xO h2
    exact absurd (hj.mine id cs' m2).1 (hdis id (hi.mine id cs m1).1)
   |none=>
    have:rj.gone≠some id:=fun e=>(no_i id e).2.2 cs m1
    simp[roj id cs m1,this]
  |none=>
   cases h2:ni id rj.new with
   |some b'=>
    obtain⟨cs',m2,_⟩:=xO h2
    have:ri.gone≠some id:=fun e=>(no_j id e).2 cs' m2
    simp[roi id cs' m2,this]
   |none=>
    simp only[]
    by_cases x1:id∈ri.ro<;>by_cases x2:id∈rj.ro<;>by_cases x3:ri.gone=some id<;>by_cases x4:rj.gone=some id<;>simp[x1,x2,x3,x4]
 refine St.ext' ?_ ?_ ?_ (by cases oi.dst<;>cases oj.dst<;>rfl)
 ·have e1:=congrArg St.fr (St.put_comm ({ σ with bk:=nN (nN σ.bk ri) rj }:St) (s:=oi.dst) (t:=oj.dst) a2 ri.d rj.d)
  have e2:((σ.q oi.dst ri).q oj.dst rj).fr=((St.put ({ σ with bk:=nN (nN σ.bk ri) rj }:St) oi.dst ri.d).put oj.dst rj.d).fr:=by
   cases oi.dst<;>cases oj.dst<;>rfl
  have e3:((σ.q oj.dst rj).q oi.dst ri).fr=((St.put ({ σ with bk:=nN (nN σ.bk ri) rj }:St) oj.dst rj.d).put oi.dst ri.d).fr:=by
   cases oi.dst<;>cases oj.dst<;>rfl
  rw[e2,e3,e1]
 ·cases oi.dst<;>cases oj.dst<;>rfl
 ·rw[sV,sV,sV,sV];exact hbk
theorem abH {x:D} {cs:List D} {id:Nat} (h:x.cells=some cs) (hx:x.has id=false):D.dm id cs=false:=by
 cases x with
 |agg ds=>simp[D.cells] at h;subst h;simpa [D.has] using hx
 |v y=>
  simp[D.cells] at h;subst h
  refine dF fun d hd=>?_
  simp only[List.mem_map] at hd
  obtain⟨z,_,rfl⟩:=hd
  rfl
 |sh n ds=>simp[D.cells] at h;subst h;simp[D.dm];exact hx
 |sl a b c d=>simp[D.cells] at h;subst h;simp[D.dm];exact hx
 |ptr a b=>simp[D.cells] at h;subst h;simp[D.dm];exact hx
 |pel a b c d=>simp[D.cells] at h;subst h;simp[D.dm];exact hx
 |shp ds off=>simp[D.cells] at h;subst h;simp[D.dm];exact hx
 |emp=>simp[D.cells] at h;subst h;rfl
 |rc cs=>simp[D.cells] at h;subst h;rfl
 |fn f ds=>simp[D.cells] at h;subst h;simp[D.dm];exact hx
 |_=>simp[D.cells] at h
theorem kind2 {op:Op} (h:kindOf P op=2):∃ t ad x,op= .store t ad x:=by
 unfold kindOf at h
 split at h<;>first | (cases h;done) | exact⟨_,_,_,rfl⟩ | (exfalso;omega)
theorem UB {bk:Nat→Option fK} {ρ:Operand→D} {ty t:TypeId} {ad x:Operand} {id off:Nat} {ds:List D} (h:dR P bk ρ ty (.store t ad x)=some (.sto id off ds)):(ρ ad).has id=true∧(ρ x).cells=some ds:=by
 simp only[dR,wM] at h
 split at h
 next i o d inf h1 h2 h3=>
  split at h
  ·simp at h;obtain⟨rfl,rfl,rfl⟩:=h;exact⟨by rw[h1];simp[D.has],h2⟩
  ·cases h
 next i o n j d inf h1 h2 h3=>
  split at h
  ·simp at h;obtain⟨rfl,rfl,rfl⟩:=h;exact⟨by rw[h1];simp[D.has],h2⟩
  ·cases h
 ·cases h
theorem VB {id:Nat} {cs ds:List D} {off:Nat} (h1:D.dm id cs=false) (h2:D.dm id ds=false):D.dm id (splice cs off ds)=false:=by
 refine dF fun d hd=>?_
 simp only[splice,List.mem_append] at hd
 rcases hd with(hd | hd) | hd
 ·exact oW h1 d (List.mem_of_mem_take hd)
 ·exact oW h2 d hd
 ·exact oW h1 d (List.mem_of_mem_drop hd)
theorem og {id j off:Nat} {σ:St} {cells ds:List D} {dst:Option Tmp} (h:Unused id σ) (hb:σ.bk j=some ⟨cells,false⟩) (hd:D.dm id ds=false):Unused id ((σ.setB j ⟨splice cells off ds,false⟩).put dst (.v undef)) where
 fr:=fun t=>by
  cases dst with
  |none=>exact h.fr t
  |some s=>
   simp only[St.put,Fr.put,St.setB]
   split
   ·have key:∀ (p:Prop) (i:Decidable p),D.has id (@ite D p i (.v undef) .undef)=false:=by
     intro p i;by_cases hs:p
     ·rw[if_pos hs];rfl
     ·rw[if_neg hs];rfl
    exact key _ _
   ·exact h.fr t
 stk:=fun f hf=>by
  rw[(lI _ dst _).1] at hf
  exact h.stk f hf
 lp:=fun e=>by rw[SX];exact h.lp e
 no:=by
  rw[(lI _ dst _).2]
  simp only[St.setB]
  split
  next e=>subst e;rw[h.no] at hb;cases hb
  next=>exact h.no
 bk:=fun i b hbi=>by
  rw[(lI _ dst _).2] at hbi
  simp only[St.setB] at hbi
  split at hbi
  next e=>simp at hbi;subst hbi;exact VB (h.bk j _ hb) hd
  next=>exact h.bk i b hbi
theorem aiD {i j:Nat} {oi oj:Oper} (hap:oi.apart R oj=true) {σ:St} {ri:QR} (hi:QQ P F R p i oi σ ri) {id off:Nat} {ds cells:List D} (hw:bJ R oj (σ.q oi.dst ri)=some true) (hk:kindOf P oj.op=2)
  (hop:dR P (σ.q oi.dst ri).bk (bP (σ.q oi.dst ri)) oj.type oj.op=some (.sto id off ds)) (hb:(σ.q oi.dst ri).bk id=some ⟨cells,false⟩) (hl:off+ds.length≤cells.length) (hm:∀ d∈ds,wQ p j d)
  (hsep:bJ R oi σ=some true→kindOf P oi.op=0∨Sep (bP σ) oi id ri) (ht:p.U j=true→id=p.tgt j):
  gJ P F O R p j oj σ ((σ.setB id ⟨splice cells off ds,false⟩).put oj.dst (.v undef))∧QQ P F R p i oi ((σ.setB id ⟨splice cells off ds,false⟩).put oj.dst (.v undef)) ri∧
   ((σ.q oi.dst ri).setB id ⟨splice cells off ds,false⟩).put oj.dst (.v undef)=((σ.setB id ⟨splice cells off ds,false⟩).put oj.dst (.v undef)).q oi.dst ri:=by
 obtain⟨a1,a2,a3⟩:=Oper.apart_spec hap
 have sj:Same R oj σ (σ.q oi.dst ri):=xG a1
 obtain⟨t,ad,x,hopj⟩:=kind2 hk
 rw[hopj] at hop
 obtain⟨p1,p2⟩:=UB hop
 have ead:=sj.eval ad (by rw[hopj];simp[Op.operands])
 have ex:=sj.eval x (by rw[hopj];simp[Op.operands])
 rw[ead] at p1
 rw[ex] at p2
 have hnew:∀ cs,(id,cs)∉ri.new:=by
  intro cs hc
  have:=((hi.mine id cs hc).2.1).eval ad
  rw[p1] at this
  cases this
 have hgone:ri.gone≠some id:=fun e=>by
  rw[sV] at hb
  simp only[nN,iI hnew,if_pos e] at hb
  cases hb
 have hbσ:σ.bk id=some ⟨cells,false⟩∧id∉ri.ro:=by
  rw[sV] at hb
  simp only[nN,iI hnew,if_neg hgone] at hb
  split at hb
  ·cases h:σ.bk id with
   |none=>rw[h] at hb;cases hb
   |some b=>rw[h] at hb;simp at hb
  next hr=>exact⟨hb,hr⟩
 have hopσ:dR P σ.bk (bP σ) oj.type oj.op=some (.sto id off ds):=by
  rw[hopj]
  have:dR P σ.bk (bP σ) oj.type (.store t ad x)=dR P (σ.q oi.dst ri).bk (bP (σ.q oi.dst ri)) oj.type (.store t ad x):=by
   simp only[dR,ead,ex]
  rw[this];exact hop
 have si:Same R oi σ ((σ.setB id ⟨splice cells off ds,false⟩).put oj.dst (.v undef)):=KG a3
 have hag:Agree (·=id) σ.bk ((σ.setB id ⟨splice cells off ds,false⟩).put oj.dst (.v undef)).bk:=by
  intro l hl'
  rw[(lI _ oj.dst _).2]
  simp only[St.setB,if_neg hl']
 refine⟨.sto (by rw[←sj.wanted];exact hw) hk hopσ hbσ.1 hl hm ht,?_,?_⟩
 ·refine hi.move si (fun l cs hc=>?_) (fun hw1 hk1=>?_) (fun hw1 fo args f caps as passed h1 h2 h3 h4=>?_) ?_
  ·have hul:=(hi.mine l cs hc).2.1
   exact og hul hbσ.1 (abH p2 (hul.eval x))
  ·rcases hsep hw1 with h0 | hs
   ·exact vY h0
   ·exact CY hag hk1 (fun y hy n hn=>by subst hn;exact hs.1 y hy)
  ·rcases hsep hw1 with h0 | hs
   ·exact absurd h1 (iV h0)
   ·have hnot:id∉passed:=by rw[←h4];exact hs.2
    exact mD hag depth _ as passed h3 hnot
  ·intro g hg
   rw[(lI _ oj.dst _).2]
   simp only[St.setB]
   rw[if_neg fun e=>hgone (by rw[hg,e])]
 ·refine St.ext' ?_ ?_ ?_ (by cases oi.dst<;>cases oj.dst<;>rfl)
  ·have e1:=congrArg St.fr (St.put_comm σ (s:=oi.dst) (t:=oj.dst) a2 ri.d (.v undef))
   have e2:(((σ.q oi.dst ri).setB id ⟨splice cells off ds,false⟩).put oj.dst (.v undef)).fr=((σ.put oi.dst ri.d).put oj.dst (.v undef)).fr:=by
    cases oi.dst<;>cases oj.dst<;>rfl
   have e3:(((σ.setB id ⟨splice cells off ds,false⟩).put oj.dst (.v undef)).q oi.dst ri).fr=((σ.put oj.dst (.v undef)).put oi.dst ri.d).fr:=by
    cases oi.dst<;>cases oj.dst<;>rfl
   rw[e2,e3,e1]
  ·cases oi.dst<;>cases oj.dst<;>rfl
  ·rw[(lI _ oj.dst _).2,sV,(lI _ oj.dst _).2]
   funext l
   simp only[St.setB,sV,nN]
   by_cases e:l=id
   ·subst e
    simp[iI hnew,hbσ.2,hgone]
   ·simp[e]
theorem aiC {i j:Nat} {oi oj:Oper} (hap:oi.apart R oj=true) {σ:St} {rj:QR} {id off:Nat} {ds cells:List D} (hw:bJ R oi σ=some true) (hk:kindOf P oi.op=2)
  (hop:dR P σ.bk (bP σ) oi.type oi.op=some (.sto id off ds)) (hb:σ.bk id=some ⟨cells,false⟩) (hl:off+ds.length≤cells.length) (hm:∀ d∈ds,wQ p i d) (ht:p.U i=true→id=p.tgt i)
  (hj:QQ P F R p j oj ((σ.setB id ⟨splice cells off ds,false⟩).put oi.dst (.v undef)) rj) (hk0:bJ R oj ((σ.setB id ⟨splice cells off ds,false⟩).put oi.dst (.v undef))=some true→kindOf P oj.op=0) (hu:∀ id cs,(id,cs)∈rj.new→Unused id σ):
  QQ P F R p j oj σ rj∧(gJ P F O R p i oi (σ.q oj.dst rj) (((σ.q oj.dst rj).setB id ⟨splice cells off ds,false⟩).put oi.dst (.v undef)))∧
   ((σ.setB id ⟨splice cells off ds,false⟩).put oi.dst (.v undef)).q oj.dst rj=((σ.q oj.dst rj).setB id ⟨splice cells off ds,false⟩).put oi.dst (.v undef):=by
 obtain⟨a1,a2,a3⟩:=Oper.apart_spec hap
 have sj:Same R oj σ ((σ.setB id ⟨splice cells off ds,false⟩).put oi.dst (.v undef)):=KG a1
 have si:Same R oi σ (σ.q oj.dst rj):=xG a3
 obtain⟨t,ad,x,hopi⟩:=kind2 hk
 have hj':QQ P F R p j oj σ rj:=by
  refine hj.move sj.symm hu (fun hw1 _=>vY (hk0 hw1)) (fun hw1 fo args f caps as passed h1 h2 h3 h4=>absurd h1 (iV (hk0 hw1))) (fun g hg=>by
   rcases hj.what with⟨_,rfl⟩ | ⟨hw1,h2⟩
   ·cases hg
   ·have:=(J4 h2 hg).2.1;rw[hk0 hw1] at this;cases this)
 have hnew:∀ cs,(id,cs)∉rj.new:=fun cs hc=>by have:=(hu id cs hc).no;rw[hb] at this;cases this
 have hro:id∉rj.ro∧rj.gone=none:=by
  rcases hj.what with⟨_,rfl⟩ | ⟨hw1,h2⟩
  ·simp
  ·cases h2 with
   |call h1 _ _ _ _=>exact absurd h1 (iV (hk0 hw1))
   |grow h1 _ _ _ _ _=>rw[hk0 hw1] at h1;cases h1
   |_=>simp
 refine⟨hj',?_,?_⟩
 ·refine .sto (si.wanted.trans hw) hk ?_ ?_ hl hm ht
  ·rw[hopi] at hop ⊢
   have:dR P (σ.q oj.dst rj).bk (bP (σ.q oj.dst rj)) oi.type (.store t ad x)=dR P σ.bk (bP σ) oi.type (.store t ad x):=by
    simp only[dR,si.eval ad (by rw[hopi];simp[Op.operands]),si.eval x (by rw[hopi];simp[Op.operands])]
   rw[this];exact hop
  ·rw[sV];simp only[nN,iI hnew,hro.2,if_neg hro.1];simpa using hb
 ·refine St.ext' ?_ ?_ ?_ (by cases oi.dst<;>cases oj.dst<;>rfl)
  ·have e1:=congrArg St.fr (St.put_comm σ (s:=oi.dst) (t:=oj.dst) a2 (.v undef) rj.d)
   have e2:(((σ.setB id ⟨splice cells off ds,false⟩).put oi.dst (.v undef)).q oj.dst rj).fr=((σ.put oi.dst (.v undef)).put oj.dst rj.d).fr:=by
    cases oi.dst<;>cases oj.dst<;>rfl
   have e3:(((σ.q oj.dst rj).setB id ⟨splice cells off ds,false⟩).put oi.dst (.v undef)).fr=((σ.put oj.dst rj.d).put oi.dst (.v undef)).fr:=by
    cases oi.dst<;>cases oj.dst<;>rfl
   rw[e2,e3,e1]
  ·cases oi.dst<;>cases oj.dst<;>rfl
  ·rw[sV,(lI _ oi.dst _).2,(lI _ oi.dst _).2]
   funext l
   simp only[St.setB,sV,nN]
   by_cases e:l=id
   ·subst e
    simp[iI hnew,hro.1,hro.2]
   ·simp[e]
theorem wK {id:Nat} {σ:St} {dst:Option Tmp} {v:Value} (h:Unused id (σ.put dst (.v undef))):Unused id (σ.put dst (D.oV v)) where
 fr:=fun t=>by
  have h1:=h.fr t
  cases dst with
  |none=>exact h1
  |some s=>
   simp only[St.put,Fr.put] at h1 ⊢
   split
   ·split
    ·exact Y6 v id
    ·rfl
   ·next hne=>rw[if_neg hne] at h1;exact h1
 stk:=fun f hf=>by
  rw[(lI _ dst _).1] at hf
  exact h.stk f (by rw[(lI _ dst _).1];exact hf)
 no:=by have:=h.no;rw[(lI _ dst _).2] at this ⊢;exact this
 lp:=fun e=>by have:=h.lp e;rw[SX] at this ⊢;exact this
 bk:=fun i b hb=>by
  rw[(lI _ dst _).2] at hb
  exact h.bk i b (by rw[(lI _ dst _).2];exact hb)
theorem Eh {bk:Nat→Option fK} {ρ:Operand→D} {ty:TypeId} {op:Op} {e:Eff} (hk:kindOf P op=0) (h:dR P bk ρ ty op=some e):∃ d,e= .val d:=by
 have hp:∀ (s:Sem Value),uX P s=some e→∃ d,e= .val d:=fun s h=>by
  simp only[uX,Option.map_eq_some_iff] at h;obtain⟨u,_,rfl⟩:=h;exact⟨_,rfl⟩
 cases op with
 |move x=>simp only[dR,Option.some.injEq] at h;exact⟨_,h.symm⟩
 |assign x=>simp only[dR,Option.some.injEq] at h;exact⟨_,h.symm⟩
 |pick c a b=>simp only[dR,PV] at h;(repeat' split at h)<;>first | exact hp _ h | (simp only[Option.some.injEq] at h;exact⟨_,h.symm⟩) | (simp only[Option.map_eq_some_iff] at h;obtain⟨u,_,rfl⟩:=h;exact⟨_,rfl⟩) | cases h
 |build t ps=>
  simp only[dR,IX] at h
  split at h
  ·split at h
   ·simp only[Option.map_eq_some_iff] at h;obtain⟨u,_,rfl⟩:=h;exact⟨_,rfl⟩
   ·cases h
  ·split at h
   ·cases h
   ·simp only[Option.map_eq_some_iff] at h;obtain⟨u,_,rfl⟩:=h;exact⟨_,rfl⟩
  ·cases h
 |nilCheck x=>simp only[dR,Ze] at h;split at h<;>first | (simp only[Option.some.injEq] at h;exact⟨_,h.symm⟩) | cases h
 |binOp o t x y yt=>simp only[dR,abk,Ci,Gy] at h;(repeat' split at h)<;>first | exact hp _ h | (simp only[Option.some.injEq] at h;exact⟨_,h.symm⟩) | (simp only[Option.map_eq_some_iff] at h;obtain⟨u,_,rfl⟩:=h;exact⟨_,rfl⟩) | cases h
 |unOp o t x=>simp only[dR,ahn] at h;(repeat' split at h)<;>first | exact hp _ h | (simp only[Option.some.injEq] at h;exact⟨_,h.symm⟩) | (simp only[Option.map_eq_some_iff] at h;obtain⟨u,_,rfl⟩:=h;exact⟨_,rfl⟩) | cases h
 |convert s d x=>simp only[dR,QA] at h;(repeat' split at h)<;>first | exact hp _ h | (simp only[Option.some.injEq] at h;exact⟨_,h.symm⟩) | (simp only[Option.map_eq_some_iff] at h;obtain⟨u,_,rfl⟩:=h;exact⟨_,rfl⟩) | cases h
 |makeFunc f a b=>
  cases f<;>simp only[dR] at h<;>first | (split at h<;>first | (simp only[Option.some.injEq] at h;exact⟨_,h.symm⟩) | cases h) | cases h
 |fieldAddr t x f=>simp only[dR,oD] at h;(repeat' split at h)<;>first | (simp only[Option.some.injEq] at h;exact⟨_,h.symm⟩) | cases h
 |field t x f=>simp only[dR,KH] at h;(repeat' split at h)<;>first | (simp only[Option.map_eq_some_iff] at h;obtain⟨u,_,rfl⟩:=h;exact⟨_,rfl⟩) | cases h
 |indexAddr t x i=>simp only[dR,kH] at h;split at h<;>simp only[Au,lV] at h<;>(repeat' split at h)<;>first | (simp only[Option.some.injEq] at h;exact⟨_,h.symm⟩) | cases h
 |index t x i=>simp only[dR,zu] at h;(repeat' split at h)<;>first | (simp only[Option.map_eq_some_iff] at h;obtain⟨u,_,rfl⟩:=h;exact⟨_,rfl⟩) | (simp only[Option.some.injEq] at h;exact⟨_,h.symm⟩) | cases h
 |extract x i=>simp only[dR,wF] at h;split at h<;>first | (simp only[Option.map_eq_some_iff] at h;obtain⟨u,_,rfl⟩:=h;exact⟨_,rfl⟩) | cases h
 |slice t x lo hi mx=>
  cases mx with
  |none=>simp[kindOf] at hk
  |some m=>simp only[dR,yQ,J6] at h;(repeat' split at h)<;>first | (simp only[Option.some.injEq] at h;exact⟨_,h.symm⟩) | cases h
 |call c=>
  obtain⟨callee,args,ts⟩:=c
  cases callee with
  |value g=>simp[kindOf] at hk
  |invoke r m=>simp[dR] at h
  |builtin b=>
   cases b<;>first | (simp[kindOf] at hk;done) | skip
   ·rcases args with _ | ⟨x,_ | ⟨y,l⟩⟩<;>rcases ts with _ | ⟨t,_ | ⟨u,m⟩⟩<;>simp only[dR] at h<;>first | (cases h;done) | skip
    all_goals (simp only[lenD] at h;(repeat' split at h)<;>first | (simp only[Option.some.injEq] at h;exact⟨_,h.symm⟩) | cases h)
   ·simp only[dR,xJ] at h;(repeat' split at h)<;>first | exact hp _ h | (simp only[Option.some.injEq] at h;exact⟨_,h.symm⟩) | (simp only[Option.map_eq_some_iff] at h;obtain⟨u,_,rfl⟩:=h;exact⟨_,rfl⟩) | cases h
   ·simp only[dR,xJ] at h;(repeat' split at h)<;>first | exact hp _ h | (simp only[Option.some.injEq] at h;exact⟨_,h.symm⟩) | (simp only[Option.map_eq_some_iff] at h;obtain⟨u,_,rfl⟩:=h;exact⟨_,rfl⟩) | cases h
 |_=>first | (simp[kindOf] at hk;done) | (simp[dR] at h;done)
theorem ap4 {o:Oper} {ρ:Operand→D} {bk:Nat→Option fK} {r:QR} (hk:kindOf P o.op=0) (h:F7 P F o ρ bk r):r.new=[]∧r.ro=[]∧r.gone=none:=by
 cases h with
 |val _ _=>exact⟨rfl,rfl,rfl⟩
 |box _ h=>obtain⟨d,e⟩:=Eh hk h;cases e
 |row _ h=>obtain⟨d,e⟩:=Eh hk h;cases e
 |row0 _ _=>exact⟨rfl,rfl,rfl⟩
 |grow hk1 _ _ _ _ _=>rw[hk] at hk1;cases hk1
 |app0 _ h _=>obtain⟨d,e⟩:=Eh hk h;cases e
 |appE hk1 _ _=>rw[hk] at hk1;cases hk1
 |ext h _ _ _=>exact absurd h (iV hk)
 |call h _ _ _ _=>exact absurd h (iV hk)
theorem qq0 {k:Nat} {o:Oper} {σ:St} {r:QR} (h:QQ P F R p k o σ r) (hk:bJ R o σ=some true→kindOf P o.op=0):r.new=[]∧r.ro=[]∧r.gone=none:=by
 rcases h.what with⟨_,rfl⟩ | ⟨h1,h2⟩
 ·exact⟨rfl,rfl,rfl⟩
 ·exact ap4 (hk h1) h2
theorem ali {bk:Nat→Option fK} {r:QR} (h:r.new=[]∧r.ro=[]∧r.gone=none):nN bk r=bk:=by
 funext i;simp[nN,h.1,h.2.1,h.2.2,ni]
end
section
variable {P:Program} {F:FuncId→List D→D→Prop} {R:Array Oper} {O:Oper→St→St→Prop} {p:Plan}
def Jp (P:Program) (R:Array Oper) (p:Plan) (i j:Nat) (oi oj:Oper):Bool:=
 oi.apart R oj && (!p.T i && (!p.T j && (p.W i j && (p.W j i &&
 ((decide (kindOf P oi.op≤1) && decide (kindOf P oj.op≤1)) || ((kindOf P oi.op ==0 && kindOf P oj.op ==2) || ((kindOf P oi.op ==1 && kindOf P oj.op ==2 && ((p.S i).contains j && p.U j)) || ((kindOf P oi.op ==2 && kindOf P oj.op ==0) || ((kindOf P oi.op ==0 && kindOf P oj.op ==4) || (kindOf P oi.op ==4 && kindOf P oj.op ==0))))))))))
def Inv (p:Plan) (listed:Array Bool) (σ:St):Prop:=∀ k,listed.getD k true=false→∀ id∈p.zs k,Unused id σ
theorem Sep.move {ρ ρ':Operand→D} {o:Oper} {t:Nat} {r:QR} (h:Sep ρ o t r) (h1:∀ y∈o.op.operands,ρ' y=ρ y):Sep ρ' o t r:=
 ⟨fun y hy=>by rw[h1 y hy];exact h.1 y hy,h.2⟩
structure CQ (P:Program) (R:Array Oper) (p:Plan) (k:Nat) (o:Oper) (σ:St) (id off:Nat) (k':Value) (ds cells:List D):Prop where
 w:bJ R o σ=some true
 kd:kindOf P o.op=4
 op:dR P σ.bk (bP σ) o.type o.op=some (.cpy id off ds k')
 b:σ.bk id=some ⟨cells,false⟩
 l:off+ds.length≤cells.length
 m:∀ d∈ds,wQ p k d
theorem xw {op:Op} {fo:Operand} {args:Array Operand} (h:callParts op=some (fo,args)):kindOf P op≤1:=by
 cases op with
 |call c=>
  obtain⟨callee,as,ts⟩:=c
  cases callee with
  |value g=>simp[kindOf]
  |_=>simp[callParts] at h
 |_=>simp[callParts] at h
theorem AL {k:Nat} {o:Oper} {σ σ':St} (h:gJ P F O R p k o σ σ') (hk:p.T k=false):
  (∃ r,QQ P F R p k o σ r∧σ'=σ.q o.dst r∧(bJ R o σ=some true→kindOf P o.op≤1)∧(bJ R o σ=some true→kindOf P o.op=0∨∀ j∈p.S k,Sep (bP σ) o (p.tgt j) r))∨
  (∃ id off ds cells,bJ R o σ=some true∧kindOf P o.op=2∧dR P σ.bk (bP σ) o.type o.op=some (.sto id off ds)∧σ.bk id=some ⟨cells,false⟩∧off+ds.length≤cells.length∧(∀ d∈ds,wQ p k d)∧(p.U k=true→id=p.tgt k)∧σ'=(σ.setB id ⟨splice cells off ds,false⟩).put o.dst (.v undef))∨
  (∃ id off k' ds cells,CQ P R p k o σ id off k' ds cells∧σ'=(σ.setB id ⟨splice cells off ds,false⟩).put o.dst (D.oV k')):=by
 cases h with
 |skip h=>exact .inl ⟨_,XQ h,rfl,(fun e=>by rw[h] at e;cases e),fun e=>by rw[h] at e;cases e⟩
 |op h1 h2 h3 h4 h5 h6 h7 h8=>
  refine .inl ⟨_,⟨.inr ⟨h1,h2⟩,h3,h4,h5,h6,h8⟩,rfl,fun _=>?_,fun _=>h7⟩
  cases h2 with
  |val h _=>exact h
  |box h _=>exact h
  |row h _=>exact h
  |row0 h _=>exact h
  |app0 h _ _=>exact h
  |appE h _ _=>omega
  |grow h _ _ _ _ _=>omega
  |ext h _ _ _=>exact xw h
  |call h _ _ _ _=>exact xw h
 |sto h1 h2 h3 h4 h5 h6 h7=>exact .inr (.inl ⟨_,_,_,_,h1,h2,h3,h4,h5,h6,h7,rfl⟩)
 |cpy h1 h2 h3 h4 h5 h6=>exact .inr (.inr ⟨_,_,_,_,_,⟨h1,h2,h3,h4,h5,h6⟩,rfl⟩)
 |oth h _ _=>rw[hk] at h;cases h
theorem TB {o oi:Oper} {σ:St} {id:Nat} {b:fK} {d0:D} (h:∀ d,oi.dst=some d→d∉o.looksAt R):Same R o σ ((σ.setB id b).put oi.dst d0):=by
 intro t ht
 cases hd:oi.dst with
 |none=>rfl
 |some d=>
  have hne:t≠d:=fun e=>h d hd (e▸ht)
  simp[St.put,Fr.put,hne,St.setB]
theorem CQ.step {k:Nat} {o:Oper} {σ:St} {id off:Nat} {k':Value} {ds cells:List D} (h:CQ P R p k o σ id off k' ds cells):gJ P F O R p k o σ ((σ.setB id ⟨splice cells off ds,false⟩).put o.dst (D.oV k')):=
 .cpy h.w h.kd h.op h.b h.l h.m
theorem q0 {σ:St} {dst:Option Tmp} {r:QR} (h:r.new=[]∧r.ro=[]∧r.gone=none):σ.q dst r=σ.put dst r.d:=by
 simp only[St.q,ali h]
theorem agE {i j:Nat} {oi oj:Oper} (hap:oi.apart R oj=true) {σ:St} {ri:QR} {id off:Nat} {k':Value} {ds cells:List D} (hi:QQ P F R p i oi σ ri) (hk:bJ R oi σ=some true→kindOf P oi.op=0) (hj:CQ P R p j oj (σ.q oi.dst ri) id off k' ds cells):
  CQ P R p j oj σ id off k' ds cells∧QQ P F R p i oi ((σ.setB id ⟨splice cells off ds,false⟩).put oj.dst (D.oV k')) ri∧
   ((σ.q oi.dst ri).setB id ⟨splice cells off ds,false⟩).put oj.dst (D.oV k')=((σ.setB id ⟨splice cells off ds,false⟩).put oj.dst (D.oV k')).q oi.dst ri:=by
 obtain⟨a1,a2,a3⟩:=Oper.apart_spec hap
 have h0:=qq0 hi hk
 have sj:Same R oj σ (σ.q oi.dst ri):=xG a1
 have si:Same R oi σ ((σ.setB id ⟨splice cells off ds,false⟩).put oj.dst (D.oV k')):=TB a3
 have ebk:(σ.q oi.dst ri).bk=σ.bk:=by rw[sV,ali h0]
 refine⟨⟨sj.wanted.symm.trans hj.w,hj.kd,?_,by rw[←ebk];exact hj.b,hj.l,hj.m⟩,?_,?_⟩
 ·have:=hj.op
  rw[ebk] at this
  rw[←this]
  exact DW fun x hx=>(sj.eval x hx).symm
 ·refine hi.move si (fun l cs hc=>by rw[h0.1] at hc;cases hc) (fun hw1 hk1=>vY (hk hw1)) (fun hw1 fo args f caps as passed h1 h2 h3 h4=>absurd h1 (iV (hk hw1))) (fun g hg=>by rw[h0.2.2] at hg;cases hg)
 ·rw[q0 h0,q0 h0]
  have e:∀ (τ:St) (d:D),(τ.put oi.dst d).setB id ⟨splice cells off ds,false⟩=(τ.setB id ⟨splice cells off ds,false⟩).put oi.dst d:=fun τ d=>by cases oi.dst<;>rfl
  rw[e,St.put_comm _ (s:=oi.dst) (t:=oj.dst) a2]
theorem air {i j:Nat} {oi oj:Oper} (hap:oi.apart R oj=true) {σ:St} {rj:QR} {id off:Nat} {k':Value} {ds cells:List D} (hi:CQ P R p i oi σ id off k' ds cells) (hj:QQ P F R p j oj ((σ.setB id ⟨splice cells off ds,false⟩).put oi.dst (D.oV k')) rj)
  (hk:bJ R oj ((σ.setB id ⟨splice cells off ds,false⟩).put oi.dst (D.oV k'))=some true→kindOf P oj.op=0):
  QQ P F R p j oj σ rj∧CQ P R p i oi (σ.q oj.dst rj) id off k' ds cells∧
   ((σ.setB id ⟨splice cells off ds,false⟩).put oi.dst (D.oV k')).q oj.dst rj=((σ.q oj.dst rj).setB id ⟨splice cells off ds,false⟩).put oi.dst (D.oV k'):=by
 obtain⟨a1,a2,a3⟩:=Oper.apart_spec hap
 have h0:=qq0 hj hk
 have sj:Same R oj σ ((σ.setB id ⟨splice cells off ds,false⟩).put oi.dst (D.oV k')):=TB a1
 have si:Same R oi σ (σ.q oj.dst rj):=xG a3
 have ebk:(σ.q oj.dst rj).bk=σ.bk:=by rw[sV,ali h0]
 refine⟨?_,⟨si.wanted.trans hi.w,hi.kd,?_,by rw[ebk];exact hi.b,hi.l,hi.m⟩,?_⟩
 ·refine hj.move sj.symm (fun l cs hc=>by rw[h0.1] at hc;cases hc) (fun hw1 hk1=>vY (hk hw1)) (fun hw1 fo args f caps as passed h1 h2 h3 h4=>absurd h1 (iV (hk hw1))) (fun g hg=>by rw[h0.2.2] at hg;cases hg)
 ·rw[ebk,←hi.op]
  exact DW fun x hx=>si.eval x hx
 ·rw[q0 h0,q0 h0]
  have e:∀ (τ:St) (d:D),(τ.put oj.dst d).setB id ⟨splice cells off ds,false⟩=(τ.setB id ⟨splice cells off ds,false⟩).put oj.dst d:=fun τ d=>by cases oj.dst<;>rfl
  rw[e,St.put_comm _ (s:=oi.dst) (t:=oj.dst) a2]
theorem comm {i j:Nat} {oi oj:Oper} (hi:R[i]? =some oi) (hj:R[j]? =some oj) (hp:Jp P R p i j oi oj=true) (hdis:∀ id,id∈p.zs i→id∉p.zs j) {σ σ1 σ2:St} (hun:∀ id∈p.zs j,Unused id σ)
  (hgi:p.Gr j=true→kindOf P oi.op=0∨j∈p.S i) (hgj:p.Gr i=true→kindOf P oj.op=0∨i∈p.S j)
  (h1:gJ P F O R p i oi σ σ1) (h2:gJ P F O R p j oj σ1 σ2):∃ σ3,gJ P F O R p j oj σ σ3∧gJ P F O R p i oi σ3 σ2:=by
 simp only[Jp,Bool.and_eq_true,Bool.not_eq_true'] at hp
 obtain⟨hap,hTi,hTj,hWij,hWji,hk⟩:=hp
 obtain⟨a1,a2,a3⟩:=Oper.apart_spec hap
 rcases AL h1 hTi with⟨ri,q1,rfl,ki,s1⟩ | ⟨id,off,ds,cells,w1,k1,o1,b1,l1,m1,t1,rfl⟩ | ⟨id,off,k',ds,cells,cq,rfl⟩
 ·rcases AL h2 hTj with⟨rj,q2,rfl,kj,s2⟩ | ⟨id,off,ds,cells,w2,k2,o2,b2,l2,m2,t2,rfl⟩ | ⟨id,off,k',ds,cells,cq2,rfl⟩
  ·obtain⟨c1,c2,c3⟩:=agh hWji hap hdis q1 q2 (fun id cs h=>hun id (q2.mine id cs h).1)
    (fun g hg hw=>by
     obtain⟨g1,rfl⟩:=q2.gon g hg
     rcases hgi g1 with h | h
     ·exact .inl h
     ·exact(s1 hw).imp _root_.id fun h'=>h' j h)
    (fun g hg hw=>by
     obtain⟨g1,rfl⟩:=q1.gon g hg
     rcases hgj g1 with h | h
     ·exact .inl h
     ·exact(s2 hw).imp _root_.id fun h'=>h' i h)
   refine⟨σ.q oj.dst rj,?_,?_⟩
   ·rcases c1.what with⟨e1,rfl⟩ | ⟨e1,e2⟩
    ·exact .skip e1
    ·refine c1.step ?_
     have sj:Same R oj σ (σ.q oi.dst ri):=xG a1
     rcases s2 (sj.wanted.trans e1) with h | h
     ·exact .inl h
     ·exact .inr fun l hl=>(h l hl).move (fun y hy=>(sj.eval y hy).symm)
   ·rw[c3]
    rcases c2.what with⟨e1,rfl⟩ | ⟨e1,e2⟩
    ·exact .skip e1
    ·refine c2.step ?_
     have si:Same R oi σ (σ.q oj.dst rj):=xG a3
     rcases s1 (si.wanted.symm.trans e1) with h | h
     ·exact .inl h
     ·exact .inr fun l hl=>(h l hl).move (fun y hy=>si.eval y hy)
  ·obtain⟨c1,c2,c3⟩:=aiD hap q1 w2 k2 o2 b2 l2 m2 (ht:=t2) (fun hw=>by
    have hk1:=ki hw
    rcases s1 hw with h | h
    ·exact .inl h
    ·simp only[k2,Bool.or_eq_true,Bool.and_eq_true,decide_eq_true_eq,beq_iff_eq] at hk
     rcases hk with⟨_,hk⟩ | ⟨hk,_⟩ | hk | ⟨_,hk⟩ | ⟨_,hk⟩ | ⟨_,hk⟩
     ·exact absurd hk (by decide)
     ·exact .inl hk
     ·have hk':=hk.2
      rw[t2 hk'.2]
      exact .inr (h j (by simpa using hk'.1))
     ·exact absurd hk (by decide)
     ·exact absurd hk (by decide)
     ·exact absurd hk (by decide))
   refine⟨_,c1,?_⟩
   rw[c3]
   rcases c2.what with⟨e1,rfl⟩ | ⟨e1,e2⟩
   ·exact .skip e1
   ·refine c2.step ?_
    have si:Same R oi σ ((σ.setB id ⟨splice cells off ds,false⟩).put oj.dst (.v undef)):=KG a3
    rcases s1 (si.wanted.symm.trans e1) with h | h
    ·exact .inl h
    ·exact .inr fun l hl=>(h l hl).move (fun y hy=>si.eval y hy)
  ·have hki:kindOf P oi.op=0:=by
    have:=cq2.kd
    simp only[this,Bool.or_eq_true,Bool.and_eq_true,decide_eq_true_eq,beq_iff_eq] at hk
    rcases hk with⟨_,hk⟩ | ⟨_,hk⟩ | ⟨⟨_,hk⟩,_⟩ | ⟨_,hk⟩ | ⟨hk,_⟩ | ⟨_,hk⟩
    ·exact absurd hk (by decide)
    ·exact absurd hk (by decide)
    ·exact absurd hk (by decide)
    ·exact absurd hk (by decide)
    ·exact hk
    ·exact absurd hk (by decide)
   obtain⟨c1,c2,c3⟩:=agE hap q1 (fun _=>hki) cq2
   refine⟨_,c1.step,?_⟩
   rw[c3]
   rcases c2.what with⟨e1,rfl⟩ | ⟨e1,e2⟩
   ·exact .skip e1
   ·exact c2.step (.inl hki)
 ·have hkj:kindOf P oj.op=0:=by
   simp only[k1,Bool.or_eq_true,Bool.and_eq_true,decide_eq_true_eq,beq_iff_eq] at hk
   rcases hk with⟨hk,_⟩ | ⟨hk,_⟩ | ⟨⟨hk,_⟩,_⟩ | ⟨_,hk⟩ | ⟨hk,_⟩ | ⟨hk,_⟩
   ·exact absurd hk (by decide)
   ·exact absurd hk (by decide)
   ·exact absurd hk (by decide)
   ·exact hk
   ·exact absurd hk (by decide)
   ·exact absurd hk (by decide)
  rcases AL h2 hTj with⟨rj,q2,rfl,kj,s2⟩ | ⟨id,off,ds,cells,w2,k2,o2,b2,l2,m2,t2,rfl⟩ | ⟨id,off,k',ds,cells,cq2,rfl⟩
  ·obtain⟨c1,c2,c3⟩:=aiC (O:=O) hap w1 k1 o1 b1 l1 m1 t1 q2 (fun _=>hkj) (fun id cs h=>hun id (q2.mine id cs h).1)
   refine⟨σ.q oj.dst rj,?_,?_⟩
   ·rcases c1.what with⟨e1,rfl⟩ | ⟨e1,e2⟩
    ·exact .skip e1
    ·exact c1.step (.inl hkj)
   ·rw[c3];exact c2
  ·rw[hkj] at k2;cases k2
  ·have:=cq2.kd;rw[hkj] at this;cases this
 ·have hkj:kindOf P oj.op=0:=by
   have:=cq.kd
   simp only[this,Bool.or_eq_true,Bool.and_eq_true,decide_eq_true_eq,beq_iff_eq] at hk
   rcases hk with⟨hk,_⟩ | ⟨hk,_⟩ | ⟨⟨hk,_⟩,_⟩ | ⟨hk,_⟩ | ⟨hk,_⟩ | ⟨_,hk⟩
   ·exact absurd hk (by decide)
   ·exact absurd hk (by decide)
   ·exact absurd hk (by decide)
   ·exact absurd hk (by decide)
   ·exact absurd hk (by decide)
   ·exact hk
  rcases AL h2 hTj with⟨rj,q2,rfl,kj,s2⟩ | ⟨id,off,ds,cells,w2,k2,o2,b2,l2,m2,t2,rfl⟩ | ⟨id2,off2,k2',ds2,cells2,cq2,rfl⟩
  ·obtain⟨c1,c2,c3⟩:=air hap cq q2 (fun _=>hkj)
   refine⟨σ.q oj.dst rj,?_,?_⟩
   ·rcases c1.what with⟨e1,rfl⟩ | ⟨e1,e2⟩
    ·exact .skip e1
    ·exact c1.step (.inl hkj)
   ·rw[c3];exact c2.step
  ·rw[hkj] at k2;cases k2
  ·have:=cq2.kd;rw[hkj] at this;cases this
end
theorem NW {d:D} {id:Nat} (h:d.has id=false):d.forget id=d:=by unfold D.forget;rw[h];rfl
theorem oK {cs:List D} {id:Nat} (h:D.dm id cs=false):cs.map (D.forget id)=cs:=by
 have:cs.map (D.forget id)=cs.map _root_.id:=List.map_congr_left fun d hd=>NW (oW h d hd)
 rw[this];simp
theorem Unused.same {id:Nat} {σ:St} (h:Unused id σ):σ.forget id=σ:=by
 have hf:∀ f:Fr,(∀ t,(f.tm t).has id=false)→f.forget id=f:=fun f hf=>by
  cases f with
  |mk nt tm=>simp only[Fr.forget,Fr.mk.injEq,true_and];funext t;exact NW (hf t)
 refine St.ext' (hf _ h.fr) ?_ ?_ (by
  show(if id=eu then none else σ.loop)=σ.loop
  split
  ·next e=>exact(h.lp e).symm
  ·rfl)
 ·have:σ.stk.map (Fr.forget id)=σ.stk.map _root_.id:=List.map_congr_left fun f hf'=>hf f (h.stk f hf')
  simp only[St.forget];rw[this];simp
 ·funext i
  simp only[St.forget]
  by_cases e:i=id
  ·subst e;rw[if_pos rfl,h.no]
  ·rw[if_neg e]
   cases hb:σ.bk i with
   |none=>rfl
   |some b=>simp only[Option.map_some,Option.some.injEq];cases b with | mk cs ro=>simp only[fK.forget,fK.mk.injEq,and_true];exact oK (h.bk i _ hb)
def news (id:Nat):List (List D)→List (Nat×List D)
 |[]=>[]
 |c::cs=>(id,c)::news (id+1) cs
theorem Ql:∀ (bs:List (List D)) (id n:Nat),(bs.zipIdx n).map (fun (cs,k)=>(id+k,cs))=news (id+n) bs
 |[],_,_=>rfl
 |c::cs,id,n=>by
  simp only[List.zipIdx_cons,List.map_cons,news]
  rw[Ql cs id (n+1)];rfl
theorem qc:∀ {bs:List (List D)} {id i:Nat} {cs:List D},(i,cs)∈news id bs→id≤i∧cs∈bs
 |c::bs,id,i,cs,h=>by
  simp only[news,List.mem_cons,Prod.mk.injEq] at h
  rcases h with⟨rfl,rfl⟩ | h
  ·exact⟨Nat.le_refl _,by simp⟩
  ·obtain⟨h1,h2⟩:=qc h;exact⟨by omega,by simp[h2]⟩
theorem Unused.setB {id j:Nat} {σ:St} {b:fK} (h:Unused id σ) (hne:id≠j) (hb:D.dm id b.cells=false):Unused id (σ.setB j b) where
 fr:=h.fr
 stk:=h.stk
 no:=by simp only[St.setB];rw[if_neg hne];exact h.no
 lp:=h.lp
 bk:=fun i b' hb'=>by
  simp only[St.setB] at hb'
  split at hb'
  ·simp at hb';subst hb';exact hb
  ·exact h.bk i b' hb'
theorem xq:∀ (bs:List (List D)) (id:Nat) (σ:St),(∀ i cs,(i,cs)∈news id bs→Unused i σ∧∀ j cs',(j,cs')∈news id bs→D.dm i cs'=false)→
  lS σ id bs={ σ with bk:=fun i=>match ni i (news id bs) with | some b=>some b | none=>σ.bk i }
 |[],_,σ,_=>rfl
 |c::cs,id,σ,h=>by
  obtain⟨h1,h2⟩:=h id c (by simp[news])
  have hstep:=xq cs (id+1) (σ.setB id ⟨c,false⟩) (fun i cs' hi=>by
   obtain⟨h3,h4⟩:=h i cs' (by simp[news,hi])
   have:=(qc hi).1
   exact⟨h3.setB (by omega) (h4 id c (by simp[news])),fun j cs'' hj=>h4 j cs'' (by simp[news,hj])⟩)
  simp only[lS]
  rw[h1.same,hstep]
  refine St.ext' rfl rfl ?_ rfl
  funext i
  simp only[St.setB,news,ni]
  by_cases e:i=id
  ·subst e
   rw[iI (i:=i) (l:=news (i+1) cs) (fun cs' hm=>by have:=(qc hm).1;omega)]
   simp
  ·rw[if_neg e,if_neg (Ne.symm e)]
def FW (ro:Option Nat):Fence:={ Fence.wide with round:=ro }
theorem WR {ro:Option Nat} {n:Nat} {P:Program} {f:FuncId} {args:Array Value} {w:World} {R:Ending→World→Prop} (h:Calls P f args w R):CallsIn (FW ro) n P f args w R:=
 (callsIn_wide.2 h:CallsIn Fence.wide n P f args w R)
theorem ZE {ro:Option Nat} {n:Nat} {P:Program} {row:String} {args:Array Value} {w:World} {R:Value→World→Prop} (h:Rows P row args w R):RowsIn (FW ro) n P row args w R:=
 fun c cs _=>let ⟨v,w',r,s⟩:=h c cs;⟨v,w',r,stepsIn_wide.2 s⟩
theorem Yt {ro:Option Nat} {n:Nat} {P:Program} {o:Oper} {a:Act} {w:World} {K:Act→World→Prop} {Q:Exit→Act→World→Prop} (hd:∀ c,o.op≠ .defer c) (h:o.wp P a w K Q):o.wpIn (FW ro) n P a w K Q:=by
 refine⟨fun _ _=>trivial,?_⟩
 rw[Oper.semAt_eq _ _ _ hd]
 unfold Oper.wp at h
 generalize (execOp a.eval o).run P w=r at *
 cases r with
 |ok x w'=>
  cases x<;>simp only[Oper.upon,Oper.uponIn] at h ⊢<;>first
   |exact h
   |exact⟨fun e=>(by cases e),WR h⟩
   |exact⟨fun e=>(by cases e),ZE h⟩
   |exact h.elim
 |halt x w'=>cases x<;>simp only[Oper.upon,Oper.uponIn] at h ⊢<;>exact h
def mark (D:Nat):Deferred:={ target:= .collected D,args:=#[] }
def Marks (w w':World) (A':Nat→Prop) (a a':Act):Prop:=
 ∃ Ds:List Nat,a'.defers=Ds.map mark ++ a.defers∧Ds.Nodup∧∀ D∈Ds,w.heap.size≤D∧¬ A' D∧w'.heap[D]? =some (.deferred (some []))
theorem Marks.same {w w':World} {A':Nat→Prop} {a a':Act} (h:a'.defers=a.defers):Marks w w' A' a a':=⟨[],by simp[h],by simp,by simp⟩
theorem Marks.trans {w w' w'':World} {A' A'':Nat→Prop} {base:Nat} {a a' a'':Act} (h:Marks w w' A' a a') (k:Marks w' w'' A'' a' a'') (ht:Turn A' A'' base w' w'') (hs:w.heap.size≤w'.heap.size):Marks w w'' A'' a a'':=by
 obtain⟨D1,h1,h2,h3⟩:=h
 obtain⟨D2,k1,k2,k3⟩:=k
 refine⟨D2 ++ D1,by rw[k1,h1];simp,?_,?_⟩
 ·refine List.nodup_append.2 ⟨k2,h2,?_⟩
  intro x hx y hy e
  subst e
  have:=(k3 x hx).1
  have:=(Array.getElem?_eq_some_iff.1 (h3 x hy).2.2).1
  omega
 ·intro D hD
  rcases List.mem_append.1 hD with hD | hD
  ·obtain⟨p,q,r⟩:=k3 D hD;exact⟨by omega,q,r⟩
  ·obtain⟨p,q,r⟩:=h3 D hD
   exact⟨p,fun ha=>q (ht.side.new D _ r rfl ha),ht.side.keep D _ r rfl⟩
def Aft (σ':St) (base:Nat) (acts:List (Array Value)) (A:Nat→Prop) (a:Act) (w:World) (K:Act→World→Prop):Prop:=
 ∀ a' w' A' β',Marks w w' A' a a'→Rel w' A' β' base σ' a'.tmps acts→Turn A A' base w w'→K a' w'
theorem Aft.trans {σ':St} {base:Nat} {acts:List (Array Value)} {A A':Nat→Prop} {a a':Act} {w w':World} {K:Act→World→Prop} (h:Aft σ' base acts A a w K) (hd:Marks w w' A' a a') (ht:Turn A A' base w w'):Aft σ' base acts A' a' w' K:=
 fun a'' w'' A'' β'' hd' hr ht'=>h a'' w'' A'' β'' (hd.trans hd' ht' ht.below.size) hr (ht.trans ht')
theorem put_defers (a:Act) (dst:Option Tmp) (u:Value):(a.put dst u).defers=a.defers:=by cases dst<;>rfl
section
variable {P:Program} {F:FuncId→List D→D→Prop} {R:Array Oper} {O:Oper→St→St→Prop} {p:Plan}
theorem aeY {o:Oper} {σ:St} {r:QR} (h:F7 P F o (bP σ) σ.bk r) (hn:∀ i cs,(i,cs)∈r.new→Unused i σ∧∀ j cs',(j,cs')∈r.new→D.dm i cs'=false):oP P F o σ (σ.q o.dst r):=by
 have hplain:∀ d,σ.q o.dst ⟨d,[],[],[],none⟩=σ.put o.dst d:=fun d=>by
  simp only[St.q]
  congr 1
 cases h with
 |val _ h=>rw[hplain];exact .op (id:=0) h rfl
 |@box cs id _ h=>
  obtain⟨h1,h2⟩:=hn id cs (by simp)
  refine .op (id:=id) h ?_
  simp only[eY,h1.same,oK (h2 id cs (by simp))]
  congr 1
  simp only[St.q,St.setB]
  congr 2
  funext i
  simp only[nN,ni]
  by_cases e:i=id
  ·subst e;simp
  ·rw[if_neg e,if_neg (Ne.symm e)];simp
 |@row cs n sz id _ h=>
  obtain⟨h1,h2⟩:=hn id cs (by simp)
  refine .op (id:=id) h ?_
  simp only[eY,h1.same,oK (h2 id cs (by simp))]
  congr 1
  simp only[St.q,St.setB]
  congr 2
  funext i
  simp only[nN,ni]
  by_cases e:i=id
  ·subst e;simp
  ·rw[if_neg e,if_neg (Ne.symm e)];simp
 |row0 _ h=>rw[hplain];exact .op (id:=0) h rfl
 |@app0 s sz m id ds _ h hs=>
  obtain⟨h1,h2⟩:=hn id ds (by simp)
  refine .op (id:=id) h ?_
  have e:eY σ o.dst id (.app s sz m ds)=some (((σ.forget id).setB id ⟨ds.map (D.forget id),false⟩).put o.dst (.sl id 0 m ⟨sz,0⟩)):=by
   rcases hs with rfl | ⟨u,rfl⟩<;>rfl
  rw[e]
  simp only[h1.same,oK (h2 id ds (by simp))]
  congr 1
  simp only[St.q,St.setB]
  congr 2
  funext i
  simp only[nN,ni]
  by_cases e:i=id
  ·subst e;simp
  ·rw[if_neg e,if_neg (Ne.symm e)];simp
 |@appE sz m id ds _ h hz=>
  obtain⟨h1,h2⟩:=hn id ds (by simp)
  have e2:((σ.forget id).setB id ⟨ds.map (D.forget id),false⟩).put o.dst (.sl id 0 m ⟨sz,0⟩)=σ.q o.dst ⟨.sl id 0 m ⟨sz,0⟩,[(id,ds)],[],[],none⟩:=by
   simp only[h1.same,oK (h2 id ds (by simp))]
   simp only[St.q,St.setB]
   congr 2
   funext i
   simp only[nN,ni]
   by_cases e:i=id
   ·subst e;simp
   ·rw[if_neg e,if_neg (Ne.symm e)];simp
  cases m with
  |zero=>
   have:=hz rfl
   subst this
   refine .opw (id:=id) (σ1:=σ.put o.dst .emp) h rfl ?_
   rw[←e2]
   exact Yl
  |succ m=>
   refine .op (id:=id) h ?_
   rw[←e2];rfl
 |ext h1 h2 h3 h4=>rw[hplain];exact .ext h1 h2 h3 h4
 |@grow i n m s id sz ds cells hk hy h hz hb hl=>
  obtain⟨h1,h2⟩:=hn id (cells.take (n*s) ++ ds) (by simp)
  have e:σ.grown o.dst i id n m s (cells.take (n*s) ++ ds)=σ.q o.dst ⟨.sl id 0 (n+m) ⟨s,0⟩,[(id,cells.take (n*s) ++ ds)],[],[],some i⟩:=by
   simp only[St.grown,St.q,St.setB,St.je]
   congr 2
   funext j
   simp only[nN,ni]
   by_cases e:j=id
   ·subst e;simp
   ·rw[if_neg e,if_neg (Ne.symm e)]
    by_cases e2:j=i
    ·subst e2;simp
    ·have:¬ i=j:=fun h=>e2 h.symm
     simp[e2,this]
  rw[←e]
  cases m with
  |zero=>
   obtain⟨rfl,hs⟩:=hz rfl
   refine .opw (id:=0) (σ1:=σ.put o.dst (.sl i 0 n sz)) h rfl ?_
   rw[List.append_nil]
   exact Ls hb h1 hs
  |succ m=>exact oP.grow (F:=F) (o:=o) h hb hl h1 (h2 id _ (by simp))
 |@call fo args f caps as passed res id h1 h2 h3 h4 h5=>
  refine .call (id:=id) h1 h2 h3 ⟨as,passed,res,h4,h5,?_⟩
  have hne:=Ql (thaw id res).2 id 0
  simp only[Nat.add_zero] at hne
  simp only[hne] at hn ⊢
  have hro:∀ i cs,(i,cs)∈news id (thaw id res).2→Unused i (if flat res then σ else σ.gB passed):=fun i cs hi=>by
   have hu:=(hn i cs hi).1
   split
   ·exact hu
   ·refine⟨hu.fr,hu.stk,?_,?_,hu.lp⟩
    ·simp only[St.gB];split<;>simp[hu.no]
    ·intro j b hb
     simp only[St.gB] at hb
     split at hb
     ·simp only[Option.map_eq_some_iff] at hb
      obtain⟨b0,hb0,rfl⟩:=hb
      exact hu.bk j b0 hb0
     ·exact hu.bk j b hb
  rw[xq _ _ _ (fun i cs hi=>⟨hro i cs hi,(hn i cs hi).2⟩)]
  simp only[St.q]
  congr 1
  refine St.ext' ?_ ?_ ?_ (by cases flat res<;>rfl)
  ·cases flat res<;>rfl
  ·cases flat res<;>rfl
  ·funext i
   simp only[nN]
   cases ni i (news id (thaw id res).2) with
   |some b=>rfl
   |none=>
    cases flat res with
    |true=>simp
    |false=>simp[St.gB]
def ae8 (P:Program) (F:FuncId→List D→D→Prop) (O:Oper→St→St→Prop) (R:Array Oper) (p:Plan) (σ':St):Nat→Array Bool→St→Prop
 |0,listed,σ=>Region.ready .any R listed=[]∧σ=σ'
 |n+1,listed,σ=>(Region.ready .any R listed=[]→σ=σ')∧∀ i∈Region.ready .any R listed,∃ o,R[i]? =some o∧∃ σ1,gJ P F O R p i o σ σ1∧ae8 P F O R p σ' n (listed.setIfInBounds i true) σ1
end
section
variable {P:Program} {F:FuncId→List D→D→Prop} {R:Array Oper} {O:Oper→St→St→Prop} {p:Plan}
inductive Vk (R:Array Oper):Nat→Nat→Prop
 |edge {k:Nat} {o:Oper} {e:Edge}:R[k]? =some o→e∈o.after→Region.binds .any e=true→Vk R e.on k
 |trans {i k:Nat} {o:Oper} {e:Edge}:R[k]? =some o→e∈o.after→Region.binds .any e=true→Vk R i e.on→Vk R i k
structure oM (P:Program) (R:Array Oper) (p:Plan):Prop where
 low:∀ k o,R[k]? =some o→∀ e∈o.after,Region.binds .any e=true→e.on<k
 pairs:∀ i j oi oj,i<j→R[i]? =some oi→R[j]? =some oj→Vk R i j∨Jp P R p i j oi oj=true
 dis:∀ i j,i≠j→∀ id,id∈p.zs i→id∉p.zs j
 later:∀ k l,l≠k→¬ Vk R l k→p.W k l=true
 grow:∀ i j oi,i≠j→R[i]? =some oi→j<R.size→¬ Vk R i j→¬ Vk R j i→p.Gr j=true→kindOf P oi.op=0∨j∈p.S i
theorem oM.lt {p:Plan} (ok:oM P R p) {i k:Nat} (h:Vk R i k):i<k:=by
 induction h with
 |edge h1 h2 h3=>exact ok.low _ _ h1 _ h2 h3
 |trans h1 h2 h3 _ ih=>exact Nat.lt_trans ih (ok.low _ _ h1 _ h2 h3)
def Cl (R:Array Oper) (listed:Array Bool):Prop:=∀ k o,R[k]? =some o→listed.getD k false=true→∀ e∈o.after,Region.binds .any e=true→listed.getD e.on false=true
theorem Wn {listed:Array Bool} (hc:Cl R listed) {i k:Nat} (h:Vk R i k):listed.getD k false=true→listed.getD i false=true:=by
 induction h with
 |edge h1 h2 h3=>intro hk;exact hc _ _ h1 hk _ h2 h3
 |trans h1 h2 h3 _ ih=>intro hk;exact ih (hc _ _ h1 hk _ h2 h3)
theorem Oj {listed:Array Bool} (hc:Cl R listed) {i j:Nat} (h:Vk R i j) (hj:j∈Region.ready .any R listed):listed.getD i false=true:=by
 obtain⟨_,o,ho,hall⟩:=mem_ready.1 hj
 cases h with
 |edge h1 h2 h3=>rw[ho] at h1;cases h1;exact hall _ h2 h3
 |trans h1 h2 h3 h4=>rw[ho] at h1;cases h1;exact Wn hc h4 (hall _ h2 h3)
theorem BF {l:Array Bool} {i:Nat} (h:l.getD i true=false):l.getD i false=false:=by
 rcases Nat.lt_or_ge i l.size with h' | h'
 ·simpa [h'] using h
 ·simp[Array.getElem?_eq_none h']
theorem getD_lt {l:Array Bool} {i:Nat} (h:l.getD i true=false):i<l.size:=by
 rcases Nat.lt_or_ge i l.size with h' | h'
 ·exact h'
 ·simp[Array.getElem?_eq_none h'] at h
theorem aN {l:Array Bool} {i:Nat} (h:i<l.size) (d:Bool):(l.setIfInBounds i true).getD i d=true:=by
 simp[h]
theorem acR {listed:Array Bool} (hc:Cl R listed) {i:Nat} (hi:i∈Region.ready .any R listed):Cl R (listed.setIfInBounds i true):=by
 intro k o hk hl e he hb
 by_cases hik:i=k
 ·subst hik
  obtain⟨_,o',ho,hall⟩:=mem_ready.1 hi
  rw[ho] at hk;cases hk
  exact getD_set_true (hall e he hb)
 ·rw[getD_set_ne false hik] at hl
  exact getD_set_true (hc k o hk hl e he hb)
theorem CB {listed:Array Bool} {i k:Nat} (h:(listed.setIfInBounds i true).getD k true=false):k≠i∧listed.getD k true=false:=by
 by_cases e:i=k
 ·subst e
  have hlt:=getD_lt h
  simp only[Array.size_setIfInBounds] at hlt
  rw[aN hlt] at h;cases h
 ·rw[getD_set_ne true e] at h;exact⟨Ne.symm e,h⟩
theorem LQ (ok:oM P R p) {listed:Array Bool} {i:Nat} {oi:Oper} {σ σ1:St} (hc:Cl R listed) (hi:i∈Region.ready .any R listed) (h:gJ P F O R p i oi σ σ1) (hinv:Inv p listed σ):Inv p (listed.setIfInBounds i true) σ1:=by
 intro k hk id hid
 obtain⟨hne,hun⟩:=CB hk
 have hu:=hinv k hun id hid
 have hW:p.W i k=true:=ok.later i k hne (fun ha=>by have:=Oj hc ha hi;rw[BF hun] at this;cases this)
 cases h with
 |skip _=>exact xu hu rfl (fun cs h=>by cases h) (fun i cs h=>by cases h)
 |op _ _ hm _ hd hcs _ _=>
  refine xu hu (hd k hW id hid) (fun cs hn=>ok.dis k i hne id hid (hm id cs hn).1) (fun j cs hn=>dF fun d hd'=>hcs j cs hn d hd' k hW id hid)
 |sto _ _ _ hb _ hd _=>exact og hu hb (dF fun d hd'=>hd d hd' k hW id hid)
 |cpy _ _ _ hb _ hd=>exact wK (og hu hb (dF fun d hd'=>hd d hd' k hW id hid))
 |oth _ _ h=>exact h k hW id hid
theorem V4 (ok:oM P R p) {σ':St} {i:Nat} {oi:Oper} (hi:R[i]? =some oi):∀ (n:Nat) (listed:Array Bool) (σ σ1:St),i∈Region.ready .any R listed→(∀ j,listed.getD j true=false→i≤j)→Cl R listed→Inv p listed σ→
  gJ P F O R p i oi σ σ1→ae8 P F O R p σ' n (listed.setIfInBounds i true) σ1→ae8 P F O R p σ' (n+1) listed σ:=by
 intro n
 induction n with
 |zero=>
  intro listed σ σ1 hr hmin hc hinv hs H
  refine⟨fun h=>(by rw[h] at hr;cases hr),fun j hj=>?_⟩
  by_cases hji:j=i
  ·subst hji;exact⟨oi,hi,σ1,hs,H⟩
  ·have:=ready_mono hj hji
   rw[H.1] at this
   cases this
 |succ n ih=>
  intro listed σ σ1 hr hmin hc hinv hs H
  refine⟨fun h=>(by rw[h] at hr;cases hr),fun j hj=>?_⟩
  by_cases hji:j=i
  ·subst hji;exact⟨oi,hi,σ1,hs,H⟩
  ·obtain⟨oj,hoj,σ2,hs2,H2⟩:=H.2 j (ready_mono hj hji)
   have hju:=(mem_ready.1 hj).1
   have hlt:i<j:=by have:=hmin j hju;omega
   have hna:¬ Vk R i j:=fun h=>by
    have:=Oj hc h hj
    rw[BF (mem_ready.1 hr).1] at this;cases this
   have hnb:¬ Vk R j i:=fun h=>by have:=ok.lt h;omega
   have hpair:Jp P R p i j oi oj=true:=by
    rcases ok.pairs i j oi oj hlt hi hoj with h | h
    ·exact absurd h hna
    ·exact h
   have hjl:j<R.size:=(Array.getElem?_eq_some_iff.1 hoj).1
   have hil:i<R.size:=(Array.getElem?_eq_some_iff.1 hi).1
   obtain⟨σ3,h3,h4⟩:=comm hi hoj hpair (ok.dis i j (Ne.symm hji)) (hinv j hju) (ok.grow i j oi (Ne.symm hji) hi hjl hna hnb) (ok.grow j i oj hji hoj hil hnb hna) hs hs2
   refine⟨oj,hoj,σ3,h3,?_⟩
   refine ih (listed.setIfInBounds j true) σ3 σ2 (ready_mono hr (Ne.symm hji)) (fun k hk=>hmin k (CB hk).2) (acR hc hj) (LQ ok hc hj h3 hinv) h4 ?_
   rw[Array.setIfInBounds_comm _ _ hji]
   exact H2
inductive aaY (P:Program) (F:FuncId→List D→D→Prop) (O:Oper→St→St→Prop) (R:Array Oper) (p:Plan):Nat→List Oper→St→St→Prop
 |nil {k:Nat} {σ:St}:aaY P F O R p k [] σ σ
 |cons {k:Nat} {o:Oper} {l:List Oper} {σ σ1 σ':St}:gJ P F O R p k o σ σ1→aaY P F O R p (k+1) l σ1 σ'→aaY P F O R p k (o::l) σ σ'
theorem Un (ok:oM P R p) {σ':St}:∀ (l:List Oper) (k:Nat) (listed:Array Bool) (σ:St),(∀ j,l[j]? =R[k+j]?)→listed.size=R.size→(∀ j,j<R.size→listed.getD j false=decide (j<k))→
  aaY P F O R p k l σ σ'→Cl R listed→Inv p listed σ→ae8 P F O R p σ' l.length listed σ
 |[],k,listed,σ,hl,hsz,hlist,h,hc,hinv=>by
  cases h
  refine⟨?_,rfl⟩
  rw[List.eq_nil_iff_forall_not_mem]
  intro j hj
  obtain⟨hu,o,ho,_⟩:=mem_ready.1 hj
  have hjl:=getD_lt hu
  have h1:=hlist j (by omega)
  rw[BF hu] at h1
  have h2:k≤j:=by simpa using h1.symm
  have h3:=hl (j - k)
  rw[Nat.add_sub_cancel' h2,ho] at h3
  simp at h3
 |o::l,k,listed,σ,hl,hsz,hlist,h,hc,hinv=>by
  cases h with
  |@cons _ _ _ _ σ1 _ hs hrun=>
   have hk:R[k]? =some o:=by simpa using (hl 0).symm
   have hlt:k<R.size:=by
    rcases Nat.lt_or_ge k R.size with h | h
    ·exact h
    ·rw[Array.getElem?_eq_none h] at hk;cases hk
   have hun:listed.getD k true=false:=by
    have:=hlist k hlt
    simp[hsz,hlt] at this ⊢
    exact this
   have hr:k∈Region.ready .any R listed:=by
    refine mem_ready.2 ⟨hun,o,hk,fun e he hb=>?_⟩
    have hlow:=ok.low k o hk e he hb
    rw[hlist e.on (by omega)]
    simp[hlow]
   refine V4 ok hk l.length listed σ σ1 hr (fun j hj=>?_) hc hinv hs ?_
   ·have h1:=hlist j (by have:=getD_lt hj;omega)
    rw[BF hj] at h1
    simpa using h1.symm
   ·refine Un ok l (k+1) _ σ1 (fun j=>by have:=hl (j+1);simpa [Nat.add_assoc,Nat.add_comm 1 j] using this) (by simpa using hsz) (fun j hj=>?_) hrun (acR hc hr) (LQ ok hc hr hs hinv)
    by_cases e:k=j
    ·subst e;rw[aN (by omega)];simp
    ·rw[getD_set_ne false e,hlist j hj]
     have:j<k↔j<k+1:=by omega
     simp[this]
theorem abq {ro:Option Nat} {n:Nat} {o:Oper} {a:Act} {w:World} {K:Act→World→Prop} {Q Q':Exit→Act→World→Prop} (h1:∀ c a w,¬ Q' (.panic c) a w) (h2:¬ LetsOut Q') (h:o.wpIn (FW ro) n P a w K Q'):o.wpIn (FW ro) n P a w K Q:=by
 unfold Oper.wpIn at *
 refine⟨h.1,?_⟩
 have h:=h.2
 generalize (o.semAt (FW ro).round a.eval).run P w=r at *
 cases r with
 |ok x w'=>
  cases x<;>simp only[Oper.uponIn] at h ⊢<;>first
   |exact h
   |exact⟨h.1,CallsIn.mono h.2 (fun e w'' he=>by
     cases e with
     |returned v=>exact he
     |panicked c=>exact absurd he (h1 _ _ _)
     |outgrown=>exact absurd he h2)⟩
   |exact⟨h.1,RoundIn.mono h.2 (fun e w'' he=>by
     cases e with
     |returned v=>exact he
     |panicked c=>exact absurd he (h1 _ _ _)
     |outgrown=>exact absurd he h2)⟩
 |halt x w'=>cases x<;>simp only[Oper.uponIn] at h ⊢<;>first | exact absurd h (h1 _ _ _) | exact h
def Gq (P:Program) (R:Array Oper) (o:Oper) (σ σ':St):Prop:=
 ∀ (ro:Option Nat) (w:World) (A:Nat→Prop) (β:Env) (base:Nat) (a:Act) (acts:List (Array Value)) (Q:Exit→Act→World→Prop),Rel w A β base σ a.tmps acts→Aft σ' base acts A a w (Q .normal)→wpListIn (FW ro) 0 P R Q [o] a w
theorem Iq {o:Oper} {σ σ':St} (h:oP P F o σ σ'):∀ c,o.op≠ .defer c:=by
 intro c e
 cases h with
 |op h _=>rw[e] at h;simp[dR] at h
 |opw h _ _=>rw[e] at h;simp[dR] at h
 |grow h _ _ _ _=>rw[e] at h;simp[dR] at h
 |ext h=>rw[e] at h;simp[callParts] at h
 |call h=>rw[e] at h;simp[callParts] at h
theorem x9 (hF:∀ f as res,F f as res→CallsD P f as res) {ro:Option Nat} {w:World} {A:Nat→Prop} {β:Env} {base:Nat} {σ σ':St} {a:Act} {acts:List (Array Value)} (hrel:Rel w A β base σ a.tmps acts) {o:Oper} (h:oP P F o σ σ')
  {K:Act→World→Prop} {Q:Exit→Act→World→Prop} (hK:∀ a' w' A' β',Marks w w' A' a a'→Rel w' A' β' base σ' a'.tmps acts→Turn A A' base w w'→K a' w'):o.wpIn (FW ro) 0 P a w K Q:=
 Yt (Iq h) (Qe hF hrel h fun a' w' A' β' hd hr' ht=>hK a' w' A' β' (.same hd) hr' ht)
theorem UC (hF:∀ f as res,F f as res→CallsD P f as res) (hO:∀ o σ σ',O o σ σ'→Gq P R o σ σ') {ro:Option Nat} {i:Nat} {o:Oper} {σ σ1:St} (hi:R[i]? =some o) (h:gJ P F O R p i o σ σ1) {w:World} {A:Nat→Prop} {β:Env} {base:Nat} {a:Act} {acts:List (Array Value)}
  (hr:Rel w A β base σ a.tmps acts) {K:Act→World→Prop} {Q:Exit→Act→World→Prop} (hK:Aft σ1 base acts A a w K):wpOpIn (FW ro) 0 P R Q i K a w:=by
 unfold wpOpIn
 simp only[hi]
 cases h with
 |skip hw=>
  rw[if_neg (by rw[jk hr hw];simp)]
  have e:σ.q o.dst ⟨.v undef,[],[],[],none⟩=σ.put o.dst (.v undef):=by
   simp only[St.q];congr 1
  rw[e] at hK
  exact⟨fun _ _=>trivial,hK _ w A β (.same (put_defers _ _ _)) (hr.uN o.dst (by simp[Rep,aG])) (.refl _ _ _)⟩
 |op hw hop hm _ _ _ _ _=>
  rw[if_pos (jk hr hw)]
  exact x9 hF hr (aeY hop fun i cs h=>(hm i cs h).2) fun a' w' A' β' hd hr' ht=>hK a' w' A' β' hd hr' ht
 |@sto id off ds cells hw _ hop hb hl _ _=>
  rw[if_pos (jk hr hw)]
  refine x9 hF hr (.op (id:=0) hop ?_) fun a' w' A' β' hd hr' ht=>hK a' w' A' β' hd hr' ht
  simp only[eY,hb]
  rw[if_pos hl]
 |@cpy id off k' ds cells hw _ hop hb hl _=>
  rw[if_pos (jk hr hw)]
  refine x9 hF hr (.op (id:=0) hop ?_) fun a' w' A' β' hd hr' ht=>hK a' w' A' β' hd hr' ht
  simp only[eY,hb]
  rw[if_pos hl]
 |oth _ ho _=>
  have h1:=hO _ _ _ ho ro w A β base a acts (fun e a w=>e= .normal∧K a w) hr (fun a' w' A' β' hd hr' ht=>⟨rfl,hK a' w' A' β' hd hr' ht⟩)
  simp only[wpListIn] at h1
  split at h1
  next hwt=>
   rw[if_pos hwt]
   exact Oper.wpIn_mono (fun a w h=>h.2) (abq (fun c a w h=>by cases h.1) (fun⟨a,w,h⟩=>by cases h.1) h1)
  next hwt=>
   rw[if_neg hwt]
   exact⟨fun _ _=>trivial,h1.2.2⟩
theorem Jj (hF:∀ f as res,F f as res→CallsD P f as res) (hO:∀ o σ σ',O o σ σ'→Gq P R o σ σ') {ro:Option Nat} {σ':St} {base:Nat} {acts:List (Array Value)} {Q:Exit→Act→World→Prop}:∀ (n:Nat) (listed:Array Bool) (σ:St) (w:World) (A:Nat→Prop) (β:Env) (a:Act),
  ae8 P F O R p σ' n listed σ→Rel w A β base σ a.tmps acts→Aft σ' base acts A a w (Q .normal)→wpAnyIn (FW ro) 0 P .any R Q n listed a w
 |0,listed,σ,w,A,β,a,h,hr,hK=>by
  obtain⟨h1,rfl⟩:=h
  exact⟨h1,hK a w A β (.same rfl) hr (.refl _ _ _)⟩
 |n+1,listed,σ,w,A,β,a,h,hr,hK=>by
  refine⟨fun h0=>?_,fun i hi=>?_⟩
  ·have:=h.1 h0;subst this
   exact hK a w A β (.same rfl) hr (.refl _ _ _)
  ·obtain⟨o,ho,σ1,hs,hrest⟩:=h.2 i hi
   exact UC hF hO ho hs hr fun a' w' A' β' hd hr' ht=>Jj hF hO n _ σ1 w' A' β' a' hrest hr' (hK.trans hd ht)
theorem Ext.drawn (A:Nat→Prop) (w:World) (n:Nat):Ext A w { w with drawn:=n }:=⟨fun _ _=>rfl,fun _ _ h=>h⟩
theorem Rel.drawn {w:World} {A:Nat→Prop} {β:Env} {base:Nat} {σ:St} {tmps:Array Value} {acts:List (Array Value)} (h:Rel w A β base σ tmps acts) (n:Nat):Rel { w with drawn:=n } A β base σ tmps acts:=
 h.carry (.drawn A w n) (fun _ h=>h) h.low h.top (fun _ _ _=>rfl) (fun _ _ _ _ _=>rfl) (fun _ _ _=>⟨rfl,fun _ _=>rfl,fun _ _=>⟨rfl,fun h=>h⟩⟩) (h.lp.mono (.of_heap rfl) (.refl _ _) (fun _=>rfl))
theorem Uc (hF:∀ f as res,F f as res→CallsD P f as res) (hO:∀ o σ σ',O o σ σ'→Gq P R o σ σ') (hm:P.follows .mixedOrders=true) (ok:oM P R p) {σ σ':St} (hinv:∀ k,∀ id∈p.zs k,Unused id σ) (hrun:aaY P F O R p 0 R.toList σ σ')
  {ro:Option Nat} {id:Nat} {w:World} {A:Nat→Prop} {β:Env} {base:Nat} {a:Act} {acts:List (Array Value)} {Q:Exit→Act→World→Prop} (hr:Rel w A β base σ a.tmps acts) (hK:Aft σ' base acts A a w (Q .normal)):(Code.region id R true).wpIn (FW ro) 0 P Q a w:=by
 refine wpIn_region_any hm ?_
 have hl:∀ j,(Array.replicate R.size false).getD j false=false:=fun j=>by
  rcases Nat.lt_or_ge j R.size with h | h
  ·simp[h]
  ·simp[h]
 have:=Un ok R.toList 0 (Array.replicate R.size false) σ (by simp) (by simp) (fun j _=>by rw[hl];simp) hrun (fun k o _ h=>by rw[hl] at h;cases h) (fun k _=>hinv k)
 simp only[Array.length_toList] at this
 refine Jj hF hO R.size _ σ _ A β a this (hr.drawn _) (hK.trans (.same rfl) ⟨.drawn A w _,fun _ h=>h,⟨rfl,rfl,rfl,Nat.le_refl _,fun _ _=>rfl⟩,fun _ h _=>h, .strict (.of_heap rfl) (.refl _ _)⟩)
end
mutual
def D.clear (q:Nat→Bool):D→Bool
 | .sl i _ _ _=>!(q i)
 | .ptr i _=>!(q i)
 | .pel i _ _ _=>!(q i)
 | .yld=>!(q eu)
 | .agg cs=>D.ug q cs
 | .aS cs=>D.ug q cs
 | .fn _ cs=>D.ug q cs
 |_=>true
def D.ug (q:Nat→Bool):List D→Bool
 |[]=>true
 |d::ds=>D.clear q d && D.ug q ds
end
mutual
theorem yG {q:Nat→Bool} {id:Nat} (hq:q id=true):∀ (d:D),D.clear q d=true→d.has id=false
 | .sl i _ _ _,h=>by
  simp only[D.clear,D.has] at h ⊢
  by_cases e:i=id
  ·subst e;rw[hq] at h;cases h
  ·simpa using e
 | .pel i _ _ _,h=>by
  simp only[D.clear,D.has] at h ⊢
  by_cases e:i=id
  ·subst e;rw[hq] at h;cases h
  ·simpa using e
 | .ptr i _,h=>by
  simp only[D.clear,D.has] at h ⊢
  by_cases e:i=id
  ·subst e;rw[hq] at h;cases h
  ·simpa using e
 | .agg cs,h=>by simp only[D.clear,D.has] at h ⊢;exact uD hq cs h
 | .aS cs,h=>by simp only[D.clear,D.has] at h ⊢;exact uD hq cs h
 | .fn _ cs,h=>by simp only[D.clear,D.has] at h ⊢;exact uD hq cs h
 | .undef,_=>rfl
 | .v _,_=>rfl
 | .yld,h=>by
  simp only[D.clear,D.has] at h ⊢
  by_cases e:eu=id
  ·subst e;rw[hq] at h;cases h
  ·simpa using e
 | .sh _ _,_=>rfl
 | .ow _ _ _,_=>rfl
 | .shp _ _,_=>rfl
 | .rc _,_=>rfl
 | .oc _,_=>rfl
 | .emp,_=>rfl
theorem uD {q:Nat→Bool} {id:Nat} (hq:q id=true):∀ (ds:List D),D.ug q ds=true→D.dm id ds=false
 |[],_=>rfl
 |d::ds,h=>by
  simp only[D.ug,Bool.and_eq_true] at h
  simp only[D.dm,yG hq d h.1,uD hq ds h.2,Bool.or_self]
end
def D.wipe (q:Nat→Bool) (d:D):D:=bif D.clear q d then d else .undef
def Fr.wipe (q:Nat→Bool) (f:Fr):Fr:={ f with tm:=fun t=>(f.tm t).wipe q }
def fK.wipe (q:Nat→Bool) (b:fK):fK:={ b with cells:=b.cells.map (D.wipe q) }
def St.wipe (q:Nat→Bool) (σ:St):St:=
 { fr:=σ.fr.wipe q,stk:=σ.stk.map (Fr.wipe q),bk:=fun i=>if q i then none else(σ.bk i).map (fK.wipe q),loop:=if q eu then none else σ.loop }
theorem JV {q:Nat→Bool} {id:Nat} (hq:q id=true) (d:D):(d.wipe q).has id=false:=by
 unfold D.wipe
 cases h:D.clear q d with
 |true=>exact yG hq d h
 |false=>rfl
theorem FB {q:Nat→Bool} {id:Nat} (hq:q id=true) (σ:St):Unused id (σ.wipe q) where
 fr:=fun t=>JV hq _
 stk:=fun f hf t=>by
  simp only[St.wipe,List.mem_map] at hf
  obtain⟨g,_,rfl⟩:=hf
  exact JV hq _
 no:=by simp[St.wipe,hq]
 lp:=fun e=>by simp only[St.wipe];rw[if_pos (by rw[←e];exact hq)]
 bk:=fun i b hb=>by
  simp only[St.wipe] at hb
  split at hb
  ·cases hb
  ·simp only[Option.map_eq_some_iff] at hb
   obtain⟨b0,_,rfl⟩:=hb
   refine dF fun d hd=>?_
   simp only[fK.wipe,List.mem_map] at hd
   obtain⟨d0,_,rfl⟩:=hd
   exact JV hq _
theorem Rep.wipe {w:World} {A:Nat→Prop} {β:Env} {d:D} {u:Value} (q:Nat→Bool) (h:Rep w A β d u):Rep w A β (d.wipe q) u:=by
 unfold D.wipe;cases D.clear q d
 ·simp[Rep,aG]
 ·exact h
theorem bI.wipe {w:World} {A:Nat→Prop} {β:Env} (q:Nat→Bool):∀ {cs:List D} {ad:Addr},bI w A β cs ad→bI w A β (cs.map (D.wipe q)) ad
 |[],_,_=>trivial
 |_::_,_,⟨⟨u,h1,h2⟩,h3⟩=>⟨⟨u,h1,h2.wipe q⟩,bI.wipe q h3⟩
theorem kR.wipe {w:World} {A:Nat→Prop} {β:Env} {f:Fr} {a:Array Value} (q:Nat→Bool) (h:kR w A β f a):kR w A β (f.wipe q) a:=⟨h.nt,fun t=>(h.tm t).wipe q⟩
theorem ja.wipe {w:World} {A:Nat→Prop} {β:Env} (q:Nat→Bool):∀ {fs:List Fr} {as:List (Array Value)},ja w A β fs as→ja w A β (fs.map (Fr.wipe q)) as
 |_,_, .nil=> .nil
 |_,_, .cons h t=> .cons (h.wipe q) (t.wipe q)
theorem vX.wipe {w:World} {A:Nat→Prop} {β:Env} {base:Nat} {b:fK} {ad:Addr} (q:Nat→Bool) (h:vX w A β base b ad):vX w A β base (b.wipe q) ad:=by
 refine⟨h.spot,h.base,?_,h.cells.wipe q,h.own,h.shared,?_⟩
 ·simpa [fK.wipe] using h.obj
 ·simpa [fK.wipe] using h.inside
theorem Rel.wipe {w:World} {A:Nat→Prop} {β:Env} {base:Nat} {σ:St} {tmps:Array Value} {acts:List (Array Value)} (h:Rel w A β base σ tmps acts) (q:Nat→Bool):Rel w A β base (σ.wipe q) tmps acts where
 fr:=h.fr.wipe q
 stk:=h.stk.wipe q
 blk:=fun i b hb=>by
  simp only[St.wipe] at hb
  split at hb
  ·simp at hb
  ·simp only[Option.map_eq_some_iff] at hb
   obtain⟨b0,hb0,rfl⟩:=hb
   rcases h.blk i b0 hb0 with⟨h1,h2⟩ | ⟨ad,h1,h2⟩
   ·exact .inl ⟨h1,by simp[fK.wipe,h2]⟩
   ·exact .inr ⟨ad,h1,h2.wipe q⟩
 inj:=fun i j a b hi hj=>h.inj i j a b (fun e=>hi (by simp only[St.wipe];split<;>simp[e])) (fun e=>hj (by simp only[St.wipe];split<;>simp[e]))
 low:=h.low
 top:=h.top
 glo:=h.glo
 lp:=by
  show iZ w A β base (if q eu then none else σ.loop) acts
  split
  ·trivial
  ·exact h.lp
def iC:Code→Bool
 | .seq a b=>iC a && iC b
 | .cond _ a b=>iC a && iC b
 | .block _ a=>iC a
 | .loop a=>iC a
 | .rangeFunc ..=>false
 |_=>true
def Af.leaves:Af→Option Ex
 | .ready=>some .normal
 | .done .ret=>some .ret
 | .done (.exit id)=>some (.exit id)
 |_=>none
def Af.ready? :Af→Bool
 | .ready=>true
 |_=>false
def Af.SI :Af→Bool
 | .busy=>true
 |_=>false
def Ex.round:Ex→Af
 | .normal=> .ready
 | .ret=> .done .ret
 | .exit id=> .done (.exit id)
def Ex.goes:Ex→Bool
 | .normal=>true
 |_=>false
def Kv:Option kV→Nat→Bool
 |none,_=>true
 |some L,n=>Nat.ble L.depth n
def ghost:Fr:={ nt:=1,tm:=fun _=> .undef }
def St.ranged (σ:St) (ps:Array Tmp) (assign body:Code) (caps:List D) (nt:Nat):St:=
  { fr:={ nt:=(.yld::caps).length+(nt - (.yld::caps).length),tm:=fun t=>((.yld::caps) ++ List.replicate (nt - (.yld::caps).length) (D.v undef)).getD t .undef },
    stk:=(σ.forget eu).fr::ghost::(σ.forget eu).stk,bk:=(σ.forget eu).bk,
    loop:=some { ps:=ps,assign:=assign,body:=body,depth:=σ.stk.length+2,state:= .ready } }
def Fr.puts (f:Fr):List (Tmp×D)→Fr
 |[]=>f
 |(t,d)::l=>(f.put t d).puts l
def St.round (σ:St) (f:Fr) (ps:List (Tmp×D)):St:={ fr:=f.puts ps,stk:=σ.fr::σ.stk,bk:=σ.bk,loop:=σ.loop }
def St.at (σ:St) (L:kV) (s:Af):St:={ σ with loop:=some { L with state:=s } }
inductive Job where
 |code (c:Code)
 |rounds (c:Code)
 |ops (R:Array Oper) (l:List Oper)
 |draws (R:Array Oper) (p:Plan) (k:Nat) (l:List Oper)
def Job.plain:Job→Bool
 | .draws _ _ _ _=>false
 |_=>true
inductive Runs (P:Program) (F:FuncId→List D→D→Prop):Job→St→Ex→St→Prop
  |nil {R:Array Oper} {σ:St}:Runs P F (.ops R []) σ .normal σ
  |skipped {R:Array Oper} {o:Oper} {l:List Oper} {σ σ':St}:bJ R o σ=some false→Runs P F (.ops R l) (σ.put o.dst (.v undef)) .normal σ'→Runs P F (.ops R (o::l)) σ .normal σ'
  |step {R:Array Oper} {o:Oper} {l:List Oper} {σ σ1 σ':St}:bJ R o σ=some true→oP P F o σ σ1→Runs P F (.ops R l) σ1 .normal σ'→Runs P F (.ops R (o::l)) σ .normal σ'
  |inline {R:Array Oper} {o:Oper} {l:List Oper} {σ σ1 σ':St} {fo:Operand} {args:Array Operand} {f:FuncId} {caps:List D} {fn:Func} {c:Code} {e:Ex} {ds:List D} {fr:Fr} {stk:List Fr}:
      bJ R o σ=some true→callParts o.op=some (fo,args)→bP σ fo= .fn f caps→l9 P f=some (fn,c)→
      Runs P F (.code c) (σ.enter (args.toList.map (bP σ) ++ caps) fn.ntmps) e σ1→e= .normal∨e= .ret→resD P σ1 fn.results.toList=some ds→σ1.stk=fr::stk→Kv σ1.loop stk.length=true→
      Runs P F (.ops R l) (St.put { fr:=fr,stk:=stk,bk:=σ1.bk,loop:=σ1.loop } o.dst (wu ds)) .normal σ'→Runs P F (.ops R (o::l)) σ .normal σ'
  |yield {R:Array Oper} {o:Oper} {l:List Oper} {σ σ1 σ2 σ':St} {fo:Operand} {args:Array Operand} {L L1 L2:kV} {e:Ex} {fr0 gh frI:Fr} {stk stk':List Fr}:
      bJ R o σ=some true→callParts o.op=some (fo,args)→bP σ fo= .yld→σ.loop=some L→L.state.ready? =true→σ.stk=fr0::gh::stk→stk.length+2=L.depth→args.size=L.ps.size→iC L.assign=true→iC L.body=true→
      Runs P F (.code L.assign) (σ.round fr0 (L.ps.toList.zip (args.toList.map (bP σ)))) .normal σ1→σ1.loop=some L1→L1.state.ready? =true→L1.depth=L.depth→
      Runs P F (.code L.body) (σ1.at L1 .busy) e σ2→σ2.loop=some L2→L2.state.SI =true→L2.depth=L.depth→σ2.stk=frI::stk'→
      Runs P F (.ops R l) (St.put { fr:=frI,stk:=stk',bk:=σ2.bk,loop:=some { L2 with state:=e.round } } o.dst (.v (.bool e.goes))) .normal σ'→Runs P F (.ops R (o::l)) σ .normal σ'
  |ranged {g:Operand} {ps:Array Tmp} {assign body:Code} {f:FuncId} {caps:List D} {fn:Func} {c:Code} {σ σ1:St} {e1 e:Ex} {L1:kV} {fr gh:Fr} {stk:List Fr}:
      σ.loop=none→bP (σ.forget eu) g= .fn f caps→l9 P f=some (fn,c)→Runs P F (.code c) (σ.ranged ps assign body caps fn.ntmps) e1 σ1→e1= .normal∨e1= .ret→fn.results.toList=[]→
      σ1.loop=some L1→L1.state.leaves=some e→L1.depth=σ.stk.length+2→σ1.stk=fr::gh::stk→Runs P F (.code (.rangeFunc g ps assign body)) σ e { fr:=fr,stk:=stk,bk:=σ1.bk }
  |region {id:Nat} {R:Array Oper} {σ σ':St}:Runs P F (.ops R R.toList) σ .normal σ'→Runs P F (.code (.region id R false)) σ .normal σ'
  |skip {σ:St}:Runs P F (.code .skip) σ .normal σ
  |ret {σ:St}:Runs P F (.code .ret) σ .ret σ
  |exit {id:Nat} {σ:St}:Runs P F (.code (.exit id)) σ (.exit id) σ
  |seq {x y:Code} {σ σ1 σ':St} {e:Ex}:Runs P F (.code x) σ .normal σ1→Runs P F (.code y) σ1 e σ'→Runs P F (.code (.seq x y)) σ e σ'
  |leave {x y:Code} {σ σ':St} {e:Ex}:Runs P F (.code x) σ e σ'→e≠ .normal→Runs P F (.code (.seq x y)) σ e σ'
  |cond {c:Operand} {x y:Code} {b:Bool} {σ σ':St} {e:Ex}:bP σ c= .v (.bool b)→Runs P F (.code (if b then x else y)) σ e σ'→Runs P F (.code (.cond c x y)) σ e σ'
  |block {id:Nat} {c:Code} {σ σ':St} {e:Ex}:Runs P F (.code c) σ e σ'→Runs P F (.code (.block id c)) σ (if e= .exit id then .normal else e) σ'
  |loop {c:Code} {σ σ':St} {e:Ex}:Runs P F (.rounds c) σ e σ'→Runs P F (.code (.loop c)) σ e σ'
  |round {c:Code} {σ σ1 σ':St} {e:Ex}:Runs P F (.code c) σ .normal σ1→Runs P F (.rounds c) σ1 e σ'→Runs P F (.rounds c) σ e σ'
  |last {c:Code} {σ σ':St} {e:Ex}:Runs P F (.code c) σ e σ'→e≠ .normal→Runs P F (.rounds c) σ e σ'
  |weak {j:Job} {σ σ1 σ':St} {e:Ex}:j.plain=true→fB σ σ1→Runs P F j σ1 e σ'→Runs P F j σ e σ'
  |late {j:Job} {σ σ1 σ':St} {e:Ex}:j.plain=true→Runs P F j σ e σ1→fB σ1 σ'→Runs P F j σ e σ'
  |wipe {j:Job} {q:Nat→Bool} {σ σ':St} {e:Ex}:j.plain=true→Runs P F j (σ.wipe q) e σ'→Runs P F j σ e σ'
  |after {R:Array Oper} {l:List Oper} {q:Nat→Bool} {σ σ':St}:Runs P F (.ops R l) σ .normal σ'→Runs P F (.ops R l) σ .normal (σ'.wipe q)
  |dnil {R:Array Oper} {p:Plan} {k:Nat} {σ:St}:Runs P F (.draws R p k []) σ .normal σ
  |dstep {R:Array Oper} {p:Plan} {k:Nat} {o:Oper} {l:List Oper} {σ σ1 σ':St}:gJ P F (fun _ _ _=>False) R p k o σ σ1→Runs P F (.draws R p (k+1) l) σ1 .normal σ'→Runs P F (.draws R p k (o::l)) σ .normal σ'
  |dother {R:Array Oper} {p:Plan} {k:Nat} {o:Oper} {l:List Oper} {σ σ1 σ':St}:p.T k=true→Runs P F (.ops R [o]) σ .normal σ1→(∀ l,p.W k l=true→∀ id∈p.zs l,Unused id σ1)→Runs P F (.draws R p (k+1) l) σ1 .normal σ'→Runs P F (.draws R p k (o::l)) σ .normal σ'
  |drawn {id:Nat} {R:Array Oper} {p:Plan} {σ σ':St}:P.follows .mixedOrders=true→oM P R p→(∀ k,∀ id∈p.zs k,Unused id σ)→Runs P F (.draws R p 0 R.toList) σ .normal σ'→Runs P F (.code (.region id R true)) σ .normal σ'
section
variable {P:Program} {F:FuncId→List D→D→Prop}
def Sound (P:Program) (F:FuncId→List D→D→Prop):Job→St→Ex→St→Prop
 | .code c,σ,e,σ'=>∀ (ro:Option Nat),(ro=none∨iC c=true)→∀ (w:World) (A:Nat→Prop) (β:Env) (base:Nat) (a:Act) (acts:List (Array Value)) (Q:Exit→Act→World→Prop),Rel w A β base σ a.tmps acts→Aft σ' base acts A a w (Q e.out)→c.wpIn (FW ro) 0 P Q a w
 | .rounds c,σ,e,σ'=>∀ (ro:Option Nat),(ro=none∨iC c=true)→∃ n,∀ (w:World) (A:Nat→Prop) (β:Env) (base:Nat) (a:Act) (acts:List (Array Value)) (Q:Exit→Act→World→Prop),Rel w A β base σ a.tmps acts→Aft σ' base acts A a w (Q e.out)→Code.roundsIn (FW ro) 0 P c Q n a w
 | .ops R l,σ,_,σ'=>∀ (ro:Option Nat) (w:World) (A:Nat→Prop) (β:Env) (base:Nat) (a:Act) (acts:List (Array Value)) (Q:Exit→Act→World→Prop),Rel w A β base σ a.tmps acts→Aft σ' base acts A a w (Q .normal)→wpListIn (FW ro) 0 P R Q l a w
 | .draws R p k l,σ,_,σ'=>aaY P F (Gq P R) R p k l σ σ'
theorem Exit.Jd {e:Ex} (h:e≠ .normal) (K:Act→World→Prop) (Q:Exit→Act→World→Prop):Exit.then K Q e.out=Q e.out:=by
 cases e<;>first | exact absurd rfl h | (funext a w;rfl)
theorem Dn {w:World} {A:Nat→Prop} {β:Env} {base:Nat} {σ:St} {tmps:Array Value} {acts:List (Array Value)} (h:Rel w A β base σ tmps acts) {args:List D} {vs:List Value} (hargs:aH w A β args vs) (nt:Nat):
  Rel w A β base (σ.enter args nt) (vs.toArray ++ Array.replicate (nt - vs.toArray.size) undef) (tmps::acts) where
 fr:=by
  have hl:=hargs.length
  refine⟨by simp[St.enter,hl],fun t=>?_⟩
  simp only[St.enter]
  rcases Nat.lt_or_ge t args.length with ht | ht
  ·have hlt:t<vs.length:=by omega
   obtain⟨u,h1,h2⟩:=hargs.get t _ (List.getElem?_eq_getElem ht)
   have e1:(vs.toArray ++ Array.replicate (nt - vs.toArray.size) undef).getD t undef=u:=by
    rw[Array.getD_eq_getD_getElem?,Array.getElem?_append_left (by simpa using hlt)]
    simp[h1]
   rw[e1,List.getD_eq_getElem?_getD,List.getElem?_append_left ht]
   simpa [ht] using h2
  ·have e1:(vs.toArray ++ Array.replicate (nt - vs.toArray.size) undef).getD t undef=undef:=by
    rw[Array.getD_eq_getD_getElem?,Array.getElem?_append_right (by simp;omega)]
    cases hc:(Array.replicate (nt - vs.toArray.size) undef)[t - vs.toArray.size]? with
    |none=>rfl
    |some y=>rw[Array.getElem?_replicate] at hc;split at hc<;>simp at hc;simp[←hc]
   rw[e1,List.getD_eq_getElem?_getD,List.getElem?_append_right ht]
   cases hc:(List.replicate (nt - args.length) (D.v undef))[t - args.length]? with
   |none=>simp[Rep,aG]
   |some y=>rw[List.getElem?_replicate] at hc;split at hc<;>simp at hc;simp[←hc,Rep,aG]
 stk:= .cons h.fr h.stk
 blk:=h.blk
 inj:=h.inj
 low:=h.low
 top:=h.top
 glo:=h.glo
 lp:=by
  show iZ w A β base σ.loop (tmps::acts)
  cases hl:σ.loop with
  |none=>trivial
  |some L=>
   have:=h.lp
   rw[hl] at this
   obtain⟨l,D,fn,ts,pre,post,h1,h2,h3⟩:=this
   exact⟨l,D,fn,ts,tmps::pre,post,h1,by rw[h2];rfl,h3⟩
theorem gJ.mono {R:Array Oper} {O O':Oper→St→St→Prop} {p:Plan} {k:Nat} {o:Oper} {σ σ':St} (h:gJ P F O R p k o σ σ') (hO:∀ o σ σ',O o σ σ'→O' o σ σ'):gJ P F O' R p k o σ σ':=by
 cases h with
 |skip h=>exact .skip h
 |op h1 h2 h3 h4 h5 h6 h7 h8=>exact .op h1 h2 h3 h4 h5 h6 h7 h8
 |sto h1 h2 h3 h4 h5 h6 h7=>exact .sto h1 h2 h3 h4 h5 h6 h7
 |cpy h1 h2 h3 h4 h5 h6=>exact .cpy h1 h2 h3 h4 h5 h6
 |oth h1 h2 h3=>exact .oth h1 (hO _ _ _ h2) h3
theorem ja.length {w:World} {A:Nat→Prop} {β:Env}:∀ {fs:List Fr} {as:List (Array Value)},ja w A β fs as→fs.length=as.length
 |_,_, .nil=>rfl
 |_,_, .cons _ t=>by simp[ja.length t]
theorem Rel.putObj {w:World} {A:Nat→Prop} {β:Env} {base:Nat} {σ:St} {tmps:Array Value} {acts:List (Array Value)} (h:Rel w A β base σ tmps acts) {k:Nat} {o o':Obj} (hk:w.heap[k]? =some o) (ho:isC o=false) (ha:¬ A k)
  (hlp:iZ (w.putObj k o') A β base σ.loop acts):Rel (w.putObj k o') A β base σ tmps acts:=by
 have hne:∀ b c T fz,w.heap[b]? =some (.cells c T fz)→b≠k:=fun b c T fz hb e=>by subst e;rw[hk] at hb;cases hb;cases ho
 refine h.carry ⟨fun j hj=>World.putObj_heap_other (show j≠k from fun e=>ha (by rw[←e];exact hj)),fun b m ⟨c,T,fz,h1,h2⟩=>⟨c,T,fz,by rw[World.putObj_heap_other (hne b c T fz h1)];exact h1,h2⟩⟩ (fun _ h=>h) (fun j hj=>by simpa using h.low j hj) (by simpa using h.top) (fun _ _ _=>rfl) (fun _ _ _ _ _=>rfl) (fun i b hb=>⟨rfl,fun _ _=>rfl,fun ad had=>⟨?_,fun h=>h⟩⟩) hlp
 rcases h.blk i b hb with⟨h1,_⟩ | ⟨ad',h1,h2⟩
 ·rw[had] at h1;cases h1
 ·rw[had] at h1;cases h1
  obtain⟨c,T,hobj⟩:=h2.obj
  exact World.putObj_heap_other (hne _ _ _ _ hobj)
theorem Turn.putObj {A A':Nat→Prop} {base:Nat} {w w':World} (h:Turn A A' base w w') {k:Nat} {o o':Obj} (hk:w'.heap[k]? =some o) (ho:isC o=false) (hb:base≤k) (ha:¬ A k) (hd:∀ x,w.heap[k]? =some x→isC x=false→Pq x=false∧isC o'=false):Turn A A' base w (w'.putObj k o') where
 ext:=⟨fun j hj=>(World.putObj_heap_other (show j≠k from fun e=>ha (by rw[←e];exact hj))).trans (h.ext.same j hj),fun b m hr=>by
  obtain⟨c,T,fz,h1,h2⟩:=h.ext.room b m hr
  refine⟨c,T,fz,?_,h2⟩
  rw[World.putObj_heap_other (fun e=>by subst e;rw[hk] at h1;cases h1;cases ho)];exact h1⟩
 grows:=h.grows
 below:=⟨h.below.os,h.below.tape,h.below.output,by simpa using h.below.size,fun j hj=>(World.putObj_heap_other (by omega)).trans (h.below.block j hj)⟩
 old:=h.old
 side:=⟨fun j x hj hx=>by
   by_cases e:j=k
   ·subst e;have:=(hd x hj (Jo hx)).1;rw[hx] at this;cases this
   ·rw[World.putObj_heap_other e];exact h.side.keep j x hj hx,
  fun j x hj hx=>by
   by_cases e:j=k
   ·subst e
    refine⟨o',World.putObj_heap_same (Array.getElem?_eq_some_iff.1 hk).1,(hd x hj hx).2⟩
   ·obtain⟨y,h1,h2⟩:=h.side.non j x hj hx
    exact⟨y,by rw[World.putObj_heap_other e];exact h1,h2⟩,h.side.new⟩
theorem iZ.OH {w:World} {A:Nat→Prop} {β:Env} {base:Nat} {L:Option kV} {acts:List (Array Value)} (h:iZ w A β base L acts) {k:Nat} {o o':Obj} (hk:w.heap[k]? =some o) (hl:∀ r,o≠ .loop r):iZ (w.putObj k o') A β base L acts:=by
 cases L with
 |none=>trivial
 |some L=>
  obtain⟨l,D,fn,ts,pre,post,h1,h2,h3,h4,h5⟩:=h
  refine⟨l,D,fn,ts,pre,post,h1,h2,h3,?_,h5⟩
  rw[World.putObj_heap_other (fun e=>by subst e;rw[hk] at h4;cases h4;exact hl _ rfl)];exact h4
theorem afs {P:Program} {fn:Func} {ts tmps:Array Value} {w:World} {A A':Nat→Prop} {β:Env} {base:Nat} {σ:St} {acts:List (Array Value)} {R:Ending→World→Prop} {n:Nat} (hb:base≤w.heap.size) (hA:∀ k,A k→k<w.heap.size):∀ (Ds:List Nat) (w':World),Rel w' A' β base σ tmps acts→Turn A A' base w w'→Ds.Nodup→
  (∀ D∈Ds,w.heap.size≤D∧¬ A' D∧w'.heap[D]? =some (.deferred (some [])))→(∀ w'',Rel w'' A' β base σ tmps acts→Turn A A' base w w''→LeavesIn (FW none) n P fn ts R [] .returning w'')→LeavesInM (FW none) n P fn ts R (Ds.map mark) .returning w'
 |[],w',hr,ht,_,_,h=>h w' hr ht
 |D::Ds,w',hr,ht,hn,hD,h=>by
  obtain⟨h1,h2,h3⟩:=hD D (by simp)
  refine⟨by simp, .inl ⟨D,w'.putObj D (.deferred none),rfl,run_takeDeferred h3,?_⟩⟩
  refine afs hb hA Ds _ (hr.putObj h3 rfl h2 (hr.lp.OH h3 (fun r e=>by cases e))) (ht.putObj h3 rfl (by omega) (fun ha=>by have:=hA _ ha;omega) (fun x hx _=>by
   have:=(Array.getElem?_eq_some_iff.1 hx).1;omega)) (List.nodup_cons.1 hn).2 (fun E hE=>?_) h
  obtain⟨k1,k2,k3⟩:=hD E (by simp[hE])
  refine⟨k1,k2,?_⟩
  rw[World.putObj_heap_other (show E≠D from fun e=>(List.nodup_cons.1 hn).1 (by rw[←e];exact hE))];exact k3
theorem Rel.at {w:World} {A:Nat→Prop} {β:Env} {base:Nat} {σ:St} {tmps:Array Value} {acts:List (Array Value)} (h:Rel w A β base σ tmps acts) {L:kV} (hL:σ.loop=some L) {l D:Nat} {fn:FuncId} {ts:Array Value} {pre post:List (Array Value)} (h1:β eu=some ⟨l,0,none⟩) (h2:acts=pre ++ ts::#[.int .i64 (l:Int)]::post) (h3:post.length+2=L.depth)
  (h4:w.heap[l]? =some (.loop { state:=L.state.state,pending:=L.state.jump,fn:=fn,tmps:=ts,params:=L.ps,assign:=L.assign,body:=L.body,defers:=D })) (h5:¬ A l) (h6:base≤l) (s:Af):
  Rel (w.putObj l (.loop { state:=s.state,pending:=s.jump,fn:=fn,tmps:=ts,params:=L.ps,assign:=L.assign,body:=L.body,defers:=D })) A β base (σ.at L s) tmps acts:=by
 have hlt:=(Array.getElem?_eq_some_iff.1 h4).1
 have h0:Rel w A β base { σ with loop:=none } tmps acts:=⟨h.fr,h.stk,h.blk,h.inj,h.low,h.top,h.glo,trivial⟩
 have hp:=h0.putObj (o':= .loop { state:=s.state,pending:=s.jump,fn:=fn,tmps:=ts,params:=L.ps,assign:=L.assign,body:=L.body,defers:=D }) h4 rfl h5 trivial
 exact⟨hp.fr,hp.stk,hp.blk,hp.inj,hp.low,hp.top,hp.glo,⟨l,D,fn,ts,pre,post,h1,h2,h3,World.putObj_heap_same hlt,h5,h6⟩⟩
theorem Ue {w:World} {A:Nat→Prop} {β:Env}:∀ (ps:List Tmp) (ds:List D) (us:List Value) (f:Fr) (a:Array Value),kR w A β f a→aH w A β ds us→ds.length=ps.length→kR w A β (f.puts (ps.zip ds)) ((ps.zip us).foldl (fun t (p,v)=>t.setIfInBounds p v) a)
 |[],ds,us,f,a,h,_,_=>by cases ds<;>cases us<;>exact h
 |p::ps,[],us,f,a,h,_,hl=>by simp at hl
 |p::ps,d::ds,us,f,a,h,hu,hl=>by
  simp only[aH] at hu
  obtain⟨u,vs,rfl,h1,h2⟩:=hu
  exact Ue ps ds vs (f.put p d) (a.setIfInBounds p u) (h.put p h1) h2 (by simpa using hl)
theorem FV {w:World} {o:Oper} {ρv:Operand→Value} {fo:Operand} {args:Array Operand} (h:callParts o.op=some (fo,args)) {l:Nat} (hf:ρv fo= .func (.yield l) #[] #[]):
  (execOp ρv o).run P w=(Instr.yield l (args.map ρv)).run P w:=by
 obtain⟨dst,op,type,pos,after,guard⟩:=o
 cases op with
 |call c=>
  obtain⟨callee,as,ts⟩:=c
  cases callee with
  |value g=>
   simp[callParts] at h
   obtain⟨rfl,rfl⟩:=h
   simp[execOp,resolve,hf,Deferred.ofValue,Sem.run_bind,Sem.run_pure,Result.andThen_ok,invoke]
  |_=>simp[callParts] at h
 |_=>simp[callParts] at h
theorem bodyEnd {P:Program} {fn:Func} {w:World} {A A':Nat→Prop} {β:Env} {base:Nat} {σ:St} {acts:List (Array Value)} {R:Ending→World→Prop} {n:Nat} {a0 a':Act} {w':World} {e:Ex} (he:e= .normal∨e= .ret) (hb:base≤w.heap.size) (hA:∀ k,A k→k<w.heap.size)
  (hd:Marks w w' A' a0 a') (h0:a0.defers=[]) (hr:Rel w' A' β base σ a'.tmps acts) (ht:Turn A A' base w w') (h:∀ w'',Rel w'' A' β base σ a'.tmps acts→Turn A A' base w w''→∃ v,(results fn a'.tmps).run P w''= .ok v w''∧R (.returned v) w''):bodyPostM (FW none) n P fn R e.out a' w':=by
 obtain⟨Ds,h1,h2,h3⟩:=hd
 rw[h0,List.append_nil] at h1
 have key:LeavesInM (FW none) n P fn a'.tmps R a'.defers .returning w':=by
  rw[h1]
  exact afs hb hA Ds w' hr ht h2 h3 (fun w'' hr'' ht''=>h w'' hr'' ht'')
 rcases he with rfl | rfl<;>exact key
theorem Uz {P:Program} {ro:Option Nat} {o:Oper} {w:World} {A:Nat→Prop} {β:Env} {base:Nat} {a:Act} {acts:List (Array Value)} {σ σ1 σ2:St} {fo:Operand} {args:Array Operand} {L L1 L2:kV} {e:Ex} {fr0 gh frI:Fr} {stk stk':List Fr}
  (hp:callParts o.op=some (fo,args)) (hf:bP σ fo= .yld) (hL:σ.loop=some L) (hs:L.state.ready? =true) (hstk:σ.stk=fr0::gh::stk) (hdep:stk.length+2=L.depth) (hsz:args.size=L.ps.size) (hna:iC L.assign=true) (hnb:iC L.body=true)
  (iha:Sound P F (.code L.assign) (σ.round fr0 (L.ps.toList.zip (args.toList.map (bP σ)))) .normal σ1) (hL1:σ1.loop=some L1) (hs1:L1.state.ready? =true) (hd1:L1.depth=L.depth)
  (ihb:Sound P F (.code L.body) (σ1.at L1 .busy) e σ2) (hL2:σ2.loop=some L2) (hs2:L2.state.SI =true) (hd2:L2.depth=L.depth) (hstk2:σ2.stk=frI::stk')
  (hr:Rel w A β base σ a.tmps acts) {K:Act→World→Prop} {Q:Exit→Act→World→Prop} (hK:Aft (St.put { fr:=frI,stk:=stk',bk:=σ2.bk,loop:=some { L2 with state:=e.round } } o.dst (.v (.bool e.goes))) base acts A a w K):o.wpIn (FW ro) 0 P a w K Q:=by
 have hlp:=hr.lp
 rw[hL] at hlp
 obtain⟨l,D,fn,ts,pre,post,h1,h2,h3,h4,h5,h6⟩:=hlp
 have hlen:=hr.stk.length
 rw[hstk,h2] at hlen
 simp only[List.length_cons,List.length_append] at hlen
 have hpre:pre=[]:=List.length_eq_zero_iff.1 (by omega)
 subst hpre
 simp only[List.nil_append] at h2
 subst h2
 have hst:∀ {s:Af},s.ready? =true→s= .ready:=fun {s} h=>by cases s<;>simp_all [Af.ready?]
 have hsb:∀ {s:Af},s.SI =true→s= .busy:=fun {s} h=>by cases s<;>simp_all [Af.SI]
 have e0:=hst hs
 rw[e0] at h4
 have hfo:=jd hr fo
 rw[hf] at hfo
 simp only[Rep] at hfo
 obtain⟨ad,had,hfo⟩:=hfo
 rw[h1] at had
 cases had
 have hnd:∀ c,o.op≠ .defer c:=fun c e=>by rw[e] at hp;simp[callParts] at hp
 refine⟨fun _ _=>trivial,?_⟩
 rw[Oper.semAt_eq _ _ _ hnd,FV hp hfo,run_yield h4 (by simpa using hsz)]
 refine⟨fun e=>(by cases e),?_⟩
 have hargs:aH w A β (args.toList.map (bP σ)) (args.toList.map a.eval):=oL (jd hr) _
 have hstkr:=hr.stk
 rw[hstk] at hstkr
 cases hstkr with
 |cons hfr0 hrest=>
 have hfrR:kR w A β (fr0.puts (L.ps.toList.zip (args.toList.map (bP σ)))) ((L.ps.zip (args.map a.eval)).foldl (fun t (p,v)=>t.setIfInBounds p v) ts):=by
  have:=Ue L.ps.toList _ _ fr0 ts hfr0 hargs (by simpa using hsz)
  rw[←Array.foldl_toList]
  simpa [Array.toList_zip] using this
 have hrel0:Rel w A β base (σ.round fr0 (L.ps.toList.zip (args.toList.map (bP σ)))) ((L.ps.zip (args.map a.eval)).foldl (fun t (p,v)=>t.setIfInBounds p v) ts) (a.tmps::ts::#[.int .i64 (l:Int)]::post):=
  ⟨hfrR,by show ja w A β (σ.fr::σ.stk) _;rw[hstk];exact .cons hr.fr (.cons hfr0 hrest),hr.blk,hr.inj,hr.low,hr.top,hr.glo,by
   show iZ w A β base σ.loop _
   rw[hL]
   exact⟨l,D,fn,ts,[a.tmps],post,h1,rfl,h3,by rw[e0];exact h4,h5,h6⟩⟩
 refine roundIn_of_wpIn (F:=FW ro) trivial ?_
 show L.assign.wpIn (FW (some l)) 0 P _ _ w
 refine iha (some l) (.inr hna) w A β base { tmps:=_,defers:=[] } _ _ hrel0 ?_
 intro a1 w1 A1 β1 _ hr1 ht1
 have hlp1:=hr1.lp
 rw[hL1] at hlp1
 obtain⟨l1,D1,fn1,ts1,pre1,post1,g1,g2,g3,g4,g5,g6⟩:=hlp1
 have hpos:∀ {l1:Nat} {ts1:Array Value} {pre1 post1:List (Array Value)},a.tmps::ts::#[Value.int .i64 (l:Int)]::post=pre1 ++ ts1::#[.int .i64 (l1:Int)]::post1→post1.length=post.length→l=l1∧[a.tmps]=pre1∧ts=ts1∧post=post1:=by
  intro l1 ts1 pre1 post1 he hlen
  have hl:=congrArg List.length he
  simp only[List.length_cons,List.length_append] at hl
  match pre1,hl,he with
  |[x],_,he=>
   simp only[List.cons_append,List.nil_append,List.cons.injEq,Array.mk.injEq,Value.int.injEq,true_and,and_true] at he
   obtain⟨rfl,rfl,h,rfl⟩:=he
   exact⟨by omega,rfl,rfl,rfl⟩
  |[],hl,_=>simp at hl;omega
  |_::_::_,hl,_=>simp at hl;omega
 obtain⟨rfl,rfl,rfl,rfl⟩:=hpos g2 (by omega)
 have e1:=hst hs1
 rw[e1] at g4
 refine⟨_,run_beginRound g4 rfl,?_⟩
 have hrel1:=hr1.at hL1 g1 g2 g3 (by rw[e1];exact g4) g5 g6 .busy
 have ht1':=ht1.putObj (o':= .loop { state:=Af.busy.state,pending:=Af.busy.jump,fn:=fn1,tmps:=ts,params:=L1.ps,assign:=L1.assign,body:=L1.body,defers:=D1 }) g4 rfl g6 h5 (fun x hx _=>by rw[h4] at hx;cases hx;exact⟨rfl,rfl⟩)
 show L.body.wpIn (FW (some l)) 0 P _ _ _
 refine ihb (some l) (.inr hnb) _ A1 β1 base a1 _ _ hrel1 ?_
 intro a2 w2 A2 β2 _ hr2 ht2
 have hlp2:=hr2.lp
 rw[hL2] at hlp2
 obtain⟨l2,D2,fn2,ts2,pre2,post2,k1,k2,k3,k4,k5,k6⟩:=hlp2
 obtain⟨rfl,rfl,rfl,rfl⟩:=hpos k2 (by omega)
 have e2:=hsb hs2
 rw[e2] at k4
 have hrel2:=hr2.at hL2 k1 k2 k3 (by rw[e2];exact k4) k5 k6 e.round
 have ht2':=(ht1'.trans ht2).putObj (o':= .loop { state:=e.round.state,pending:=e.round.jump,fn:=fn2,tmps:=ts,params:=L2.ps,assign:=L2.assign,body:=L2.body,defers:=D2 }) k4 rfl k6 h5 (fun x hx _=>by rw[h4] at hx;cases hx;exact⟨rfl,rfl⟩)
 have hback:∀ v,v=Value.bool e.goes→K (a.put o.dst v) (w2.putObj l (.loop { state:=e.round.state,pending:=e.round.jump,fn:=fn2,tmps:=ts,params:=L2.ps,assign:=L2.assign,body:=L2.body,defers:=D2 })):=by
  rintro v rfl
  have hs2:=hrel2.stk
  simp only[St.at] at hs2
  rw[hstk2] at hs2
  cases hs2 with
  |cons hf2 hrest2=>
   have hb:Rel _ A2 β2 base { fr:=frI,stk:=stk',bk:=σ2.bk,loop:=some { L2 with state:=e.round } } a.tmps (ts::#[.int .i64 (l:Int)]::post):=
    ⟨hf2,hrest2,hrel2.blk,hrel2.inj,hrel2.low,hrel2.top,hrel2.glo,⟨l,D2,fn2,ts,[],post,k1,rfl,k3,World.putObj_heap_same (Array.getElem?_eq_some_iff.1 k4).1,k5,k6⟩⟩
   exact hK _ _ _ _ (.same (put_defers _ _ _)) (hb.uN o.dst (by simp[Rep,aG])) ht2'
 cases e with
 |normal=>exact⟨_,_,run_endRound none k4,hback _ rfl⟩
 |ret=>exact⟨_,_,run_endRound (some .ret) k4,hback _ rfl⟩
 |exit id=>exact⟨_,_,run_endRound (some (.exit id)) k4,hback _ rfl⟩
end
section
variable {P:Program} {F:FuncId→List D→D→Prop}
def iK (w:World) (fn:FuncId) (tmps:Array Value) (ps:Array Tmp) (assign body:Code):World:=
 (w.alloc (.deferred (some []))).alloc (.loop { state:= .ready,pending:=none,fn,tmps,params:=ps,assign,body,defers:=w.heap.size })
section
variable {w:World} {A:Nat→Prop} {β:Env} {base:Nat} {σ:St} {tmps:Array Value} {acts:List (Array Value)} {fn:FuncId} {ps:Array Tmp} {assign body:Code}
theorem AV:(iK w fn tmps ps assign body).heap.size=w.heap.size+2:=by simp[iK]
theorem U3 {k:Nat} (hk:k<w.heap.size):(iK w fn tmps ps assign body).heap[k]? =w.heap[k]? :=
 (Below.heap_alloc _ _ _ (by simp;omega)).trans (Below.heap_alloc _ _ _ hk)
theorem Ui:(iK w fn tmps ps assign body).heap[w.heap.size+1]? =some (.loop { state:= .ready,pending:=none,fn,tmps,params:=ps,assign,body,defers:=w.heap.size }):=by
 have:=World.alloc_heap_new (w.alloc (.deferred (some []))) (.loop { state:= .ready,pending:=none,fn,tmps,params:=ps,assign,body,defers:=w.heap.size })
 simpa [iK] using this
theorem EW:(iK w fn tmps ps assign body).heap[w.heap.size]? =some (.deferred (some [])):=
 (Below.heap_alloc _ _ _ (by simp)).trans (World.alloc_heap_new w _)
theorem Fj (hA:∀ k,A k→k<w.heap.size):Ext A w (iK w fn tmps ps assign body):=(Ext.alloc hA _).trans (Ext.alloc (fun k hk=>by have:=hA k hk;simp;omega) _) (fun _ h=>h)
theorem EL:La w (iK w fn tmps ps assign body):=(La.alloc w _).trans (La.alloc _ _)
theorem Qr (hA:∀ k,A k→k<w.heap.size) (top:base≤w.heap.size):Turn A A base w (iK w fn tmps ps assign body):=
 ⟨Fj hA,fun _ h=>h,((Below.refl _ w).alloc top _).alloc (by simp;omega) _,fun _ h _=>h, .strict EL (.refl _ _)⟩
theorem XB (h:Rel w A β base σ tmps acts) {caps:List D} {vc:List Value} (hc:aH w A β caps vc) (hcl:D.dm eu caps=false) (nt:Nat):
  Rel (iK w fn tmps ps assign body) A (β.set eu (some ⟨w.heap.size+1,0,none⟩)) base (σ.ranged ps assign body caps nt)
   ((Value.func (.yield (w.heap.size+1)) #[] #[]::vc).toArray ++ Array.replicate (nt - (Value.func (.yield (w.heap.size+1)) #[] #[]::vc).toArray.size) undef) (tmps::#[.int .i64 ((w.heap.size+1:Nat):Int)]::acts):=by
 have hx:Ext A w (iK w fn tmps ps assign body):=Fj h.low
 have h1:=h.rebind eu (some ⟨w.heap.size+1,0,none⟩) hx (by rw[AV];have:=h.top;omega) (by rw[AV];omega) EL (fun i b ad _ hb ha=>U3 (vP h hb ha))
 have hc':aH (iK w fn tmps ps assign body) A (β.set eu (some ⟨w.heap.size+1,0,none⟩)) caps vc:=aH.mono hx (fun _ h=>h) _ _ (fun i hi=>Env.dX _ _ (fun e=>by subst e;rw[hcl] at hi;cases hi)) hc
 have hargs:aH (iK w fn tmps ps assign body) A (β.set eu (some ⟨w.heap.size+1,0,none⟩)) (.yld::caps) (Value.func (.yield (w.heap.size+1)) #[] #[]::vc):=by
  simp only[aH]
  exact⟨_,_,rfl,by simp only[Rep];exact⟨_,Env.dw _ _ _,rfl⟩,hc'⟩
 have h2:=Dn h1 hargs nt
 have hst:=h2.stk
 cases hst with
 |cons hf hrest=>
  refine⟨h2.fr,?_,h2.blk,h2.inj,h2.low,h2.top,h2.glo,⟨w.heap.size+1,w.heap.size,fn,tmps,[],acts,Env.dw _ _ _,rfl,?_,Ui,fun ha=>?_,by have:=h.top;omega⟩⟩
  ·exact .cons hf (.cons ⟨rfl,fun t=>by simp[ghost,Rep,aG]⟩ hrest)
  ·show acts.length+2=σ.stk.length+2
   rw[h.stk.length]
  ·have:=h.low _ ha;omega
end
theorem Xl (hF:∀ f as res,F f as res→CallsD P f as res) {j:Job} {σ σ':St} {e:Ex} (h:Runs P F j σ e σ'):Sound P F j σ e σ':=by
 induction h with
 |nil=>intro ro w A β base a acts Q hr hq;exact hq a w A β (.same rfl) hr (.refl _ _ _)
 |@skipped R o l σ σ' hw _ ih=>
  intro ro w A β base a acts Q hr hq
  unfold wpListIn
  rw[if_neg (by rw[jk hr hw];simp)]
  exact⟨fun _ _=>trivial,ih ro w A β base _ acts Q (hr.uN o.dst (by simp[Rep,aG])) (hq.trans (.same (put_defers _ _ _)) (.refl _ _ _))⟩
 |@step R o l σ σ1 σ' hw hs _ ih=>
  intro ro w A β base a acts Q hr hq
  unfold wpListIn
  rw[if_pos (jk hr hw)]
  exact x9 hF hr hs fun a' w' A' β' hd hr' ht=>ih ro w' A' β' base a' acts Q hr' (hq.trans hd ht)
 |@inline R o l σ σ1 σ' fo args f caps fn c e1 ds fr stk hw hp hf hb _ he hres hstk hfit _ ihc ihl=>
  intro ro w A β base a acts Q hr hq
  unfold wpListIn
  rw[if_pos (jk hr hw)]
  have hfo:=jd hr fo
  rw[hf] at hfo
  simp only[Rep] at hfo
  obtain⟨vc,hfo,hcaps⟩:=hfo
  obtain⟨hfn,hbody,hrun⟩:=yj hb
  have hargs:aH w A β (args.toList.map (bP σ) ++ caps) (args.toList.map a.eval ++ vc):=(oL (jd hr) _).append hcaps
  refine Yt (fun c e=>by rw[e] at hp;simp[callParts] at hp) ?_
  unfold Oper.wp
  rw[qL (w:=w) (A:=A) (β:=β) hp hfo,hrun]
  refine(callsIn_wide (n:=0)).1 (callsIn_of_wp_marks (F:=FW none) hfn hbody trivial ?_)
  refine ihc none (.inl rfl) w A β base _ (a.tmps::acts) _ (Dn hr hargs fn.ntmps) ?_
  intro a' w' A' β' hd hr' ht
  refine bodyEnd he hr.top hr.low hd rfl hr' ht (fun w'' hr'' ht''=>?_)
  obtain⟨v,hv,hrep⟩:=wG hr'' hres
  have hstk':=hr''.stk
  rw[hstk] at hstk'
  cases hstk' with
  |cons hfr hrest=>
   have hback:Rel w'' A' β' base { fr:=fr,stk:=stk,bk:=σ1.bk,loop:=σ1.loop } a.tmps acts:=⟨hfr,hrest,hr''.blk,hr''.inj,hr''.low,hr''.top,hr''.glo,by
    show iZ w'' A' β' base σ1.loop acts
    have hlp:=hr''.lp
    cases hl1:σ1.loop with
    |none=>trivial
    |some L=>
     rw[hl1] at hlp hfit
     obtain⟨l,D,fn,ts,pre,post,h1,h2,h3,h4⟩:=hlp
     have hsl:=hrest.length
     have hfit':L.depth≤stk.length:=by simpa [Kv] using hfit
     cases pre with
     |nil=>
      simp only[List.nil_append,List.cons.injEq] at h2
      have:=congrArg List.length h2.2
      simp only[List.length_cons] at this
      omega
     |cons x pre=>
      simp only[List.cons_append,List.cons.injEq] at h2
      exact⟨l,D,fn,ts,pre,post,h1,h2.2,h3,h4⟩⟩
   exact⟨v,hv,ihl ro w'' A' β' base _ acts Q (hback.uN o.dst hrep) (hq.trans (.same (put_defers _ _ _)) ht'')⟩
 |@yield R o l σ σ1 σ2 σ' fo args L L1 L2 e fr0 gh frI stk stk' hw hp hf hL hs hstk hdep hsz hna hnb _ hL1 hs1 hd1 _ hL2 hs2 hd2 hstk2 _ iha ihb ihl=>
  intro ro w A β base a acts Q hr hq
  unfold wpListIn
  rw[if_pos (jk hr hw)]
  exact Uz hp hf hL hs hstk hdep hsz hna hnb iha hL1 hs1 hd1 ihb hL2 hs2 hd2 hstk2 hr fun a' w' A' β' hd hr' ht=>ihl ro w' A' β' base a' acts Q hr' (hq.trans hd ht)
 |@ranged g ps assign body f caps fn c σ σ1 e1 e L1 fr gh stk hl hg hb _ he hres hL1 hlv hdep hstk ih=>
  intro ro hro w A β base a acts Q hr hq
  obtain rfl:ro=none:=by
   rcases hro with h | h
   ·exact h
   ·simp[iC] at h
  refine wpIn_rangeFunc fun fn0 _=>?_
  have hgr:=jd (hr.forget eu) g
  rw[hg] at hgr
  simp only[Rep] at hgr
  obtain⟨vc,hgv,hcaps⟩:=hgr
  obtain⟨hfn,hbody,hrun⟩:=yj hb
  have hcl:D.dm eu caps=false:=by
   have:=(LH eu σ).eval g
   rw[hg] at this
   simpa [D.has] using this
  refine⟨w.heap.size+1,[mark w.heap.size],iK w fn0 a.tmps ps assign body,{ target:= .fn (.func f) vc.toArray,args:=#[.func (.yield (w.heap.size+1)) #[] #[]] },iK w fn0 a.tmps ps assign body,f,
   #[.func (.yield (w.heap.size+1)) #[] #[]] ++ vc.toArray,iK w fn0 a.tmps ps assign body,run_enterLoop_outer _ _ _ _ _,?_,fun _ _=>trivial,?_,fun e=>(by cases e),?_⟩
  ·simp only[resolve,hgv]
   simp[go_sem]
  ·simp[invoke,go_sem,hrun]
  ·have hrel0:=XB (fn:=fn0) (ps:=ps) (assign:=assign) (body:=body) hr hcaps hcl fn.ntmps
   have htw:Turn A A base w (iK w fn0 a.tmps ps assign body):=Qr hr.low hr.top
   have eargs:(#[Value.func (.yield (w.heap.size+1)) #[] #[]] ++ vc.toArray)=(Value.func (.yield (w.heap.size+1)) #[] #[]::vc).toArray:=by simp
   rw[eargs]
   refine callsIn_of_wp_marks (F:=FW none) hfn hbody trivial ?_
   refine ih none (.inl rfl) _ A _ base { tmps:=_,defers:=[] } (a.tmps::#[.int .i64 ((w.heap.size+1:Nat):Int)]::acts) _ hrel0 ?_
   intro a1 w1 A1 β1 hd1 hr1 ht1
   refine bodyEnd he hrel0.top hrel0.low hd1 rfl hr1 ht1 (fun w2 hr2 ht2=>?_)
   obtain⟨v,hv,_⟩:=wG (fn:=fn) (ds:=[]) hr2 (by rw[hres];rfl)
   refine⟨v,hv,?_⟩
   have hlp:=hr2.lp
   rw[hL1] at hlp
   obtain⟨l,D,fn1,ts,pre,post,h1,h2,h3,h4,h5,h6⟩:=hlp
   have hal:=hr.stk.length
   have hpos:l=w.heap.size+1∧pre=[]∧ts=a.tmps∧acts=post:=by
    have hl:=congrArg List.length h2
    simp only[List.length_cons,List.length_append] at hl
    cases pre with
    |nil=>
     simp only[List.nil_append,List.cons.injEq,Array.mk.injEq,Value.int.injEq,true_and,and_true] at h2
     obtain⟨rfl,h,rfl⟩:=h2
     exact⟨by omega,rfl,rfl,rfl⟩
    |cons _ _=>simp only[List.length_cons] at hl;omega
   obtain⟨rfl,rfl,rfl,rfl⟩:=hpos
   have hnb:L1.state.state≠ .busy:=by
    intro e
    cases hs:L1.state with
    |ready=>rw[hs] at e;cases e
    |busy=>rw[hs] at hlv;cases hlv
    |done c=>rw[hs] at e;cases e
   refine⟨_,_,run_endLoop h4 hnb,?_⟩
   have hst:=hr2.stk
   rw[hstk] at hst
   cases hst with
   |cons hf0 hrest0=>
   cases hrest0 with
   |cons hf1 hrest=>
   have hb0:Rel w2 A1 β1 base { fr:=fr,stk:=stk,bk:=σ1.bk } a.tmps acts:=⟨hf0,hrest,hr2.blk,hr2.inj,hr2.low,hr2.top,hr2.glo,trivial⟩
   have hno:w.heap.size+1<w2.heap.size:=(Array.getElem?_eq_some_iff.1 h4).1
   have hfin:=hb0.putObj (o':= .loop { state:= .exhausted,pending:=L1.state.jump,fn:=fn1,tmps:=a.tmps,params:=L1.ps,assign:=L1.assign,body:=L1.body,defers:=D }) h4 rfl h5 trivial
   have hturn:=(htw.trans ht2).putObj (o':= .loop { state:= .exhausted,pending:=L1.state.jump,fn:=fn1,tmps:=a.tmps,params:=L1.ps,assign:=L1.assign,body:=L1.body,defers:=D }) h4 rfl h6 (fun ha=>by have:=hr.low _ ha;omega) (fun x hx _=>by
    have:=(Array.getElem?_eq_some_iff.1 hx).1;omega)
   have hmarks:Marks w (w2.putObj (w.heap.size+1) (.loop { state:= .exhausted,pending:=L1.state.jump,fn:=fn1,tmps:=a.tmps,params:=L1.ps,assign:=L1.assign,body:=L1.body,defers:=D })) A1 a { a with defers:=[mark w.heap.size] ++ a.defers }:=by
    refine⟨[w.heap.size],rfl,by simp,fun E hE=>?_⟩
    simp only[List.mem_singleton] at hE
    subst hE
    refine⟨Nat.le_refl _,fun ha=>?_,?_⟩
    ·have:=ht2.side.new _ _ EW rfl ha
     exact Nat.lt_irrefl _ (hr.low _ this)
    ·rw[World.putObj_heap_other (by omega)]
     exact ht2.side.keep _ _ EW rfl
   have hQ:=hq { a with defers:=[mark w.heap.size] ++ a.defers } _ A1 β1 hmarks hfin hturn
   cases hs:L1.state with
   |ready=>rw[hs] at hlv;cases hlv;rw[hs] at hQ;exact hQ
   |busy=>rw[hs] at hlv;cases hlv
   |done c=>
    rw[hs] at hlv hQ
    cases c<;>simp only[Af.leaves] at hlv<;>first | (cases hlv;done) | skip
    ·cases hlv;exact wpIn_exit hQ
    ·cases hlv;exact wpIn_ret hQ
 |region _ ih=>intro ro _ w A β base a acts Q hr hq;exact wpIn_region_list (ih ro w A β base a acts Q hr hq)
 |skip=>intro ro _ w A β base a acts Q hr hq;exact wpIn_skip (hq a w A β (.same rfl) hr (.refl _ _ _))
 |ret=>intro ro _ w A β base a acts Q hr hq;exact wpIn_ret (hq a w A β (.same rfl) hr (.refl _ _ _))
 |exit=>intro ro _ w A β base a acts Q hr hq;exact wpIn_exit (hq a w A β (.same rfl) hr (.refl _ _ _))
 |seq _ _ ih1 ih2=>
  intro ro hro w A β base a acts Q hr hq
  have h1:=hro.imp_right (fun h=>by simpa [iC] using h)
  exact wpIn_seq (ih1 ro (h1.imp_right And.left) w A β base a acts _ hr fun a' w' A' β' hd hr' ht=>ih2 ro (h1.imp_right And.right) w' A' β' base a' acts Q hr' (hq.trans hd ht))
 |leave _ hne ih=>
  intro ro hro w A β base a acts Q hr hq
  have h1:=hro.imp_right (fun h=>by simpa [iC] using h)
  exact wpIn_seq (ih ro (h1.imp_right And.left) w A β base a acts _ hr (by rw[Exit.Jd hne];exact hq))
 |@cond c x y b σ σ' e hc _ ih=>
  intro ro hro w A β base a acts Q hr hq
  have h0:=hro.imp_right (fun h=>by simpa [iC] using h)
  have h1:=jd hr c
  rw[hc] at h1
  simp only[Rep,aG] at h1
  exact wpIn_cond h1 (ih ro (h0.imp_right (fun h=>by cases b;exact h.2;exact h.1)) w A β base a acts Q hr hq)
 |@block id c σ σ' e _ ih=>
  intro ro hro w A β base a acts Q hr hq
  refine wpIn_block (ih ro hro w A β base a acts _ hr fun a' w' A' β' hd hr' ht=>?_)
  have:=hq a' w' A' β' hd hr' ht
  cases e with
  |normal=>exact this
  |ret=>exact this
  |exit i=>
   by_cases hi:i=id
   ·subst hi;simp only[if_true] at this;simp only[Ex.out,Exit.inBlock,if_true];exact this
   ·rw[if_neg (by simp[hi])] at this;simp only[Ex.out,Exit.inBlock,if_neg hi];exact this
 |loop _ ih=>
  intro ro hro w A β base a acts Q hr hq
  obtain⟨n,hn⟩:=ih ro hro
  exact wpIn_loop_rounds n (hn w A β base a acts Q hr hq)
 |round _ _ ih1 ih2=>
  intro ro hro
  obtain⟨n,hn⟩:=ih2 ro hro
  refine⟨n+1,fun w A β base a acts Q hr hq=>?_⟩
  rw[roundsIn_succ]
  exact ih1 ro hro w A β base a acts _ hr fun a' w' A' β' hd hr' ht=>hn w' A' β' base a' acts Q hr' (hq.trans hd ht)
 |last _ hne ih=>
  intro ro hro
  refine⟨1,fun w A β base a acts Q hr hq=>?_⟩
  rw[roundsIn_succ]
  exact ih ro hro w A β base a acts _ hr (by rw[Exit.Jd hne];exact hq)
 |@weak j σ σ1 σ' e hp hw _ ih=>
  cases j with
  |code c=>intro ro hro w A β base a acts Q hr hq;obtain⟨β',hr'⟩:=hw w A β base a.tmps acts hr;exact ih ro hro w A β' base a acts Q hr' hq
  |ops R l=>intro ro w A β base a acts Q hr hq;obtain⟨β',hr'⟩:=hw w A β base a.tmps acts hr;exact ih ro w A β' base a acts Q hr' hq
  |rounds c=>intro ro hro;obtain⟨n,hn⟩:=ih ro hro;exact⟨n,fun w A β base a acts Q hr hq=>let ⟨β',hr'⟩:=hw w A β base a.tmps acts hr;hn w A β' base a acts Q hr' hq⟩
  |draws R p k l=>cases hp
 |@late j σ σ1 σ' e hp _ hw ih=>
  have key:∀ {base:Nat} {acts:List (Array Value)} {A:Nat→Prop} {a:Act} {w:World} {K:Act→World→Prop},Aft σ' base acts A a w K→Aft σ1 base acts A a w K:=
   fun hq a' w' A' β' hd hr ht=>let ⟨β'',hr'⟩:=hw w' A' β' _ _ _ hr;hq a' w' A' β'' hd hr' ht
  cases j with
  |code c=>intro ro hro w A β base a acts Q hr hq;exact ih ro hro w A β base a acts Q hr (key hq)
  |ops R l=>intro ro w A β base a acts Q hr hq;exact ih ro w A β base a acts Q hr (key hq)
  |rounds c=>intro ro hro;obtain⟨n,hn⟩:=ih ro hro;exact⟨n,fun w A β base a acts Q hr hq=>hn w A β base a acts Q hr (key hq)⟩
  |draws R p k l=>cases hp
 |@wipe j q σ σ' e hp _ ih=>
  cases j with
  |code c=>intro ro hro w A β base a acts Q hr hq;exact ih ro hro w A β base a acts Q (hr.wipe q) hq
  |ops R l=>intro ro w A β base a acts Q hr hq;exact ih ro w A β base a acts Q (hr.wipe q) hq
  |rounds c=>intro ro hro;obtain⟨n,hn⟩:=ih ro hro;exact⟨n,fun w A β base a acts Q hr hq=>hn w A β base a acts Q (hr.wipe q) hq⟩
  |draws R p k l=>cases hp
 |@after R l q σ σ' _ ih=>intro ro w A β base a acts Q hr hq;exact ih ro w A β base a acts Q hr fun a' w' A' β' hd hr' ht=>hq a' w' A' β' hd (hr'.wipe q) ht
 |dnil=>exact .nil
 |dstep h _ ih=>exact .cons (h.mono fun _ _ _ h=>h.elim) ih
 |dother h1 _ h3 _ ih1 ih2=>exact .cons (.oth h1 ih1 h3) ih2
 |drawn hm ok hinv _ ih=>intro ro _ w A β base a acts Q hr hq;exact Uc hF (fun _ _ _ h=>h) hm ok hinv ih hr hq
end
end Go.Dam
end
noncomputable section
namespace Go.Dam
open Go Go.RowKit
variable [iG]
def fin (bk:Nat→Option fK):D→Option (D×List Nat×List Nat)
 | .undef=>some (.undef,[],[])
 | .v x=>some (.v x,[],[])
 | .sh n cs=>some (.sh n cs,[],[])
 | .rc cs=>some (.rc cs,[],[])
 | .emp=>some (.emp,[],[])
 | .sl id off n sz=>match bk id with
  |none=>none
  |some b=>if off+n*sz≤b.cells.length∧b.ro=false then
    match aW (share bk depth) ((b.cells.drop off).take (n*sz)) with
    |none=>none
    |some (cs,ids)=>some (.ow n sz cs,ids,[id])
   else none
 | .agg cs=>match finL cs with
  |none=>none
  |some (ds,i,j)=>some (.agg ds,i,j)
 | .aS cs=>match finL cs with
  |none=>none
  |some (ds,i,j)=>some (.aS ds,i,j)
 |_=>none
where
 finL:List D→Option (List D×List Nat×List Nat)
 |[]=>some ([],[],[])
 |d::ds=>match fin bk d,finL ds with
  |some (e,i,j),some (es,is,js)=>some (e::es,i ++ is,j ++ js)
  |_,_=>none
def Reads (e e':D):Prop:=∀ (w:World) (A:Nat→Prop) (u:Value),aG w A e u→aG w A e' u
theorem Reads.refl (e:D):Reads e e:=fun _ _ _ h=>h
inductive iQ:List D→List D→Prop
 |nil:iQ [] []
 |cons {d e:D} {ds es:List D}:Reads d e→iQ ds es→iQ (d::ds) (e::es)
theorem iQ.length {ds es:List D} (h:iQ ds es):ds.length=es.length:=by
 induction h with
 |nil=>rfl
 |cons _ _ ih=>simp[ih]
theorem iQ.Zt {ds es:List D} (h:iQ ds es):ds=[]↔es=[]:=by
 cases h<;>simp
theorem iQ.refl:∀ ds:List D,iQ ds ds
 |[]=> .nil
 |d::ds=> .cons (.refl d) (.refl ds)
theorem iQ.agO {ds es:List D} (h:iQ ds es) {w:World} {A:Nat→Prop} {vs:List Value} (hr:dU w A ds vs):dU w A es vs:=by
 induction h generalizing vs with
 |nil=>exact hr
 |cons h1 _ ih=>
  simp only[dU] at hr ⊢
  obtain⟨x,xs,rfl,k1,k2⟩:=hr
  exact⟨x,xs,rfl,h1 _ _ _ k1,ih k2⟩
theorem iQ.ajJ {ds es:List D} (h:iQ ds es) {w:World} {A:Nat→Prop} {ad:Addr} (hr:bQ w A ds ad):bQ w A es ad:=by
 induction h generalizing ad with
 |nil=>exact hr
 |cons h1 _ ih=>
  simp only[bQ] at hr ⊢
  obtain⟨⟨u,k1,k2⟩,k3⟩:=hr
  exact⟨⟨u,k1,h1 _ _ _ k2⟩,ih k3⟩
theorem iQ.agg {ds es:List D} (h:iQ ds es):Reads (.agg ds) (.agg es):=fun w A u hr=>by
 simp only[aG] at hr ⊢
 obtain⟨vs,rfl,hr⟩:=hr
 exact⟨vs,rfl,h.agO hr⟩
theorem iQ.sh {ds es:List D} (h:iQ ds es) (n:Nat):Reads (.sh n ds) (.sh n es):=fun w A u hr=>by
 simp only[aG] at hr ⊢
 obtain⟨o,c,rfl,h1,h2,h3⟩:=hr
 exact⟨o,c,rfl,h1,fun hne=>h2 (hne.imp id fun hne e=>hne (h.Zt.1 e)),h.ajJ h3⟩
section
variable {P:Program} {w:World} {A:Nat→Prop} {β:Env} {base:Nat} {σ:St} {tmps:Array Value} {acts:List (Array Value)}
inductive kE (w:World) (σ:St) (β:Env):List Nat→List (Option Addr)→Prop
 |nil:kE w σ β [] []
 |gap {id:Nat} {ids:List Nat} {bl:List (Option Addr)}:kE w σ β ids bl→kE w σ β (id::ids) (none::bl)
 |lies {id:Nat} {ids:List Nat} {bl:List (Option Addr)} {ad:Addr} {off:Nat} {b:fK}:σ.bk id=some b→b.ro=false→β id=some ad→kE w σ β ids bl→kE w σ β (id::ids) (some (aO ad off)::bl)
theorem kE.append {ids js:List Nat} {bl bm:List (Option Addr)} (h:kE w σ β ids bl) (k:kE w σ β js bm):kE w σ β (ids ++ js) (bl ++ bm):=by
 induction h with
 |nil=>exact k
 |gap _ ih=>exact .gap ih
 |lies h1 h2 h3 _ ih=>exact .lies h1 h2 h3 ih
theorem kE.mem {ids:List Nat} {bl:List (Option Addr)} (h:kE w σ β ids bl):∀ a,some a∈bl→∃ id∈ids,∃ b ad,σ.bk id=some b∧b.ro=false∧β id=some ad∧a.block=ad.block:=by
 induction h with
 |nil=>intro a h;cases h
 |gap _ ih=>
  intro a h
  simp at h
  obtain⟨id,h1,h2⟩:=ih a h
  exact⟨id,by simp[h1],h2⟩
 |@lies id ids bl ad off b h1 h2 h3 _ ih=>
  intro a h
  simp only[List.mem_cons,Option.some.injEq] at h
  rcases h with rfl | h
  ·exact⟨id,by simp,b,ad,h1,h2,h3,rfl⟩
  ·obtain⟨i,k1,k2⟩:=ih a h
   exact⟨i,by simp[k1],k2⟩
theorem kE.apart (hrel:Rel w A β base σ tmps acts) {ids:List Nat} {bl:List (Option Addr)} (h:kE w σ β ids bl) (hn:ids.Nodup):bl.Pairwise fun x y=>∀ a b,x=some a→y=some b→a.block≠b.block:=by
 induction h with
 |nil=>exact .nil
 |gap _ ih=>rw[List.nodup_cons] at hn;exact .cons (fun _ _ a b h=>by cases h) (ih hn.2)
 |@lies id ids bl ad off b h1 h2 h3 ht ih=>
  rw[List.nodup_cons] at hn
  refine .cons (fun y hy a b' ha hb'=>?_) (ih hn.2)
  cases ha
  subst hb'
  obtain⟨i,k1,b2,ad2,k2,k3,k4,k5⟩:=ht.mem b' hy
  rw[k5]
  intro e
  have:id=i:=hrel.inj id i ad ad2 (by simp[h1]) (by simp[k2]) h3 k4 e
  exact hn.1 (this▸k1)
mutual
theorem TG (hrel:Rel w A β base σ tmps acts) {A':Nat→Prop} (hA:∀ k,A k→A' k):∀ (d e:D) (sh own:List Nat) (u:Value),fin σ.bk d=some (e,sh,own)→(∀ i∈sh,UO σ β A' i)→Rep w A β d u→
  ∃ bl,eH w A' e u bl∧kE w σ β own bl
 | .undef,e,sh,own,u,h,_,hr=>by simp[fin] at h;obtain⟨rfl,rfl,rfl⟩:=h;exact⟨[],by simp[eH,aG], .nil⟩
 | .v x,e,sh,own,u,h,_,hr=>by simp[fin] at h;obtain⟨rfl,rfl,rfl⟩:=h;simp only[Rep,aG] at hr;exact⟨[],by simp[eH,aG,hr], .nil⟩
 | .sh n cs,e,sh,own,u,h,_,hr=>by
  simp[fin] at h;obtain⟨rfl,rfl,rfl⟩:=h
  simp only[Rep] at hr
  exact⟨[],by simp only[eH];exact⟨aG.mono (fun _ _=>rfl) hA _ _ hr,trivial⟩, .nil⟩
 | .emp,e,sh,own,u,h,_,hr=>by
  simp[fin] at h;obtain⟨rfl,rfl,rfl⟩:=h
  simp only[Rep] at hr
  exact⟨[],by simp only[eH];exact⟨aG.mono (fun _ _=>rfl) hA _ _ hr,trivial⟩, .nil⟩
 | .rc cs,e,sh,own,u,h,_,hr=>by
  simp[fin] at h;obtain⟨rfl,rfl,rfl⟩:=h
  simp only[Rep] at hr
  exact⟨[],by simp only[eH];exact⟨aG.mono (fun _ _=>rfl) hA _ _ hr,trivial⟩, .nil⟩
 | .sl id off n sz,e,sh,own,u,h,hk,hr=>by
  simp only[fin] at h
  split at h
  ·cases h
  next b hb=>
   split at h
   next hl=>
    split at h
    ·cases h
    next cs ids h1=>
     simp at h;obtain⟨rfl,rfl,rfl⟩:=h
     simp only[Rep] at hr
     obtain⟨o,c,rfl,hr⟩:=hr
     have hcl:=ng _ _ _ h1
     rcases hr with⟨hn0,rfl⟩ | ⟨hnr,ad,hβ,rfl,cc,T,fz,hob,hroom⟩
     ·obtain rfl:n=0:=by omega
      have:cs=[]:=List.length_eq_zero_iff.1 (by rw[hcl];simp)
      subst this
      exact⟨[none],by simp only[eH];exact⟨o,0,rfl, .inl (by simp)⟩, .gap .nil⟩
     ·rcases hrel.blk id b hb with⟨h2,_⟩ | ⟨ad',h2,h3⟩
      ·rw[hβ] at h2;cases h2
      ·rw[hβ] at h2;cases h2
       obtain⟨c2,T2,hob2⟩:=h3.obj
       rw[hob2] at hob;cases hob
       refine⟨[some (aO ad off)],?_, .lies hb hl.2 hβ .nil⟩
       simp only[eH]
       refine⟨_,c,rfl, .inr ⟨by omega,_,rfl,rfl,rfl,⟨_,_,hob2,by simpa using hroom,by simp;omega⟩,?_⟩⟩
       exact vZ (ok:=fun i=>UO σ β A' i) (fun d e ids u h1 h2 h3=>sK hrel hA depth d e ids u h1 h2 h3) _ _ _ _ h1 hk ((h3.cells.drop h3.spot off).take rfl _)
   ·cases h
 | .agg cs,e,sh,own,u,h,hk,hr=>by
  simp only[fin] at h
  split at h
  ·cases h
  next ds i j h1=>
   simp at h;obtain⟨rfl,rfl,rfl⟩:=h
   simp only[Rep] at hr
   obtain⟨vs,rfl,hr⟩:=hr
   obtain⟨bl,k1,k2⟩:=Du hrel hA cs ds i j vs h1 hk hr
   exact⟨bl,by simp only[eH];exact⟨vs,rfl,k1⟩,k2⟩
 | .aS cs,e,sh,own,u,h,hk,hr=>by
  simp only[fin] at h
  split at h
  ·cases h
  next ds i j h1=>
   simp at h;obtain⟨rfl,rfl,rfl⟩:=h
   simp only[Rep] at hr
   obtain⟨vs,rfl,hr⟩:=hr
   obtain⟨bl,k1,k2⟩:=Du hrel hA cs ds i j vs h1 hk hr
   exact⟨bl,by simp only[eH];exact⟨vs,rfl,k1⟩,k2⟩
 | .ow _ _ _,e,sh,own,u,h,_,_=>by simp[fin] at h
 | .ptr _ _,e,sh,own,u,h,_,_=>by simp[fin] at h
 | .pel _ _ _ _,e,sh,own,u,h,_,_=>by simp[fin] at h
 | .oc _,e,sh,own,u,h,_,_=>by simp[fin] at h
 | .shp _ _,e,sh,own,u,h,_,_=>by simp[fin] at h
 | .fn _ _,e,sh,own,u,h,_,_=>by simp[fin] at h
theorem Du (hrel:Rel w A β base σ tmps acts) {A':Nat→Prop} (hA:∀ k,A k→A' k):∀ (ds es:List D) (sh own:List Nat) (vs:List Value),fin.finL σ.bk ds=some (es,sh,own)→(∀ i∈sh,UO σ β A' i)→aH w A β ds vs→
  ∃ bl,jy w A' es vs bl∧kE w σ β own bl
 |[],es,sh,own,vs,h,_,hr=>by
  simp[fin.finL] at h;obtain⟨rfl,rfl,rfl⟩:=h
  simp[aH] at hr
  exact⟨[],by simp[jy,hr], .nil⟩
 |d::ds,es,sh,own,vs,h,hk,hr=>by
  simp only[fin.finL] at h
  split at h
  next e i j es' is js h1 h2=>
   simp at h;obtain⟨rfl,rfl,rfl⟩:=h
   simp only[aH] at hr
   obtain⟨x,xs,rfl,r1,r2⟩:=hr
   obtain⟨b1,k1,k2⟩:=TG hrel hA d e i j x h1 (fun z hz=>hk z (by simp[hz])) r1
   obtain⟨b2,k3,k4⟩:=Du hrel hA ds es' is js xs h2 (fun z hz=>hk z (by simp[hz])) r2
   exact⟨b1 ++ b2,by simp only[jy];exact⟨x,xs,b1,b2,rfl,rfl,k1,k3⟩,k2.append k4⟩
  ·cases h
end
theorem dU.GZ {A':Nat→Prop}:∀ (cs:List D) (vs:List Value),(∀ d∈cs,∀ u,aG w A' d u→eH w A' d u [])→dU w A' cs vs→jy w A' cs vs []
 |[],vs,_,h=>by simp only[dU] at h;simp[jy,h]
 |d::ds,vs,hd,h=>by
  simp only[dU] at h
  obtain⟨x,xs,rfl,h1,h2⟩:=h
  simp only[jy]
  exact⟨x,xs,[],[],rfl,rfl,hd d (by simp) x h1,dU.GZ ds xs (fun e he=>hd e (by simp[he])) h2⟩
mutual
theorem aG.WQ {A':Nat→Prop}:∀ (d:D) (u:Value),aG w A' d u→eH w A' d u []
 | .undef,_,h=>by simp only[eH];exact⟨h,trivial⟩
 | .v _,_,h=>by simp only[eH];exact⟨h,trivial⟩
 | .sh _ _,_,h=>by simp only[eH];exact⟨h,trivial⟩
 | .shp _ _,_,h=>by simp only[eH];exact⟨h,trivial⟩
 | .rc _,_,h=>by simp only[eH];exact⟨h,trivial⟩
 | .oc _,_,h=>by simp[aG] at h
 | .pel _ _ _ _,_,h=>by simp[aG] at h
 | .emp,_,h=>by simp only[eH];exact⟨h,trivial⟩
 | .fn _ _,_,h=>by simp only[eH];exact⟨h,trivial⟩
 | .ow _ _ _,_,h=>by simp[aG] at h
 | .sl _ _ _ _,_,h=>by simp[aG] at h
 | .ptr _ _,_,h=>by simp[aG] at h
 | .agg cs,u,h=>by
  simp only[aG] at h
  obtain⟨vs,rfl,h⟩:=h
  simp only[eH];exact⟨vs,rfl,dU.WQ cs vs h⟩
 | .aS cs,u,h=>by
  simp only[aG] at h
  obtain⟨vs,rfl,h⟩:=h
  simp only[eH];exact⟨vs,rfl,dU.WQ cs vs h⟩
theorem dU.WQ {A':Nat→Prop}:∀ (cs:List D) (vs:List Value),dU w A' cs vs→jy w A' cs vs []
 |[],vs,h=>by simp only[dU] at h;simp[jy,h]
 |d::ds,vs,h=>by
  simp only[dU] at h
  obtain⟨x,xs,rfl,h1,h2⟩:=h
  simp only[jy]
  exact⟨x,xs,[],[],rfl,rfl,aG.WQ d x h1,dU.WQ ds xs h2⟩
end
inductive Wy (bk:Nat→Option fK) (d e:D):Prop
 |own {sh own:List Nat}:fin bk d=some (e,sh,own)→own.Nodup→(own.all fun i=>!sh.contains i)=true→Wy bk d e
 |shared {sh:List Nat} {e0:D}:share bk depth d=some (e0,sh)→Reads e0 e→Wy bk d e
 |sharedT {sh:List Nat} {cs ds es:List D}:d= .aS cs→aW (share bk depth) cs=some (ds,sh)→iQ ds es→e= .aS es→Wy bk d e
theorem UH (hrel:Rel w A β base σ tmps acts) {d e:D} {u:Value} (h:Wy σ.bk d e) (hr:Rep w A β d u):
  ∃ A' bl,eH w A' e u bl∧Vb w A' base bl∧(∀ k,A k→A' k)∧(∀ k,A' k→k<w.heap.size)∧(∀ k,A' k→k<base→A k):=by
 have main:∀ (sh:List Nat),∃ A':Nat→Prop,(∀ k,A k→A' k)∧(∀ i∈sh,UO σ β A' i)∧(∀ k,A' k→k<w.heap.size)∧(∀ k,A' k→k<base→A k)∧∀ i b ad,i∉sh→σ.bk i=some b→b.ro=false→β i=some ad→¬ A' ad.block:=by
  intro sh
  refine⟨fun k=>A k∨∃ i∈sh,∃ b ad,σ.bk i=some b∧β i=some ad∧ad.block=k,fun k h=> .inl h,fun i hi b ad hb ha=> .inr ⟨i,hi,b,ad,hb,ha,rfl⟩,?_,?_,?_⟩
  ·rintro k (hk | ⟨i,_,b,ad,hb,ha,rfl⟩)
   ·exact hrel.low k hk
   ·exact vP hrel hb ha
  ·rintro k (hk | ⟨i,_,b,ad,hb,ha,rfl⟩) hlt
   ·exact hk
   ·rcases hrel.blk i b hb with⟨h1,_⟩ | ⟨ad',h1,h2⟩
    ·rw[ha] at h1;cases h1
    ·rw[ha] at h1;cases h1
     have:=h2.base
     omega
  ·rintro i b ad hi hb hro ha (hk | ⟨j,hj,b',ad',hb',ha',he⟩)
   ·rcases hrel.blk i b hb with⟨h1,_⟩ | ⟨ad2,h1,h2⟩
    ·rw[ha] at h1;cases h1
    ·rw[ha] at h1;cases h1
     exact h2.own hro hk
   ·exact hi (hrel.inj j i ad' ad (by simp[hb']) (by simp[hb]) ha' ha he▸hj)
 cases h with
 |shared h1 hrd=>
  rename_i sh e0
  obtain⟨A',k1,k2,k3,k4,_⟩:=main sh
  exact⟨A',[],aG.WQ _ _ (hrd _ _ _ (sK hrel k1 depth _ _ _ _ h1 k2 hr)),⟨(fun ad h=>by cases h), .nil⟩,k1,k3,k4⟩
 |sharedT hd h1 hrd he=>
  rename_i sh cs ds es
  subst hd he
  obtain⟨A',k1,k2,k3,k4,_⟩:=main sh
  simp only[Rep] at hr
  obtain⟨vs,rfl,hr⟩:=hr
  refine⟨A',[],?_,⟨(fun ad h=>by cases h), .nil⟩,k1,k3,k4⟩
  simp only[eH]
  exact⟨vs,rfl,dU.WQ _ _ (hrd.agO (mP (ok:=fun i=>UO σ β A' i) (fun d e ids u h1 h2 h3=>sK hrel k1 depth d e ids u h1 h2 h3) cs ds sh vs h1 k2 hr))⟩
 |own h1 hn ha=>
  rename_i sh own
  obtain⟨A',k1,k2,k3,k4,k5⟩:=main sh
  obtain⟨bl,r1,r2⟩:=TG hrel k1 d e sh own u h1 k2 hr
  refine⟨A',bl,r1,⟨fun ad had=>?_,r2.apart hrel hn⟩,k1,k3,k4⟩
  obtain⟨id,m1,b,a2,m2,m3,m4,m5⟩:=r2.mem ad had
  have hns:id∉sh:=by
   have:=List.all_eq_true.1 ha id m1
   simpa using this
  rcases hrel.blk id b m2 with⟨q1,_⟩ | ⟨a3,q1,q2⟩
  ·rw[m4] at q1;cases q1
  ·rw[m4] at q1;cases q1
   rw[m5]
   exact⟨q2.base,vP hrel m2 m4,k5 id b a2 hns m2 m3 m4⟩
def St.start (args:List D) (nt:Nat):St:={ (St.enter { fr:={ nt:=0,tm:=fun _=> .undef },stk:=[],bk:=fun _=>none } args nt) with stk:=[] }
theorem aaT {args:List D} {vs:List Value} (hargs:dU w A args vs) (low:∀ k,A k→k<w.heap.size) (glo:A7 w A) (nt:Nat):
  Rel w A (fun _=>none) w.heap.size (St.start args nt) (vs.toArray ++ Array.replicate (nt - vs.toArray.size) undef) []:=by
 have h0:Rel w A (fun _=>none) w.heap.size { fr:={ nt:=0,tm:=fun _=> .undef },stk:=[],bk:=fun _=>none } #[] []:=
  ⟨⟨rfl,fun t=>by simp[Rep,aG]⟩, .nil,(fun i b h=>by cases h),(fun i j a b h=>absurd rfl h),low,Nat.le_refl _,glo,trivial⟩
 have h1:=Dn h0 (dU.UJ args vs hargs) nt
 exact⟨h1.fr, .nil,h1.blk,h1.inj,h1.low,h1.top,h1.glo,trivial⟩
theorem Lm {F:FuncId→List D→D→Prop} (hF:∀ f as res,F f as res→CallsD P f as res) {f:FuncId} {fn:Func} {c:Code} (hb:l9 P f=some (fn,c)) {args:List D} {σ':St} {e:Ex} {ds:List D} {res:D}
  (hr:Runs P F (.code c) (St.start args fn.ntmps) e σ') (he:e= .normal∨e= .ret) (hres:resD P σ' fn.results.toList=some ds) (hfin:Wy σ'.bk (wu ds) res):CallsD P f args res:=by
 intro w A vs hargs low glo
 obtain⟨hfn,hbody,_⟩:=yj hb
 have hs:Sound P F (.code c) (St.start args fn.ntmps) e σ':=Xl hF hr
 refine(callsIn_wide (n:=0)).1 (callsIn_of_wp_marks (F:=FW none) hfn hbody trivial (hs none (.inl rfl) w A _ w.heap.size { tmps:=_,defers:=[] } [] _ (aaT hargs low glo fn.ntmps) ?_))
 intro a' w1 A' β' hd hrel1 ht1
 refine bodyEnd he (Nat.le_refl _) low hd rfl hrel1 ht1 (fun w' hrel ht=>?_)
 obtain⟨v,hv,hrep⟩:=wG hrel hres
 obtain⟨A2,bl,k1,k2,k3,k4,k5⟩:=UH hrel hfin hrep
 exact⟨v,hv,v,A2,bl,rfl,k1,k2,fun k hk=>k3 k (ht.grows k hk),k4,fun k hk hlt=>ht.old k (k5 k hk hlt) hlt,ht.below⟩
end
end Go.Dam
end
noncomputable section
namespace Go.Dam
open Go Go.RowKit
variable [iG]
def site (dep:Nat) (dst:Option Tmp):Nat:=(dep*4096+dst.getD 0)*32
def Bv (acc:List Nat):List Edge→Nat→Nat
 |[],s=>s
 |e::es,s=>Bv acc es (bif Region.binds .any e then Nat.lor (Nat.lor s (2 ^ e.on)) (acc.getD e.on 0) else s)
def GI:List Oper→List Nat→List Nat
 |[],acc=>acc
 |o::l,acc=>GI l (acc ++ [Bv acc o.after.toList 0])
def masks (R:Array Oper):List Nat:=GI R.toList []
def P8 (R:Array Oper) (i k:Nat):Bool:=Nat.testBit ((masks R).getD k 0) i
theorem Bo {acc:List Nat} {i:Nat}:∀ {es:List Edge} {s:Nat},Nat.testBit (Bv acc es s) i=true→Nat.testBit s i=true∨∃ e∈es,Region.binds .any e=true∧(i=e.on∨Nat.testBit (acc.getD e.on 0) i=true)
 |[],s,h=> .inl h
 |e::es,s,h=>by
  simp only[Bv] at h
  rcases Bo h with h | ⟨e',h1,h2,h3⟩
  ·cases hb:Region.binds .any e with
   |false=>rw[hb] at h;exact .inl h
   |true=>
    rw[hb,cond_true] at h
    have h:Nat.testBit ((s ||| 2 ^ e.on) ||| acc.getD e.on 0) i=true:=h
    rw[Nat.testBit_or,Nat.testBit_or,Bool.or_eq_true,Bool.or_eq_true] at h
    rcases h with(h | h) | h
    ·exact .inl h
    ·rw[Nat.testBit_two_pow] at h
     exact .inr ⟨e,by simp,hb, .inl (by simpa using (of_decide_eq_true h).symm)⟩
    ·exact .inr ⟨e,by simp,hb, .inr h⟩
  ·exact .inr ⟨e',by simp[h1],h2,h3⟩
theorem CG {R:Array Oper}:∀ (l:List Oper) (acc:List Nat),(∀ j,l[j]? =R[acc.length+j]?)→(∀ k i,Nat.testBit (acc.getD k 0) i=true→Vk R i k)→∀ k i,Nat.testBit ((GI l acc).getD k 0) i=true→Vk R i k
 |[],acc,_,h=>h
 |o::l,acc,hl,h=>by
  simp only[GI]
  refine CG l _ (fun j=>by have:=hl (j+1);simpa [Nat.add_assoc,Nat.add_comm 1 j] using this) fun k i hk=>?_
  have ho:R[acc.length]? =some o:=by simpa using (hl 0).symm
  rcases Nat.lt_trichotomy k acc.length with hlt | rfl | hgt
  ·rw[List.getD_eq_getElem?_getD,List.getElem?_append_left hlt,←List.getD_eq_getElem?_getD] at hk
   exact h k i hk
  ·rw[List.getD_eq_getElem?_getD,List.getElem?_append_right (Nat.le_refl _)] at hk
   simp only[Nat.sub_self,List.getElem?_cons_zero,Option.getD_some] at hk
   rcases Bo hk with hk | ⟨e,h1,h2,h3⟩
   ·simp at hk
   ·rcases h3 with rfl | h3
    ·exact .edge ho (by simpa using h1) h2
    ·exact .trans ho (by simpa using h1) h2 (h _ _ h3)
  ·rw[List.getD_eq_getElem?_getD,List.getElem?_append_right (by omega)] at hk
   have:([Bv acc o.after.toList 0]:List Nat)[k - acc.length]? =none:=by
    rw[List.getElem?_eq_none];simp;omega
   rw[this] at hk
   simp at hk
theorem yH {R:Array Oper} {i k:Nat} (h:P8 R i k=true):Vk R i k:=
 CG R.toList [] (fun j=>by simp) (fun k i h=>by simp at h) k i h
def maker:Op→Bool
 | .alloc _ | .box _ _ | .buildSlice _ _ _ | .makeSlice _ _ _ | .call ⟨.value _,_,_⟩ | .call ⟨.builtin .append,_,_⟩=>true
 |_=>false
def tB (R:Array Oper) (k:Nat):Bool:=(List.range R.size).all fun j=>bif Nat.blt j k then P8 R j k else bif Nat.beq j k then true else P8 R k j
def fO (R:Array Oper) (k:Nat):Bool:=match R[k]? with
 |none=>false
 |some o=>maker o.op && !tB R k
def Nr (R:Array Oper) (k:Nat):Nat:=match R[k]? with
 |none=>0
 |some o=>o.dst.getD 0
def wB (R:Array Oper) (k l:Nat):Bool:=!(Nat.beq l k) && !(P8 R l k)
def Ei (P:Program) (R:Array Oper) (k:Nat):Nat:=match R[k]? with | some o=>kindOf P o.op | none=>0
def sL (P:Program) (R:Array Oper) (k:Nat):List Nat:=bif Nat.beq (Ei P R k) 0 then[] else(List.range R.size).filter fun j=>Nat.blt k j && (!(P8 R k j) && Nat.beq (Ei P R j) 2)
def uB (P:Program) (R:Array Oper) (j:Nat):Bool:=(List.range R.size).any fun k=>(sL P R k).contains j
def JH (R:Array Oper) (tgt:List Nat) (k:Nat):Bool:=!(Nat.beq (tgt.getD k 0) 0) && (match R[k]? with
 |some o=>match o.op with
  | .call ⟨.builtin .append,_,_⟩=>true
  |_=>false
 |none=>false)
def gL (P:Program) (R:Array Oper) (tgt:List Nat) (k:Nat):List Nat:=bif Nat.beq (Ei P R k) 0 then[] else(List.range R.size).filter fun j=>JH R tgt j && (!(Nat.beq j k) && (!(P8 R k j) && !(P8 R j k)))
theorem al4 (P:Program) (R:Array Oper) (k:Nat):gL P R [] k=[]:=by
 unfold gL
 cases Nat.beq (Ei P R k) 0
 ·rw[cond_false,List.filter_eq_nil_iff]
  intro j _;simp[JH]
 ·rfl
def cu (P:Program) (R:Array Oper) (dep:Nat) (tgt:List Nat):Plan where
 zs:=fun k=>bif fO R k then List.range' ((dep*4096+Nr R k)*32) 32 else[]
 W:=wB R
 T:=tB R
 S:=fun k=>sL P R k ++ gL P R tgt k
 U:=uB P R
 tgt:=fun k=>tgt.getD k 0
 Gr:=JH R tgt
def adw (k:Nat) (o:Oper):Bool:=o.after.toList.all fun e=>!(Region.binds .any e) || Nat.blt e.on k
def JK (P:Program) (R:Array Oper) (p:Plan) (j:Nat) (oj:Oper):Nat→List Oper→Bool
 |_,[]=>true
 |i,oi::l=>(P8 R i j || Jp P R p i j oi oj) && JK P R p j oj (i+1) l
def O6 (P:Program) (R:Array Oper) (p:Plan):Nat→List Oper→Bool
 |_,[]=>true
 |j,oj::l=>adw j oj && (JK P R p j oj 0 (R.toList.take j) && O6 P R p (j+1) l)
def ao5 (R:Array Oper):Bool:=(List.range R.size).all fun i=>!(fO R i) || (List.range R.size).all fun j=>Nat.beq i j || (!(fO R j) || !(Nat.beq (Nr R i) (Nr R j)))
def afM (P:Program) (R:Array Oper):Bool:=O6 P R (cu P R 0 []) 0 R.toList && ao5 R
section
variable {P:Program} {R:Array Oper}
theorem EI {p:Plan} {j:Nat} {oj:Oper}:∀ {l:List Oper} {i:Nat},JK P R p j oj i l=true→∀ k o,l[k]? =some o→P8 R (i+k) j=true∨Jp P R p (i+k) j o oj=true
 |[],_,_,k,o,h=>by simp at h
 |oi::l,i,h,k,o,hk=>by
  simp only[JK,Bool.and_eq_true,Bool.or_eq_true] at h
  cases k with
  |zero=>simp at hk;subst hk;exact h.1
  |succ k=>
   have:=EI h.2 k o (by simpa using hk)
   rwa[show i+1+k=i+(k+1) by omega] at this
theorem wX {p:Plan}:∀ {l:List Oper} {j:Nat},O6 P R p j l=true→∀ k o,l[k]? =some o→adw (j+k) o=true∧JK P R p (j+k) o 0 (R.toList.take (j+k))=true
 |[],_,_,k,o,h=>by simp at h
 |oj::l,j,h,k,o,hk=>by
  simp only[O6,Bool.and_eq_true] at h
  cases k with
  |zero=>simp at hk;subst hk;exact⟨h.1,h.2.1⟩
  |succ k=>
   have:=wX h.2.2 k o (by simpa using hk)
   rwa[show j+1+k=j+(k+1) by omega] at this
theorem Aq {k:Nat} (h:fO R k=true):k<R.size:=by
 unfold fO at h
 split at h
 ·cases h
 next o ho=>exact(Array.getElem?_eq_some_iff.1 ho).1
theorem YV (dep:Nat) (tgt:List Nat) (h:afM P R=true):oM P R (cu P R dep tgt):=by
 simp only[afM,Bool.and_eq_true] at h
 obtain⟨hp,hd⟩:=h
 refine⟨?_,?_,?_,?_,?_⟩
 ·intro k o hk e he hb
  have:=(wX hp k o (by simpa using hk)).1
  simp only[adw,Nat.zero_add,List.all_eq_true] at this
  have:=this e (by simpa using he)
  simpa [hb,Nat.blt_eq] using this
 ·intro i j oi oj hij hi hj
  have:=(wX hp j oj (by simpa using hj)).2
  simp only[Nat.zero_add] at this
  have h2:=EI this i oi (by rw[List.getElem?_take_of_lt hij];simpa using hi)
  simp only[Nat.zero_add] at h2
  rcases h2 with h2 | h2
  ·exact .inl (yH h2)
  ·right
   have hc:(sL P R i ++ gL P R [] i).contains j=true→(sL P R i ++ gL P R tgt i).contains j=true:=fun h=>by
    rw[al4,List.append_nil] at h
    simp only[List.contains_iff_mem,List.mem_append] at h ⊢
    exact .inl h
   simp only[cu,Jp,Bool.and_eq_true,Bool.or_eq_true] at h2 ⊢
   obtain⟨b1,b2,b3,b4,b5,b6⟩:=h2
   refine⟨b1,b2,b3,b4,b5,?_⟩
   rcases b6 with b | b | ⟨b,c,d⟩ | b
   ·exact .inl b
   ·exact .inr (.inl b)
   ·exact .inr (.inr (.inl ⟨b,hc c,d⟩))
   ·exact .inr (.inr (.inr b))
 ·intro i j hij id hi hj
  simp only[cu] at hi hj
  cases mi:fO R i with
  |false=>rw[mi,cond_false] at hi;cases hi
  |true=>
   cases mj:fO R j with
   |false=>rw[mj,cond_false] at hj;cases hj
   |true=>
    rw[mi,cond_true,List.mem_range'_1] at hi;rw[mj,cond_true,List.mem_range'_1] at hj
    simp only[ao5,List.all_eq_true,List.mem_range,Bool.or_eq_true,Bool.not_eq_true'] at hd
    have h1:=hd i (Aq mi)
    rw[mi] at h1
    rcases h1 with h1 | h1
    ·cases h1
    ·have h2:=h1 j (Aq mj)
     rw[mj] at h2
     rcases h2 with h2 | h2 | h2
     ·exact hij (Nat.eq_of_beq_eq_true h2)
     ·cases h2
     ·have:Nr R i≠Nr R j:=fun e=>by rw[e,Nat.beq_refl] at h2;cases h2
      omega
 ·intro k l hne hna
  simp only[cu,wB,Bool.and_eq_true,Bool.not_eq_true']
  refine⟨Bool.eq_false_iff.2 fun e=>hne (Nat.eq_of_beq_eq_true e),Bool.eq_false_iff.2 fun e=>hna (yH e)⟩
 ·intro i j oi hne hi hj ha hb hg
  by_cases h0:kindOf P oi.op=0
  ·exact .inl h0
  right
  have hk:Nat.beq (Ei P R i) 0=false:=by
   rw[Bool.eq_false_iff];intro e
   have:=Nat.eq_of_beq_eq_true e
   simp only[Ei,hi] at this;exact h0 this
  refine List.mem_append.2 (.inr ?_)
  unfold gL
  rw[hk,cond_false,List.mem_filter,List.mem_range]
  refine⟨hj,?_⟩
  simp only[Bool.and_eq_true,Bool.not_eq_true']
  exact⟨hg,Bool.eq_false_iff.2 fun e=>hne (Nat.eq_of_beq_eq_true e).symm,Bool.eq_false_iff.2 fun e=>ha (yH e),Bool.eq_false_iff.2 fun e=>hb (yH e)⟩
end
noncomputable section
theorem FH (g:Nat→List D) (m:Nat) (hg:∀ i,(g i).length=m):∀ (n i j:Nat),i<n→j<m→((List.range n).flatMap g)[i*m+j]? =(g i)[j]?
 |0,i,j,h,_=>by omega
 |n+1,i,j,h,hj=>by
  have hl:∀ n,((List.range n).flatMap g).length=n*m:=fun n=>by
   rw[List.length_flatMap];simp only[hg];simp[List.map_const']
  rw[List.range_succ,List.flatMap_append]
  simp only[List.flatMap_cons,List.flatMap_nil,List.append_nil]
  by_cases hi:i<n
  ·have:i*m+j<n*m:=by
    have:(i+1)*m≤n*m:=Nat.mul_le_mul_right m hi
    rw[Nat.add_mul] at this;omega
   rw[List.getElem?_append_left (by rw[hl];exact this)]
   exact FH g m hg n i j hi hj
  ·obtain rfl:i=n:=by omega
   rw[List.getElem?_append_right (by rw[hl];omega),hl]
   congr 1;omega
theorem mF {cols:List ay} {i j:Nat} {c:ay} (hi:i<af cols) (hc:cols[j]? =some c):(aC cols)[i*cols.length+j]? =some (.v (c.val i)):=by
 have hj:j<cols.length:=(List.getElem?_eq_some_iff.1 hc).1
 unfold aC jh
 rw[fU]
 rw[FH _ cols.length (fun i=>by simp) _ _ _ hi hj]
 simp only[List.getElem?_map,hc,Option.map_some]
 cases c<;>rfl
theorem bn (cols:List ay):(aC cols).length=af cols*cols.length:=by
 unfold aC;rw[uZ,fU,List.length_map]
theorem mG {cols:List ay} (m:Nat):(aC cols)[m]? =if m<af cols*cols.length then(cols[m%cols.length]?).map (fun c=> .v (c.val (m / cols.length))) else none:=by
 split
 next h=>
  have hl:0<cols.length:=by
   rcases Nat.eq_zero_or_pos cols.length with e | e
   ·rw[e] at h;simp at h
   ·exact e
  have hm:m%cols.length<cols.length:=Nat.mod_lt _ hl
  have hd:m / cols.length<af cols:=by
   rw[Nat.div_lt_iff_lt_mul hl];exact h
  have hc:cols[m%cols.length]? =some cols[m%cols.length]:=List.getElem?_eq_getElem hm
  have:=mF hd hc
  rw[Nat.mul_comm,Nat.div_add_mod] at this
  rw[this,hc];rfl
 next h=>exact List.getElem?_eq_none (by rw[bn];omega)
def ay.of:ay→List D→Option ay
 | .ints k _,[]=>some (.ints k [])
 | .ints k ys, .v (.int k' n)::ds=>match ay.of (.ints k ys) ds with
  |some (.ints k2 xs)=>if k'=k∧k2=k then some (.ints k (n::xs)) else none
  |_=>none
 | .bools _,[]=>some (.bools [])
 | .bools ys, .v (.bool b)::ds=>match ay.of (.bools ys) ds with
  |some (.bools xs)=>some (.bools (b::xs))
  |_=>none
 |_,_=>none
theorem ay.AZ:∀ {ds:List D} {c c':ay},c.of ds=some c'→c'.len=ds.length∧∀ k,k<ds.length→ds[k]? =some (D.v (c'.val k))
 |[],c,c',h=>by
  cases c<;>simp[ay.of] at h<;>subst h<;>exact⟨rfl,fun k hk=>by simp at hk⟩
 |d::ds,c,c',h=>by
  cases c with
  |ints k ys=>
   unfold ay.of at h
   split at h
   ·simp_all
   next k1 ys1 k' n ds1 e1 e2=>
    simp at e1 e2
    obtain⟨rfl,rfl⟩:=e1
    obtain⟨rfl,rfl⟩:=e2
    split at h
    next k2 xs hx=>
     split at h
     next ek=>
      obtain⟨ek,ek2⟩:=ek
      simp at h;subst h;subst ek;subst ek2
      obtain⟨a1,a2⟩:=ay.AZ hx
      refine⟨by simp[ay.len] at a1 ⊢;exact a1,fun m hm=>?_⟩
      cases m with
      |zero=>rfl
      |succ m=>
       have:=a2 m (by simpa using hm)
       simpa [ay.val,List.getD_eq_getElem?_getD] using this
     ·cases h
    ·cases h
   ·simp_all
   ·simp_all
   ·cases h
  |bools ys=>
   unfold ay.of at h
   split at h
   ·simp_all
   ·simp_all
   ·simp_all
   next ys1 b ds1 e1 e2=>
    simp at e1 e2
    subst e1
    obtain⟨rfl,rfl⟩:=e2
    split at h
    next xs hx=>
     simp at h;subst h
     obtain⟨a1,a2⟩:=ay.AZ hx
     refine⟨by simp[ay.len] at a1 ⊢;exact a1,fun m hm=>?_⟩
     cases m with
     |zero=>rfl
     |succ m=>
      have:=a2 m (by simpa using hm)
      simpa [ay.val,List.getD_eq_getElem?_getD] using this
    ·cases h
   ·cases h
theorem ay.of_cells {cs:List D} {c c1:ay} (ho:c.of cs=some c1):aC [c1]=cs:=by
 obtain⟨a1,a2⟩:=ay.AZ ho
 apply List.ext_getElem?
 intro k
 rw[mG]
 have e1:af [c1]=cs.length:=a1
 rw[e1]
 simp only[List.length_cons,List.length_nil,Nat.zero_add,Nat.mul_one,Nat.mod_one,Nat.div_one]
 by_cases hk:k<cs.length
 ·rw[if_pos hk,a2 k hk];rfl
 ·rw[if_neg hk];exact(List.getElem?_eq_none (by omega)).symm
end
theorem jD {i j:Nat} (h:i≠j):Nat.beq i j=false:=by
 rw[Bool.eq_false_iff];intro e;exact h (Nat.eq_of_beq_eq_true e)
theorem iy (i:Nat):Nat.beq i i=true:=Nat.beq_refl i
noncomputable section
inductive TT where
 |lf
 |nd (d:D) (l r:TT)
def TT.top:TT→D:=TT.rec .undef (fun d _ _ _ _=>d)
def TT.kid (b:Bool):TT→TT:=TT.rec .lf (fun _ l r _ _=>bif b then r else l)
def TT.get (p:List Bool):TT→D:=List.rec (motive:=fun _=>TT→D) (fun t=>t.top) (fun b _ ih t=>ih (t.kid b)) p
def TT.set (d:D) (p:List Bool):TT→TT:=
 List.rec (motive:=fun _=>TT→TT) (fun t=> .nd d (t.kid false) (t.kid true)) (fun b _ ih t=> .nd t.top (bif b then t.kid false else ih (t.kid false)) (bif b then ih (t.kid true) else t.kid true)) p
def TT.map (f:D→D):TT→TT:=TT.rec .lf (fun d _ _ l r=> .nd (f d) l r)
def JM (k:Nat):Nat→List Bool:=
 Nat.rec (motive:=fun _=>Nat→List Bool) (fun _=>[]) (fun _ ih n=>bif Nat.beq n 0 then[] else bif Nat.beq (n%2) 1 then false::ih (n / 2) else true::ih (n / 2 - 1)) k
def path (n:Nat):List Bool:=JM (n+1) n
def dec:List Bool→Nat
 |[]=>0
 |false::p=>1+2*dec p
 |true::p=>2+2*dec p
theorem Ec:∀ (k n:Nat),n<k→dec (JM k n)=n
 |0,n,h=>by omega
 |k+1,n,h=>by
  show dec (bif Nat.beq n 0 then[] else bif Nat.beq (n%2) 1 then false::JM k (n / 2) else true::JM k (n / 2 - 1))=n
  by_cases h0:n=0
  ·subst h0;rfl
  ·rw[jD h0,cond_false]
   by_cases h1:n%2=1
   ·rw[h1,iy,cond_true,dec,Ec k _ (by omega)];omega
   ·rw[jD h1,cond_false,dec,Ec k _ (by omega)];omega
theorem J9 (n:Nat):dec (path n)=n:=Ec _ _ (Nat.lt_succ_self n)
theorem Rx {m n:Nat} (h:path m=path n):m=n:=by rw[←J9 m,h,J9]
theorem sZ:∀ (k n:Nat),(JM k n).length≤n
 |0,n=>Nat.zero_le _
 |k+1,n=>by
  show(bif Nat.beq n 0 then[] else bif Nat.beq (n%2) 1 then false::JM k (n / 2) else true::JM k (n / 2 - 1)).length≤n
  by_cases h0:n=0
  ·subst h0;exact Nat.zero_le _
  ·rw[jD h0,cond_false]
   by_cases h1:n%2=1
   ·rw[h1,iy,cond_true,List.length_cons];have:=sZ k (n / 2);omega
   ·rw[jD h1,cond_false,List.length_cons];have:=sZ k (n / 2 - 1);omega
theorem TT.Gu (d:D):∀ (p q:List Bool) (t:TT),(t.set d p).get q=if q=p then d else t.get q
 |[],[],t=>rfl
 |[],b::q,t=>by
  rw[if_neg (by simp)]
  show TT.get q (TT.kid b (.nd d (t.kid false) (t.kid true)))=TT.get q (t.kid b)
  cases b<;>rfl
 |b::p,[],t=>by rw[if_neg (by simp)];rfl
 |b::p,c::q,t=>by
  show TT.get q (TT.kid c (.nd t.top (bif b then t.kid false else(t.kid false).set d p) (bif b then(t.kid true).set d p else t.kid true)))=if c::q=b::p then d else TT.get q (t.kid c)
  have e:∀ x:TT,(if q=p then d else TT.get q x)=TT.get q (x.set d p):=fun x=>(TT.Gu d p q x).symm
  cases b<;>cases c
  ·show TT.get q ((t.kid false).set d p)=_
   rw[←e];simp
  ·show TT.get q (t.kid true)=_
   rw[if_neg (by simp)]
  ·show TT.get q (t.kid false)=_
   rw[if_neg (by simp)]
  ·show TT.get q ((t.kid true).set d p)=_
   rw[←e];simp
theorem TT.kid_map (f:D→D) (b:Bool) (t:TT):(t.map f).kid b=(t.kid b).map f:=by
 cases t with
 |lf=>rfl
 |nd d l r=>cases b<;>rfl
theorem TT.get_map {f:D→D} (hf:f .undef= .undef):∀ (p:List Bool) (t:TT),(t.map f).get p=f (t.get p)
 |[],t=>by cases t with
  |lf=>exact hf.symm
  |nd d l r=>rfl
 |b::p,t=>by
  show TT.get p ((t.map f).kid b)=f (TT.get p (t.kid b))
  rw[TT.kid_map,TT.get_map hf p]
def TT.mk (val:Nat→D) (k:Nat):Nat→Nat→TT:=
 Nat.rec (motive:=fun _=>Nat→Nat→TT) (fun _ _=> .lf) (fun _ ih o s=> .nd (val o) (ih (o+s) (2*s)) (ih (o+2*s) (2*s))) k
theorem TT.VK (val:Nat→D):∀ (p:List Bool) (k o s:Nat),(TT.mk val k o s).get p=if p.length<k then val (o+s*dec p) else .undef
 |[],0,o,s=>rfl
 |[],k+1,o,s=>by rw[if_pos (by simp)];show val o=val (o+s*0);rw[Nat.mul_zero,Nat.add_zero]
 |b::p,0,o,s=>by
  rw[if_neg (by simp)]
  show TT.get p (TT.kid b .lf)= .undef
  have:∀ p,TT.get p .lf= .undef:=fun p=>by
   induction p with
   |nil=>rfl
   |cons b p ih=>exact ih
  exact this p
 |b::p,k+1,o,s=>by
  show TT.get p (TT.kid b (.nd (val o) (TT.mk val k (o+s) (2*s)) (TT.mk val k (o+2*s) (2*s))))=_
  have e:(b::p).length<k+1↔p.length<k:=by simp
  have m:s*(2*dec p)=2*s*dec p:=by rw[←Nat.mul_assoc,Nat.mul_comm s 2]
  cases b
  ·show TT.get p (TT.mk val k (o+s) (2*s))=_
   rw[TT.VK val p k]
   simp only[e,dec,Nat.mul_add,Nat.mul_one,m,Nat.add_assoc]
  ·show TT.get p (TT.mk val k (o+2*s) (2*s))=_
   rw[TT.VK val p k]
   simp only[e,dec,Nat.mul_add,m,Nat.add_assoc,Nat.mul_comm s 2]
def JG (args:List D) (nt n:Nat):D:=match args[n]? with
 |some d=>d
 |none=>bif Nat.blt n nt then .v undef else .undef
inductive BX where
 |cells (cs:List D) (ro:Bool)
 |row (cols:List ay) (ro:Bool)
def BX.blk:BX→fK
 | .cells cs ro=>⟨cs,ro⟩
 | .row cols ro=>⟨aC cols,ro⟩
def BX.re (cols:List ay) (cs:List D):BX:=match cols with
 |[c]=>match c.of cs with
  |some c1=> .row [c1] false
  |none=> .cells cs false
 |_=> .cells cs false
theorem BX.ady (cols:List ay) (cs:List D):(BX.re cols cs).blk=⟨cs,false⟩:=by
 unfold BX.re
 split
 ·split
  next ho=>simp only[BX.blk];rw[ay.of_cells ho]
  ·rfl
 ·rfl
def BX.forget (i:Nat):BX→BX
 | .cells cs ro=> .cells (cs.map (D.forget i)) ro
 | .row cols ro=> .row cols ro
def BX.wipe (q:Nat→Bool):BX→BX
 | .cells cs ro=> .cells (cs.map (D.wipe q)) ro
 | .row cols ro=> .row cols ro
def BX.freeze:BX→BX
 | .cells cs _=> .cells cs true
 | .row cols _=> .row cols true
structure Cs where
 tm:TT
 nt:Nat
 stk:List (TT×Nat)
 bk:List (Nat×BX)
 loop:Option kV:=none
 gen:Nat:=0
inductive Cast where
 |nil (t id sz:Nat) (cols:List ay)
 |cells (id:Nat) (c:ay)
 |cnil (b off id sz:Nat) (cols:List ay)
 |cut (id k:Nat)
inductive PE where
 |k (l:List Cast)
 |q (l:List Cast)
 |c (n:Nat)
 |d (b:Bool)
 |u
 |l (keep:List (List Nat)) (ren:List (Nat×Nat)) (c0:Cs) (e:Ex) (c1:Cs)
structure Cf extends Cs where
 todo:List PE:=[]
 cds:List Prop:=[]
def aJ:List Prop→Prop
 |[]=>True
 |p::l=>p∧aJ l
theorem aZ:∀ (l m:List Prop),aJ (l ++ m)↔aJ l∧aJ m
 |[],m=>by simp[aJ]
 |p::l,m=>by simp[aJ,aZ l m,and_assoc]
def Fb (c:Cf):Nat:=c.stk.length
def dA (i:Nat):List (Nat×BX)→Option BX
 |[]=>none
 |(j,b)::l=>bif Nat.beq j i then some b else dA i l
def dQ (i:Nat) (l:List (Nat×BX)):Option fK:=(dA i l).map BX.blk
def JS (i:Nat) (b:BX):List (Nat×BX)→List (Nat×BX)
 |[]=>[(i,b)]
 |(j,c)::l=>bif Nat.beq j i then(j,b)::l else(j,c)::JS i b l
def je (i:Nat):List (Nat×BX)→List (Nat×BX)
 |[]=>[]
 |(j,c)::l=>bif Nat.beq j i then je i l else(j,c.forget i)::je i l
def roB (ids:List Nat):List (Nat×BX)→List (Nat×BX)
 |[]=>[]
 |(j,c)::l=>(j,bif ids.contains j then c.freeze else c)::roB ids l
def jS (f:TT×Nat):Fr:={ nt:=f.2,tm:=fun t=>f.1.get (path t) }
def Cs.get (c:Cs) (t:Nat):D:=c.tm.get (path t)
def Cs.abs (c:Cs):St:={ fr:=jS (c.tm,c.nt),stk:=c.stk.map jS,bk:=fun i=>dQ i c.bk,loop:=c.loop }
abbrev Cf.abs (c:Cf):St:=c.toCs.abs
theorem gI {cols:List ay} {d:D} (h:d∈aC cols):∃ x,d= .v x:=by
 simp only[aC,jh,List.mem_flatMap,List.mem_map,List.map_map,Function.comp] at h
 obtain⟨i,_,c,_,rfl⟩:=h
 cases c<;>exact⟨_,rfl⟩
theorem gQ (i:Nat) (cols:List ay):(aC cols).map (D.forget i)=aC cols:=by
 refine(List.map_congr_left fun d hd=>?_).trans (List.map_id _)
 obtain⟨x,rfl⟩:=gI hd
 rfl
theorem Jb (q:Nat→Bool) (cols:List ay):(aC cols).map (D.wipe q)=aC cols:=by
 refine(List.map_congr_left fun d hd=>?_).trans (List.map_id _)
 obtain⟨x,rfl⟩:=gI hd
 rfl
theorem BX.XA (i:Nat) (b:BX):(b.forget i).blk=b.blk.forget i:=by
 cases b with
 |cells cs ro=>rfl
 |row cols ro=>simp only[BX.forget,BX.blk,fK.forget,gQ]
theorem BX.ac0 (q:Nat→Bool) (b:BX):(b.wipe q).blk=b.blk.wipe q:=by
 cases b with
 |cells cs ro=>rfl
 |row cols ro=>simp only[BX.wipe,BX.blk,fK.wipe,Jb]
theorem BX.Vp (b:BX):b.freeze.blk={ b.blk with ro:=true }:=by cases b<;>rfl
theorem Nl (i:Nat) (b:BX) (j:Nat):∀ l,dA j (JS i b l)=if j=i then some b else dA j l
 |[]=>by
  by_cases h:j=i
  ·subst h;simp[JS,dA,iy]
  ·simp[JS,dA,h,jD (Ne.symm h)]
 |(k,c)::l=>by
  simp only[JS]
  by_cases hk:k=i
  ·subst hk
   rw[iy,cond_true]
   by_cases h:j=k
   ·subst h;simp[dA,iy]
   ·simp[h,dA,jD (Ne.symm h)]
  ·rw[jD hk,cond_false]
   simp only[dA,Nl i b j l]
   by_cases h:j=i
   ·subst h;simp[jD hk]
   ·simp[h]
theorem zn (i j:Nat):∀ l,dA j (je i l)=if j=i then none else(dA j l).map (BX.forget i)
 |[]=>by simp[je,dA]
 |(k,c)::l=>by
  simp only[je]
  by_cases hk:k=i
  ·subst hk
   rw[iy,cond_true,zn k j l]
   by_cases h:j=k
   ·subst h;simp
   ·simp[h,dA,jD (Ne.symm h)]
  ·rw[jD hk,cond_false]
   simp only[dA,zn i j l]
   by_cases h:k=j
   ·subst h;simp[iy,hk]
   ·simp[jD h]
theorem UQ (ids:List Nat) (j:Nat):∀ l,dA j (roB ids l)=if j∈ids then(dA j l).map BX.freeze else dA j l
 |[]=>by simp[roB,dA]
 |(k,c)::l=>by
  simp only[roB,dA,UQ ids j l]
  by_cases h:k=j
  ·subst h
   simp only[iy,cond_true]
   by_cases hm:k∈ids<;>simp[hm]
  ·simp only[jD h,cond_false]
theorem aam (i:Nat) (b:BX) (j:Nat) (l:List (Nat×BX)):dQ j (JS i b l)=if j=i then some b.blk else dQ j l:=by
 unfold dQ;rw[Nl];split<;>rfl
theorem Xy (i j:Nat) (l:List (Nat×BX)):dQ j (je i l)=if j=i then none else(dQ j l).map (fK.forget i):=by
 unfold dQ;rw[zn];split
 ·rfl
 ·simp only[Option.map_map];congr 1;funext b;exact BX.XA i b
theorem acM (ids:List Nat) (j:Nat) (l:List (Nat×BX)):dQ j (roB ids l)=if j∈ids then(dQ j l).map fun b=>{ b with ro:=true } else dQ j l:=by
 unfold dQ;rw[UQ];split
 ·simp only[Option.map_map];congr 1;funext b;exact BX.Vp b
 ·rfl
def Cf.put (c:Cf) (dst:Option Tmp) (d:D):Cf:=
 match dst with
 |some t=>{ c with tm:=c.tm.set (bif Nat.blt t c.nt then d else .undef) (path t) }
 |none=>c
def Cf.forget (c:Cf) (i:Nat):Cf:={ tm:=c.tm.map (D.forget i),nt:=c.nt,stk:=c.stk.map fun f=>(f.1.map (D.forget i),f.2),bk:=je i c.bk,loop:=if i=eu then none else c.loop,gen:=c.gen,todo:=c.todo,cds:=c.cds }
def Cf.setB (c:Cf) (i:Nat) (b:BX):Cf:={ c with bk:=JS i b c.bk }
def Cf.gB (c:Cf) (ids:List Nat):Cf:={ c with bk:=roB ids c.bk }
def Cf.enter (c:Cf) (args:List D) (nt:Nat):Cf:={ tm:=TT.mk (JG args (args.length+(nt - args.length))) (args.length+(nt - args.length)+1) 0 1,nt:=args.length+(nt - args.length),stk:=(c.tm,c.nt)::c.stk,bk:=c.bk,loop:=c.loop,gen:=c.gen,todo:=c.todo,cds:=c.cds }
def Cf.NG (c:Cf) (l:List Prop):Cf:={ c with cds:=l ++ c.cds }
theorem Rw (f:TT) (nt t:Nat) (d:D):jS (f.set (bif Nat.blt t nt then d else .undef) (path t),nt)=(jS (f,nt)).put t d:=by
 simp only[jS,Fr.put]
 congr 1
 funext i
 rw[TT.Gu]
 by_cases h:i=t
 ·subst h
  rw[if_pos rfl,if_pos rfl]
  have key:∀ (inst:Decidable (i<nt)),(bif i.blt nt then d else D.undef)=@ite D (i<nt) inst d .undef:=by
   intro inst
   by_cases hl:i<nt
   ·rw[if_pos hl,show Nat.blt i nt=true by simpa [Nat.blt_eq] using hl];rfl
   ·rw[if_neg hl,show Nat.blt i nt=false by rw[Bool.eq_false_iff];simpa [Nat.blt_eq] using hl];rfl
  exact key _
 ·rw[if_neg h,if_neg (fun e=>h (Rx e))]
theorem cZ (c:Cf) (dst:Option Tmp) (d:D):(c.put dst d).abs=c.abs.put dst d:=by
 cases dst with
 |none=>rfl
 |some t=>simp only[Cf.put,Cf.abs,Cs.abs,St.put,Rw]
theorem Fa (i:Nat) (f:TT×Nat):jS (f.1.map (D.forget i),f.2)=(jS f).forget i:=by
 simp only[jS,Fr.forget]
 congr 1
 funext t
 exact TT.get_map rfl _ _
theorem dN (c:Cf) (i:Nat):(c.forget i).abs=c.abs.forget i:=by
 simp only[Cf.forget,Cf.abs,Cs.abs,St.forget,List.map_map]
 congr 1
 ·exact Fa i (c.tm,c.nt)
 ·congr 1
  funext f
  exact Fa i f
 ·funext j
  exact Xy i j c.bk
theorem bW (c:Cf) (i:Nat) (b:BX):(c.setB i b).abs=c.abs.setB i b.blk:=by
 simp only[Cf.setB,Cf.abs,Cs.abs,St.setB]
 congr 1
 funext j
 exact aam i b j c.bk
theorem afN (c:Cf) (ids:List Nat):(c.gB ids).abs=c.abs.gB ids:=by
 simp only[Cf.gB,Cf.abs,Cs.abs,St.gB]
 congr 1
 funext j
 exact acM ids j c.bk
theorem PO (args:List D) (nt:Nat):jS (TT.mk (JG args (args.length+(nt - args.length))) (args.length+(nt - args.length)+1) 0 1,args.length+(nt - args.length)) =
  { nt:=args.length+(nt - args.length),tm:=fun t=>(args ++ List.replicate (nt - args.length) (D.v undef)).getD t .undef }:=by
 simp only[jS]
 congr 1
 funext t
 rw[TT.VK,J9,Nat.zero_add,Nat.one_mul]
 have hlen:(path t).length≤t:=sZ (t+1) t
 rw[List.getD_eq_getElem?_getD,List.getElem?_append,List.getElem?_replicate]
 by_cases h1:t<args.length
 ·have hp:(path t).length<args.length+(nt - args.length)+1:=by omega
  rw[if_pos hp,if_pos h1]
  simp[JG,h1]
 ·rw[if_neg h1]
  by_cases h2:t<args.length+(nt - args.length)
  ·have hp:(path t).length<args.length+(nt - args.length)+1:=by omega
   have h3:t - args.length<nt - args.length:=by omega
   rw[if_pos hp,if_pos h3]
   simp[JG,h1,show Nat.blt t (args.length+(nt - args.length))=true by simpa [Nat.blt_eq] using h2]
  ·have h3:¬ (t - args.length<nt - args.length):=by omega
   rw[if_neg h3]
   split
   ·simp[JG,h1,show Nat.blt t (args.length+(nt - args.length))=false by rw[Bool.eq_false_iff];simpa [Nat.blt_eq] using h2]
   ·rfl
theorem aaL (c:Cf) (args:List D) (nt:Nat):(c.enter args nt).abs=c.abs.enter args nt:=by
 simp only[Cf.enter,Cf.abs,Cs.abs,St.enter,List.map_cons]
 congr 1
 exact PO args nt
@[simp] theorem jO (c:Cf) (l:List Prop):(c.NG l).abs=c.abs:=rfl
def ig (c:Cs):Operand→D
 | .tmp t=>c.get t
 | .const v=>D.oV v
 | .global g=>acJ (iG.g g)
 | .func f=> .fn f []
theorem dY (c:Cs):ig c=bP c.abs:=by
 funext x;cases x<;>rfl
def Cs.look (c:Cs):Nat→Option fK:=fun i=>dQ i c.bk
def nK (c:Cf) (dst:Option Tmp) (id:Nat):Eff→Option Cf
 | .val d=>some (c.put dst d)
 | .box cs=>some (((c.forget id).setB id (.cells (cs.map (D.forget id)) false)).put dst (.ptr id 0))
 | .row cs n sz=>some (((c.forget id).setB id (.cells (cs.map (D.forget id)) false)).put dst (.sl id 0 n ⟨sz,0⟩))
 | .row0=>some (c.put dst .emp)
 | .sto i off ds=>match dA i c.bk with
  |some (.cells cells false)=>if off+ds.length≤cells.length then some ((c.setB i (.cells (splice cells off ds) false)).put dst (.v undef)) else none
  |_=>none
 | .cpy i off ds u=>match dA i c.bk with
  |some (.cells cells false)=>if off+ds.length≤cells.length then some ((c.setB i (.cells (splice cells off ds) false)).put dst (D.oV u)) else none
  |some (.row cols false)=>if off+ds.length≤(aC cols).length then some ((c.setB i (BX.re cols (splice (aC cols) off ds))).put dst (D.oV u)) else none
  |_=>none
 | .app s sz m ds=>match s with
  | .emp=>some (((c.forget id).setB id (.cells (ds.map (D.forget id)) false)).put dst (.sl id 0 m ⟨sz,0⟩))
  | .v _=>some (((c.forget id).setB id (.cells (ds.map (D.forget id)) false)).put dst (.sl id 0 m ⟨sz,0⟩))
  | .sl i off n _=>match dA i c.bk with
   |some (.cells cells false)=>if off+n*sz≤cells.length then some (((c.forget i).setB i (.cells (((cells.drop off).take (n*sz) ++ ds).map (D.forget i)) false)).put dst (.sl i 0 (n+m) ⟨sz,0⟩)) else none
   |_=>none
  |_=>none
theorem fP {i:Nat} {l:List (Nat×BX)} {cells:List D} {ro:Bool} (h:dA i l=some (.cells cells ro)):dQ i l=some ⟨cells,ro⟩:=by
 unfold dQ;rw[h];rfl
theorem Ie {i:Nat} {l:List (Nat×BX)} {cols:List ay} {ro:Bool} (h:dA i l=some (.row cols ro)):dQ i l=some ⟨aC cols,ro⟩:=by
 unfold dQ;rw[h];rfl
theorem Z5 {c:Cf} {dst:Option Tmp} {id:Nat} {e:Eff} {c':Cf} (h:nK c dst id e=some c'):eY c.abs dst id e=some c'.abs∧c'.cds=c.cds:=by
 have pc:∀ (c:Cf) (d:D),(c.put dst d).cds=c.cds:=fun c d=>by cases dst<;>rfl
 cases e with
 |val d=>simp[nK] at h;subst h;exact⟨by simp[eY,cZ],pc _ _⟩
 |box cs=>simp[nK] at h;subst h;exact⟨by simp[eY,cZ,bW,dN,BX.blk],pc _ _⟩
 |row cs n sz=>simp[nK] at h;subst h;exact⟨by simp[eY,cZ,bW,dN,BX.blk],pc _ _⟩
 |row0=>simp[nK] at h;subst h;exact⟨by simp[eY,cZ],pc _ _⟩
 |sto i off ds=>
  simp only[nK] at h
  split at h
  next cells hl=>
   split at h
   next hle=>
    simp only[Option.some.injEq] at h;subst h
    refine⟨?_,pc _ _⟩
    simp only[eY,show c.abs.bk i=some ⟨cells,false⟩ from fP hl,if_pos hle,cZ,bW,BX.blk]
   ·cases h
  ·cases h
 |cpy i off ds k=>
  simp only[nK] at h
  split at h
  next cells hl=>
   split at h
   next hle=>
    simp only[Option.some.injEq] at h;subst h
    refine⟨?_,pc _ _⟩
    simp only[eY,show c.abs.bk i=some ⟨cells,false⟩ from fP hl,if_pos hle,cZ,bW,BX.blk]
   ·cases h
  next cols hl=>
   split at h
   next hle=>
    simp only[Option.some.injEq] at h;subst h
    refine⟨?_,pc _ _⟩
    simp only[eY,show c.abs.bk i=some ⟨aC cols,false⟩ from Ie hl,if_pos hle,cZ,bW,BX.ady]
   ·cases h
  ·cases h
 |app s sz m ds=>
  cases s with
  |v x=>simp[nK] at h;subst h;exact⟨by simp[eY,cZ,bW,dN,BX.blk],pc _ _⟩
  |emp=>simp[nK] at h;subst h;exact⟨by simp[eY,cZ,bW,dN,BX.blk],pc _ _⟩
  |sl i off n z=>
   simp only[nK] at h
   split at h
   next cells hl=>
    split at h
    next hle=>
     simp only[Option.some.injEq] at h;subst h
     refine⟨?_,pc _ _⟩
     simp only[eY,show c.abs.bk i=some ⟨cells,false⟩ from fP hl,if_pos hle,cZ,bW,dN,BX.blk]
    ·cases h
   ·cases h
  |_=>simp[nK] at h
end
noncomputable section
def ao1 (P:Program) (ρ:Operand→D) (args:List Operand) (ts:List TypeId):Option Eff:=
 match args,ts with
 |[x],[t]=>lenD P t (ρ x)
 |_,_=>none
def adH (P:Program) (bk:Nat→Option fK) (ρ:Operand→D) (args:List Operand) (ts:Array TypeId):Option Eff:=
 match args with
 |[s,x]=>jQ P bk ts (ρ s) (ρ x)
 |_=>none
def akY (P:Program) (bk:Nat→Option fK) (ρ:Operand→D) (args:List Operand) (ts:Array TypeId):Option Eff:=
 match args with
 |[d,x]=>YC P bk ts (ρ d) (ρ x)
 |_=>none
def ais (P:Program) (ρ:Operand→D) (args:List Operand) (ts:Array TypeId):Option Eff:=
 match args with
 |[d]=>Qd P ts (ρ d)
 |_=>none
def ZL (P:Program) (bk:Nat→Option fK) (ρ:Operand→D) (ty:TypeId) (args:Array Operand) (ts:Array TypeId):Builtin→Option Eff
 | .len=>ao1 P ρ args.toList ts.toList
 | .append=>adH P bk ρ args.toList ts
 | .copy=>akY P bk ρ args.toList ts
 | .clear=>ais P ρ args.toList ts
 | .max=>xJ .gtr (fun vs=>uX P (Builtin.max_ ts ty vs.toArray)) (args.toList.map ρ)
 | .min=>xJ .lss (fun vs=>uX P (Builtin.min_ ts ty vs.toArray)) (args.toList.map ρ)
 |_=>none
def akW (P:Program) (bk:Nat→Option fK) (ρ:Operand→D) (ty:TypeId) (c:Call):Option Eff:=
 match c.callee with
 | .builtin b=>ZL P bk ρ ty c.args c.argTypes b
 |_=>none
def amj (ρ:Operand→D) (f:Fn) (first captured:Array Operand):Option Eff:=
 match f with
 | .func f=>if first.size=0 then some (.val (.fn f (captured.toList.map ρ))) else none
 |_=>none
def aic (P:Program) (bk:Nat→Option fK) (ρ:Operand→D) (t:TypeId) (x:Operand) (lo hi mx:Option Operand):Option Eff:=
 match mx with
 |none=>xM P bk t (ρ x) (lo.map ρ) (hi.map ρ)
 |some m=>yQ P t (ρ x) (lo.map ρ) (hi.map ρ) (ρ m)
def valOf (d:D):Option Eff:=some (.val d)
def aoc (d:D):Option Eff:=d.cells.map .box
def akk (P:Program) (ρ:Operand→D) (t:TypeId) (parts:Array (Nat×Operand)):Option Eff:=IX P t (parts.toList.map fun p=>(p.1,ρ p.2))
def Tj (P:Program) (ρ:Operand→D) (t:TypeId) (len:Nat) (parts:Array (Nat×Operand)):Option Eff:=pX P t len (parts.toList.map fun p=>(p.1,ρ p.2))
def opF (P:Program) (bk:Nat→Option fK) (ρ:Operand→D) (ty:TypeId):Op→Option Eff
 | .move x=>valOf (ρ x)
 | .assign x=>valOf (ρ x)
 | .pick c a b=>PV (ρ c) (ρ a) (ρ b)
 | .alloc t=>(EH P t).map .box
 | .box _ x=>aoc (ρ x)
 | .build t parts=>akk P ρ t parts
 | .buildSlice t len parts=>Tj P ρ t len parts
 | .load t a=>S9 P bk t (ρ a)
 | .store t a x=>wM P t (ρ a) (ρ x)
 | .nilCheck x=>Ze (ρ x)
 | .binOp op t x y _=>abk P op t x y (ρ x) (ρ y)
 | .unOp op _ x=>ahn P op (ρ x)
 | .convert src dst x=>QA P src dst (ρ x)
 | .makeFunc f first captured=>amj ρ f first captured
 | .makeSlice t l c=>lN P t (ρ l) (ρ c)
 | .slice t x lo hi mx=>aic P bk ρ t x lo hi mx
 | .fieldAddr t x f=>oD P t (ρ x) f
 | .field t x f=>KH P t (ρ x) f
 | .indexAddr t x ix=>kH P t (ρ x) (ρ ix)
 | .index t x ix=>zu P t (ρ x) (ρ ix)
 | .extract x i=>wF (ρ x) i
 | .call c=>akW P bk ρ ty c
 |_=>none
theorem akB (P:Program) (bk:Nat→Option fK) (ρ:Operand→D) (ty:TypeId) (op:Op):opF P bk ρ ty op=dR P bk ρ ty op:=by
 cases op with
 |makeFunc f a b=>cases f<;>rfl
 |slice t x lo hi mx=>cases mx<;>rfl
 |call c=>
  obtain⟨callee,args,ts⟩:=c
  obtain⟨args⟩:=args
  cases callee with
  |value g=>rfl
  |invoke r m=>rfl
  |builtin b=>
   cases b<;>first | rfl | skip
   all_goals (obtain⟨ts⟩:=ts;rcases args with _ | ⟨x,_ | ⟨y,_ | ⟨z,l⟩⟩⟩<;>rcases ts with _ | ⟨t,_ | ⟨u,m⟩⟩<;>rfl)
 |_=>rfl
abbrev OX:=Eff×List Prop
def qE (e:Option Eff):Option OX:=
 match e with
 |some e=>some (e,[])
 |none=>none
def akt (op:BinOp) (k k':IntKind) (p q:Int):Option OX:=
 match op with
 | .shl=>some (.val (.v (.int k (ai .shl k p q))),[decide (0≤q)=true])
 | .shr=>some (.val (.v (.int k (ai .shr k p q))),[decide (0≤q)=true])
 | .quo=>if k=k' then some (.val (.v (.int k (ai .quo k p q))),[decide (q=0)=false]) else none
 | .rem=>if k=k' then some (.val (.v (.int k (ai .rem k p q))),[decide (q=0)=false]) else none
 |op=>match intD op k k' p q with
  |some d=>some (.val d,[])
  |none=>none
def anL (P:Program) (op:BinOp) (t:TypeId) (x y:Operand) (a b:D):Option OX:=
 match a,b with
 | .v (.int k p), .v (.int k' q)=>akt op k k' p q
 |a,b=>qE (Ci P op t x y a b)
def Y9 (P:Program) (t:TypeId) (cs:List Col) (ix:D):Option OX:=
 match ix,P.underlying t with
 | .v (.int _ i),some (.slice elem)=>match P.info? elem with
  |none=>none
  |some j=>if j.size=cs.length then some (.val (.shp (cs.map (Col.cell i.toNat)) 0),[decide (0≤i)=true,decide (i<(rowLen cs:Int))=true]) else none
 |_,_=>none
def IQ (P:Program) (t:TypeId) (x ix:D):Option OX:=
 match x with
 | .rc cs=>Y9 P t cs ix
 |x=>qE (lV P t x ix)
def ajA (s:ByteArray) (i:Int):OX:=(.val (.v (.int .u8 (((s.data.toList.map UInt8.toNat).getD i.toNat 0:Nat):Int))),[decide (0≤i)=true,decide (i<(s.size:Int))=true])
def aeg (P:Program) (t:TypeId) (x ix:D):Option OX:=
 match x,ix,P.underlying t with
 | .v (.string s), .v (.int _ i),some .string=>some (ajA s i)
 |x,ix,_=>qE (zu P t x ix)
def loX:Option D→Option Int
 |none=>some 0
 |some (.v (.int _ l))=>some l
 |some _=>none
def hiX (n:Nat):Option D→Option Int
 |none=>some n
 |some (.v (.int _ h))=>some h
 |some _=>none
def Rj (P:Program) (t:TypeId) (cs:List Col) (lo hi:Option D):Option OX:=
 match P.underlying t with
 |some (.slice elem)=>match P.info? elem with
  |some j=>match loX lo,hiX (rowLen cs) hi with
   |some l,some h=>if j.size=cs.length then some (.val (.rc (cs.map (Col.part l.toNat (h.toNat - l.toNat)))),[decide (0≤l)=true,decide (l≤h)=true,decide (h≤(rowLen cs:Int))=true]) else none
   |_,_=>none
  |none=>none
 |_=>none
def RP (P:Program) (bk:Nat→Option fK) (t:TypeId) (id off n:Nat) (sz:Sz) (lo hi:Option D):Option OX:=
 match lo,hi with
 |none,some (.v (.int _ h))=>match P.underlying t with
  |some (.slice elem)=>match P.info? elem with
   |some j=>if sz.s=j.size then some (.val (.sl id off h.toNat ⟨sz.s,max n sz.r⟩),[decide (0≤h)=true,decide (h≤(n:Int))=true]) else none
   |none=>none
  |_=>qE (lG P bk t (.sl id off n sz) lo hi)
 |lo,hi=>qE (lG P bk t (.sl id off n sz) lo hi)
def afV (P:Program) (bk:Nat→Option fK) (t:TypeId) (x:D) (lo hi:Option D):Option OX:=
 match x with
 | .rc cs=>Rj P t cs lo hi
 | .sl id off n sz=>RP P bk t id off n sz lo hi
 |x=>qE (lG P bk t x lo hi)
def TP (P:Program) (bk:Nat→Option fK) (ρ:Operand→D) (t:TypeId) (x:Operand) (lo hi mx:Option Operand):Option OX:=
 match mx with
 |none=>afV P bk t (ρ x) (lo.map ρ) (hi.map ρ)
 |some m=>qE (yQ P t (ρ x) (lo.map ρ) (hi.map ρ) (ρ m))
def opX (P:Program) (bk:Nat→Option fK) (ρ:Operand→D) (ty:TypeId):Op→Option OX
 | .binOp op t x y _=>anL P op t x y (ρ x) (ρ y)
 | .indexAddr t x ix=>IQ P t (ρ x) (ρ ix)
 | .index t x ix=>aeg P t (ρ x) (ρ ix)
 | .slice t x lo hi mx=>TP P bk ρ t x lo hi mx
 |op=>qE (opF P bk ρ ty op)
section
variable {P:Program} {bk:Nat→Option fK} {ρ:Operand→D} {ty:TypeId}
theorem jm {e:Option Eff} {r:OX} (h:qE e=some r):e=some r.1:=by
 cases e with
 |none=>cases h
 |some e=>simp[qE] at h;subst h;rfl
theorem aa8 {op:BinOp} {k k':IntKind} {p q:Int} {e:Eff} {l:List Prop} (h:akt op k k' p q=some (e,l)) (hl:aJ l):(intD op k k' p q).map .val=some e:=by
 unfold akt at h
 split at h
 ·obtain⟨rfl,rfl⟩:=dB h
  simp only[aJ,decide_eq_true_eq,and_true] at hl
  simp[intD,hl]
 ·obtain⟨rfl,rfl⟩:=dB h
  simp only[aJ,decide_eq_true_eq,and_true] at hl
  simp[intD,hl]
 ·split at h
  next hk=>
   obtain⟨rfl,rfl⟩:=dB h
   simp only[aJ,decide_eq_false_iff_not,and_true] at hl
   simp[intD,hl,hk]
  ·cases h
 ·split at h
  next hk=>
   obtain⟨rfl,rfl⟩:=dB h
   simp only[aJ,decide_eq_false_iff_not,and_true] at hl
   simp[intD,hl,hk]
  ·cases h
 ·split at h
  next d hd=>obtain⟨rfl,rfl⟩:=dB h;rw[hd];rfl
  ·cases h
theorem KJ {op:Op} {e:Eff} {l:List Prop} (h:opX P bk ρ ty op=some (e,l)) (hl:aJ l):dR P bk ρ ty op=some e:=by
 unfold opX at h
 split at h
 next bop t x y yt=>
  simp only[dR]
  unfold anL at h
  unfold abk
  split at h
  next k p k' q ha hb=>rw[ha,hb];exact aa8 h hl
  next a b hne=>
   have:=jm h
   split
   next k p k' q ha hb=>exact absurd hb (fun hb=>hne _ _ _ _ ha hb)
   ·exact this
 next t x ix=>
  simp only[dR]
  unfold IQ at h
  unfold kH
  split at h
  next cs hx=>
   unfold Y9 at h
   unfold Au
   split at h
   next k i elem hi hu=>
    split at h
    ·cases h
    next j hj=>
     split at h
     next hs=>
      obtain⟨rfl,rfl⟩:=dB h
      simp only[aJ,decide_eq_true_eq,and_true] at hl
      simp only[hx,hu,hi,indexOf,hj,hs,hl.1,hl.2,and_self,if_true]
     ·cases h
   ·cases h
  next x' hne=>
   have:=jm h
   split
   next cs hx=>exact absurd hx (hne cs)
   ·exact this
 next t x ix=>
  simp only[dR]
  unfold aeg at h
  split at h
  next s k i hx hi hu=>
   simp only[ajA,Option.some.injEq,Prod.mk.injEq] at h;obtain⟨rfl,rfl⟩:=h
   simp only[aJ,decide_eq_true_eq,and_true] at hl
   have hlt:i.toNat<s.size:=by omega
   have hg:s[i.toNat]? =some s[i.toNat]:=by rw[getElem?_pos]
   have he:(s.data.toList.map UInt8.toNat).getD i.toNat 0=(s[i.toNat]).toNat:=by
    rw[List.getD_eq_getElem?_getD,List.getElem?_map]
    have:s.data.toList[i.toNat]? =some s[i.toNat]:=by
     rw[List.getElem?_eq_getElem (by simpa using hlt)]
     rfl
    rw[this];rfl
   simp only[zu,hx,hi,indexOf,hu,hl.1,if_true,hg,he]
  ·exact jm h
 next t x lo hi mx=>
  unfold TP at h
  split at h
  next=>
   simp only[dR]
   unfold afV at h
   unfold xM
   split at h
   next cs hx=>
    unfold Rj at h
    unfold BQ
    split at h
    next elem hu=>
     split at h
     next j hj=>
      split at h
      next l' h' hlo hhi=>
       split at h
       next hs=>
        obtain⟨rfl,rfl⟩:=dB h
        simp only[aJ,decide_eq_true_eq,and_true] at hl
        obtain⟨h0,h1,h2⟩:=hl
        have b1:dP (hi.map ρ) (rowLen cs) (rowLen cs)=some h'.toNat:=by
         cases hi with
         |none=>simp only[Option.map_none,hiX,Option.some.injEq] at hhi;subst hhi;simp[dP]
         |some y=>
          simp only[Option.map_some,hiX] at hhi ⊢
          split at hhi
          next he=>simp at he
          next k v he=>simp only[Option.some.injEq] at hhi he;subst hhi;rw[he];simp only[dP];rw[if_pos ⟨by omega,h2⟩]
          ·cases hhi
        have b2:dP (lo.map ρ) 0 h'.toNat=some l'.toNat:=by
         cases lo with
         |none=>simp only[Option.map_none,loX,Option.some.injEq] at hlo;subst hlo;simp[dP]
         |some y=>
          simp only[Option.map_some,loX] at hlo ⊢
          split at hlo
          next he=>simp at he
          next k v he=>simp only[Option.some.injEq] at hlo he;subst hlo;rw[he];simp only[dP];rw[if_pos ⟨h0,by omega⟩]
          ·cases hlo
        simp only[hx,hu,hj,b1,b2,hs,if_true]
       ·cases h
      ·cases h
     ·cases h
    ·cases h
   next id off n sz hx=>
    have hgo:lG P bk t (.sl id off n sz) (lo.map ρ) (hi.map ρ)=some e:=by
     unfold RP at h
     split at h
     next k h' hlo hhi=>
      split at h
      next elem hu=>
       split at h
       next j hj=>
        split at h
        next hs=>
         obtain⟨rfl,rfl⟩:=dB h
         simp only[aJ,decide_eq_true_eq,and_true] at hl
         obtain⟨h0,h1⟩:=hl
         have b1:dP (some (.v (.int k h'))) n (max n sz.r)=some h'.toNat:=by
          simp only[dP];rw[if_pos ⟨h0,by omega⟩]
         simp only[lG,hu,hj,hlo,hhi,b1]
         simp[dP,hs]
        ·cases h
       ·cases h
      ·exact jm h
     ·exact jm h
    split
    next cs hx'=>rw[hx] at hx';cases hx'
    ·rw[hx];exact hgo
   next x' hne hne2=>
    have:=jm h
    split
    next cs hx=>exact absurd hx (hne cs)
    ·exact this
  next m=>simp only[dR];exact jm h
 ·rw[←akB];exact jm h
end
end
end Go.Dam
end
noncomputable section
namespace Go.Dam
open Go Go.RowKit
variable [iG]
theorem aoj (hg:¬ Live) (cols:List ay):Reads (.sh (af cols) (aC cols)) (.rc (cols.map ay.up)):=fun w A u hr=>by
 simp only[aG] at hr ⊢
 obtain⟨o,c,rfl,h1,h2,h3⟩:=hr
 refine⟨o,c,by rw[fU],fun h=>absurd h hg,by rw[fU];exact h1,by rw[fU];exact fun h=>h2 (.inl h),fun i j c' hi hc=>?_⟩
 rw[fU] at hi
 rw[List.getElem?_map,Option.map_eq_some_iff] at hc
 obtain⟨c0,hc0,rfl⟩:=hc
 obtain⟨ad,rfl,h4,_⟩:=h2 (.inl (by omega))
 simp only[Option.getD_some] at h3 ⊢
 obtain⟨x,k1,k2⟩:=(bQ.xQ (β:=fun _=>none) (fun d u h=>aG.rep d u h) h3).get h4 _ _ (mF hi hc0)
 simp only[Rep,aG] at k2
 rw[List.length_map]
 exact⟨x,k1,by subst k2;cases c0<;>rfl⟩
noncomputable section
def fM (bk:List (Nat×BX)):Nat→D→Option (D×List Nat×List Prop)
 |_, .v x=>some (.v x,[],[])
 |_, .emp=>some (.emp,[],[])
 |_, .sh n cs=>some (.sh n cs,[],[])
 |_, .rc cs=>some (.rc cs,[],[])
 |k+1, .sl id off n sz=>match dA id bk with
  |none=>none
  |some (.cells cells _)=>if off+n*sz≤cells.length then
    match iH (fM bk k) ((cells.drop off).take (n*sz)) with
    |none=>none
    |some (cs,ids,l)=>some (.sh n cs,id::ids,l)
   else none
  |some (.row cols _)=>bif Nat.beq off 0 && (Nat.beq sz.s cols.length && !(iG.walked PS)) then some (.rc (cols.map ay.up),[id],[n=af cols]) else none
 |k+1, .agg cs=>match iH (fM bk k) cs with
  |none=>none
  |some (ds,ids,l)=>some (.agg ds,ids,l)
 |_, .fn f []=>some (.fn f [],[],[])
 |_,_=>none
where
 iH (g:D→Option (D×List Nat×List Prop)):List D→Option (List D×List Nat×List Prop)
 |[]=>some ([],[],[])
 |d::ds=>match g d,iH g ds with
  |some (e,i,l),some (es,is,ls)=>some (e::es,i ++ is,l ++ ls)
  |_,_=>none
abbrev iH:=fM.iH
theorem gW {g:D→Option (D×List Nat×List Prop)} {g':D→Option (D×List Nat)} (hg:∀ d e ids l,g d=some (e,ids,l)→aJ l→∃ e',g' d=some (e',ids)∧Reads e' e):
  ∀ (ds es:List D) (ids:List Nat) (l:List Prop),iH g ds=some (es,ids,l)→aJ l→∃ es',aW g' ds=some (es',ids)∧iQ es' es
 |[],es,ids,l,h,_=>by
  simp[fM.iH] at h;obtain⟨rfl,rfl,rfl⟩:=h
  exact⟨[],rfl, .nil⟩
 |d::ds,es,ids,l,h,hl=>by
  simp only[fM.iH] at h
  split at h
  next e i l1 es' is l2 h1 h2=>
   simp at h;obtain⟨rfl,rfl,rfl⟩:=h
   rw[aZ] at hl
   obtain⟨e',k1,k2⟩:=hg d e i l1 h1 hl.1
   obtain⟨es2,k3,k4⟩:=gW hg ds es' is l2 h2 hl.2
   exact⟨e'::es2,by simp only[share.aW,k1];rw[show share.aW g' ds=some (es2,is) from k3], .cons k2 k4⟩
  ·cases h
theorem ait (bk:Nat→Option fK) (k:Nat) (x:Value):share bk k (.v x)=some (.v x,[]):=by cases k<;>rfl
theorem Ag (bk:Nat→Option fK) (k:Nat):∀ ds:List D,(∀ d∈ds,∃ x,d= .v x)→aW (share bk k) ds=some (ds,[])
 |[],_=>rfl
 |d::ds,h=>by
  obtain⟨x,rfl⟩:=h d (by simp)
  have ih:=Ag bk k ds (fun d hd=>h d (by simp[hd]))
  simp only[share.aW,ait]
  rw[show share.aW (share bk k) ds=some (ds,[]) from ih]
  rfl
theorem mW {bk:List (Nat×BX)}:∀ (k:Nat) (d e:D) (ids:List Nat) (l:List Prop),fM bk k d=some (e,ids,l)→aJ l→∃ e',share (fun i=>dQ i bk) k d=some (e',ids)∧Reads e' e:=by
 intro k
 induction k with
 |zero=>
  intro d e ids l h hl
  cases d with
  |v x=>simp only[fM,Option.some.injEq,Prod.mk.injEq] at h;obtain⟨rfl,rfl,rfl⟩:=h;exact⟨_,by simp only[share], .refl _⟩
  |emp=>simp only[fM,Option.some.injEq,Prod.mk.injEq] at h;obtain⟨rfl,rfl,rfl⟩:=h;exact⟨_,by simp only[share], .refl _⟩
  |sh n cs=>simp only[fM,Option.some.injEq,Prod.mk.injEq] at h;obtain⟨rfl,rfl,rfl⟩:=h;exact⟨_,by simp only[share], .refl _⟩
  |rc cs=>simp only[fM,Option.some.injEq,Prod.mk.injEq] at h;obtain⟨rfl,rfl,rfl⟩:=h;exact⟨_,by simp only[share], .refl _⟩
  |fn f cs=>
   cases cs with
   |nil=>simp only[fM,Option.some.injEq,Prod.mk.injEq] at h;obtain⟨rfl,rfl,rfl⟩:=h;exact⟨_,by simp only[share], .refl _⟩
   |cons _ _=>simp[fM] at h
  |_=>simp[fM] at h
 |succ k ih=>
  intro d e ids l h hl
  cases d with
  |v x=>simp only[fM,Option.some.injEq,Prod.mk.injEq] at h;obtain⟨rfl,rfl,rfl⟩:=h;exact⟨_,by simp only[share], .refl _⟩
  |emp=>simp only[fM,Option.some.injEq,Prod.mk.injEq] at h;obtain⟨rfl,rfl,rfl⟩:=h;exact⟨_,by simp only[share], .refl _⟩
  |sh n cs=>simp only[fM,Option.some.injEq,Prod.mk.injEq] at h;obtain⟨rfl,rfl,rfl⟩:=h;exact⟨_,by simp only[share], .refl _⟩
  |rc cs=>simp only[fM,Option.some.injEq,Prod.mk.injEq] at h;obtain⟨rfl,rfl,rfl⟩:=h;exact⟨_,by simp only[share], .refl _⟩
  |fn f cs=>
   cases cs with
   |nil=>simp only[fM,Option.some.injEq,Prod.mk.injEq] at h;obtain⟨rfl,rfl,rfl⟩:=h;exact⟨_,by simp only[share], .refl _⟩
   |cons _ _=>simp[fM] at h
  |agg cs=>
   simp only[fM] at h
   split at h
   ·cases h
   next ds is l' h1=>
    simp at h;obtain⟨rfl,rfl,rfl⟩:=h
    obtain⟨es',k1,k2⟩:=gW (fun d e ids l h hl=>ih d e ids l h hl) cs ds is l' h1 hl
    exact⟨.agg es',by simp only[share];rw[show share.aW (share _ k) cs=some (es',is) from k1],k2.agg⟩
  |sl id off n sz=>
   simp only[fM] at h
   split at h
   ·cases h
   next cells ro hb=>
    split at h
    next hle=>
     split at h
     ·cases h
     next cs is l' h1=>
      simp at h;obtain⟨rfl,rfl,rfl⟩:=h
      obtain⟨es',k1,k2⟩:=gW (fun d e ids l h hl=>ih d e ids l h hl) _ cs is l' h1 hl
      exact⟨.sh n es',by simp only[share,fP hb];rw[if_pos hle,show share.aW (share _ k) _=some (es',is) from k1],k2.sh n⟩
    ·cases h
   next cols ro hb=>
    simp only[cond_eq_ite] at h
    split at h
    next hc=>
     simp only[Bool.and_eq_true,Bool.not_eq_true'] at hc
     obtain⟨rfl,rfl,rfl⟩:=okt h
     obtain rfl:=Nat.eq_of_beq_eq_true hc.1
     have hsz:=Nat.eq_of_beq_eq_true hc.2.1
     have hg:¬ Live:=fun q=>by have:=hc.2.2;rw[q] at this;cases this
     simp only[aJ,and_true] at hl
     subst hl
     have hlb:dQ id bk=some ⟨aC cols,ro⟩:=by unfold dQ;rw[hb];rfl
     have hlen:=bn cols
     refine⟨.sh (af cols) (aC cols),?_,aoj hg cols⟩
     simp only[share,hlb]
     rw[if_pos (by rw[hlen,hsz];omega),List.drop_zero,List.take_of_length_le (by rw[hlen,hsz];exact Nat.le_refl _),show share.aW (share _ k) _=some (aC cols,[]) from Ag _ k _ fun d hd=>gI hd]
    ·cases h
  |_=>simp[fM] at h
mutual
def gm (id:Nat):D→D×List BX
 | .ow n sz cs=>(.sl id 0 n ⟨sz,0⟩,[.cells cs false])
 | .oc cs=>(.sl id 0 (af cs) ⟨cs.length,0⟩,[.row cs false])
 | .agg cs=>(.agg (qC id cs).1,(qC id cs).2)
 | .aS cs=>(.aS (qC id cs).1,(qC id cs).2)
 |d=>(d,[])
def qC (id:Nat):List D→List D×List BX
 |[]=>([],[])
 |d::ds=>((gm id d).1::(qC (id+(gm id d).2.length) ds).1,(gm id d).2 ++ (qC (id+(gm id d).2.length) ds).2)
end
mutual
theorem zq:∀ (d:D) (id:Nat),(gm id d).1=(thaw id d).1∧(gm id d).2.map BX.blk=(thaw id d).2.map fun cs=>⟨cs,false⟩
 | .ow n sz cs,id=>by simp[gm,thaw,BX.blk]
 | .oc cs,id=>by simp[gm,thaw,BX.blk]
 | .agg cs,id=>by have:=wI cs id;simp only[gm,thaw,this.1,true_and];exact this.2
 | .aS cs,id=>by have:=wI cs id;simp only[gm,thaw,this.1,true_and];exact this.2
 | .undef,id=>by simp[gm,thaw]
 | .v _,id=>by simp[gm,thaw]
 | .emp,id=>by simp[gm,thaw]
 | .sh _ _,id=>by simp[gm,thaw]
 | .sl _ _ _ _,id=>by simp[gm,thaw]
 | .ptr _ _,id=>by simp[gm,thaw]
 | .pel _ _ _ _,id=>by simp[gm,thaw]
 | .shp _ _,id=>by simp[gm,thaw]
 | .fn _ _,id=>by simp[gm,thaw]
 | .yld,id=>by simp[gm,thaw]
 | .rc _,id=>by simp[gm,thaw]
theorem wI:∀ (ds:List D) (id:Nat),(qC id ds).1=(pq id ds).1∧(qC id ds).2.map BX.blk=(pq id ds).2.map fun cs=>⟨cs,false⟩
 |[],id=>by simp[qC,pq]
 |d::ds,id=>by
  have h1:=zq d id
  have hlen:(gm id d).2.length=(thaw id d).2.length:=by have:=congrArg List.length h1.2;simpa using this
  have h2:=wI ds (id+(gm id d).2.length)
  rw[hlen] at h2
  simp only[qC,pq,hlen,h1.1,h2.1,List.map_append,h1.2,h2.2,and_self]
end
def l7 (c:Cf) (id:Nat):List BX→Cf
 |[]=>c
 |b::bs=>l7 ((c.forget id).setB id b) (id+1) bs
theorem wY:∀ (bs:List BX) (cs:List (List D)) (c:Cf) (id:Nat),bs.map BX.blk=cs.map (fun cs=>⟨cs,false⟩)→(l7 c id bs).abs=lS c.abs id cs
 |[],[],_,_,_=>rfl
 |b::bs,x::cs,c,id,h=>by
  simp only[List.map_cons,List.cons.injEq] at h
  simp only[l7,lS,wY bs cs _ _ h.2,bW,dN,h.1]
 |[],_::_,_,_,h=>by simp at h
 |_::_,[],_,_,h=>by simp at h
inductive Con where
 |call (g:List D→Option (D×List Prop))
 |ext (g:List Value→Option (Value×List Prop))
abbrev aB:=FuncId→Option Con
structure bT (P:Program) (X:aB):Prop where
 call:∀ f g,X f=some (.call g)→∀ args res l,g args=some (res,l)→aJ l→CallsD P f args res
 ext:∀ f g,X f=some (.ext g)→∀ vs u l,g vs=some (u,l)→aJ l→dK P (callFunc f vs.toArray)=some (.value u)
def ahW (P:Program) (X:aB) (f:FuncId) (vs:List Value):Option (Value×List Prop):=
 match X f with
 |some (.ext g)=>g vs
 |_=>match dK P (callFunc f vs.toArray) with
  |some (.value u)=>some (u,[])
  |_=>none
theorem Om {P:Program} {X:aB} (hX:bT P X) {f:FuncId} {vs:List Value} {u:Value} {l:List Prop} (h:ahW P X f vs=some (u,l)) (hl:aJ l):dK P (callFunc f vs.toArray)=some (.value u):=by
 unfold ahW at h
 split at h
 next g hg=>exact hX.ext f g hg vs u l h hl
 ·split at h
  next u' hu=>obtain⟨rfl,rfl⟩:=dB h;exact hu
  ·cases h
def callOf (X:aB) (f:FuncId):Option (List D→Option (D×List Prop)):=
 match X f with
 |some (.call g)=>some g
 |_=>none
theorem FC {X:aB} {f:FuncId} {g:List D→Option (D×List Prop)} (h:callOf X f=some g):X f=some (.call g):=by
 unfold callOf at h
 split at h
 next g' hg=>simp only[Option.some.injEq] at h;subst h;exact hg
 ·cases h
def afX (X:List D→Option (D×List Prop)) (c:Cf) (dst:Option Tmp) (id:Nat) (args:List D):Option Cf:=
 match iH (fM c.bk depth) args with
 |none=>none
 |some (as,passed,l)=>match X as with
  |none=>none
  |some (res,l')=>some (((l7 (bif flat res then c else c.gB passed) id (gm id res).2).put dst (gm id res).1).NG (l ++ l'))
@[simp] theorem gG (c:Cf) (dst:Option Tmp) (d:D):(c.put dst d).cds=c.cds:=by cases dst<;>rfl
@[simp] theorem lH (c:Cf) (i:Nat) (b:BX):(c.setB i b).cds=c.cds:=rfl
@[simp] theorem akS (c:Cf) (i:Nat):(c.forget i).cds=c.cds:=rfl
@[simp] theorem apZ (c:Cf) (ids:List Nat):(c.gB ids).cds=c.cds:=rfl
@[simp] theorem iw (c:Cf) (l:List Prop):(c.NG l).cds=l ++ c.cds:=rfl
@[simp] theorem Jy:∀ (bs:List BX) (c:Cf) (id:Nat),(l7 c id bs).cds=c.cds
 |[],_,_=>rfl
 |b::bs,c,id=>by simp[l7,Jy bs]
theorem VU {P:Program} {X:List D→Option (D×List Prop)} {f:FuncId} (hX:∀ args res l,X args=some (res,l)→aJ l→CallsD P f args res) {c c':Cf} {dst:Option Tmp} {id:Nat} {args:List D}
  (h:afX X c dst id args=some c') (hl:aJ c'.cds):aJ c.cds∧adZ (CallsD P) c.abs dst id f args c'.abs:=by
 unfold afX at h
 split at h
 ·cases h
 next as passed l h1=>
  split at h
  ·cases h
  next res l' h2=>
   simp only[Option.some.injEq] at h;subst h
   have hc:aJ (l ++ l' ++ c.cds):=by
    have:=hl
    simp only[iw,gG,Jy] at this
    cases hf:flat res<;>simpa [hf] using this
   rw[aZ,aZ] at hc
   obtain⟨⟨hl1,hl2⟩,hl3⟩:=hc
   obtain⟨as',k1,k2⟩:=gW (fun d e ids l h hl=>mW depth d e ids l h hl) args as passed l h1 hl1
   refine⟨hl3,as',passed,res,k1,fun w A vs hv low glo=>hX as res l' h2 hl2 w A vs (k2.agO hv) low glo,?_⟩
   have ht:=zq res id
   rw[jO,cZ,wY _ _ _ _ ht.2,ht.1]
   cases flat res<;>simp[afN]
end
end Go.Dam
end
noncomputable section
namespace Go.Dam
open Go Go.RowKit
variable [iG]
noncomputable section
theorem ZO {cols:List ay} {i j sz:Nat} (hi:i<af cols) (hj:j+sz≤cols.length):
  ((aC cols).drop (i*cols.length+j)).take sz=((cols.drop j).take sz).map (fun c=>D.v (c.val i)):=by
 apply List.ext_getElem?
 intro k
 rw[List.getElem?_take,List.getElem?_map,List.getElem?_take]
 by_cases hk:k<sz
 ·rw[if_pos hk,if_pos hk,List.getElem?_drop,List.getElem?_drop]
  have hjk:j+k<cols.length:=by omega
  have hc:cols[j+k]? =some cols[j+k]:=List.getElem?_eq_getElem hjk
  rw[Nat.add_assoc,mF hi hc,hc];rfl
 ·rw[if_neg hk,if_neg hk];rfl
def ay.setAt (i:Nat) (d:D):ay→Option ay
 | .ints k xs=>match d with
  | .v (.int k' n)=>if k'=k then some (.ints k (xs.set i n)) else none
  |_=>none
 | .bools xs=>match d with
  | .v (.bool b)=>some (.bools (xs.set i b))
  |_=>none
def nP (i:Nat):List ay→Nat→List D→Option (List ay)
 |cs,_,[]=>some cs
 |c::cs,0,d::ds=>match c.setAt i d,nP i cs 0 ds with
  |some c',some cs'=>some (c'::cs')
  |_,_=>none
 |c::cs,j+1,d::ds=>match nP i cs j (d::ds) with
  |some cs'=>some (c::cs')
  |none=>none
 |[],_,_::_=>none
def wL (n:Nat):List ay→List Prop
 |[]=>[]
 |c::cs=>(c.len=n)::wL n cs
theorem lM {n:Nat}:∀ {cs:List ay},aJ (wL n cs)→∀ c∈cs,c.len=n
 |[],_,_,h=>by cases h
 |c::cs,h,c',hc=>by
  obtain⟨h1,h2⟩:=h
  rcases List.mem_cons.1 hc with rfl | hc
  ·exact h1
  ·exact lM h2 c' hc
theorem aaR {i:Nat} {d:D} {c c':ay} (h:c.setAt i d=some c') (hi:i<c.len):c'.len=c.len∧(∀ k,D.v (c'.val k)=if k=i then d else D.v (c.val k)):=by
 cases c with
 |ints k xs=>
  simp only[ay.setAt] at h
  split at h
  ·split at h
   next e=>
    simp at h;subst h;subst e
    refine⟨by simp[ay.len],fun m=>?_⟩
    simp only[ay.val,List.getD_eq_getElem?_getD,List.getElem?_set]
    by_cases em:m=i
    ·subst em;simp only[ay.len] at hi;simp[hi]
    ·rw[if_neg em,if_neg (Ne.symm em)]
   ·cases h
  ·cases h
 |bools xs=>
  simp only[ay.setAt] at h
  split at h
  ·simp at h;subst h
   refine⟨by simp[ay.len],fun m=>?_⟩
   simp only[ay.val,List.getD_eq_getElem?_getD,List.getElem?_set]
   by_cases em:m=i
   ·subst em;simp only[ay.len] at hi;simp[hi]
   ·rw[if_neg em,if_neg (Ne.symm em)]
  ·cases h
theorem tN {i n:Nat}:∀ {cs:List ay} {j:Nat} {ds:List D} {cs':List ay},nP i cs j ds=some cs'→(∀ c∈cs,c.len=n)→i<n→
  cs'.length=cs.length∧(∀ c∈cs',c.len=n)∧j+ds.length≤cs.length+(if ds=[] then j else 0)∧
   ∀ (b k:Nat) (c':ay),cs'[b]? =some c'→∃ c,cs[b]? =some c∧D.v (c'.val k)=if k=i∧j≤b∧b<j+ds.length then ds.getD (b - j) .undef else D.v (c.val k)
 |cs,j,[],cs',h,hl,hi=>by
  simp[nP] at h;subst h
  refine⟨rfl,hl,by simp,fun b k c' hb=>⟨c',hb,?_⟩⟩
  rw[if_neg (by simp)]
 |[],_,_::_,_,h,_,_=>by simp[nP] at h
 |c::cs,0,d::ds,cs',h,hl,hi=>by
  simp only[nP] at h
  split at h
  next c1 cs1 h1 h2=>
   simp at h;subst h
   obtain⟨a1,a2⟩:=aaR h1 (by rw[hl c (by simp)];exact hi)
   obtain⟨b1,b2,b3,b4⟩:=tN h2 (fun c hc=>hl c (by simp[hc])) hi
   refine⟨by simp[b1],fun c' hc=>?_,?_,fun b k c' hb=>?_⟩
   ·rcases List.mem_cons.1 hc with rfl | hc
    ·rw[a1];exact hl c (by simp)
    ·exact b2 c' hc
   ·rw[if_neg (by simp)]
    simp only[List.length_cons]
    split at b3<;>omega
   ·cases b with
    |zero=>
     simp at hb;subst hb
     refine⟨c,rfl,?_⟩
     rw[a2 k]
     by_cases ek:k=i
     ·rw[if_pos ek,if_pos ⟨ek,by omega,by simp⟩];simp
     ·rw[if_neg ek,if_neg (fun e=>ek e.1)]
    |succ b=>
     simp at hb
     obtain⟨c2,k1,k2⟩:=b4 b k c' hb
     refine⟨c2,by simpa using k1,?_⟩
     rw[k2]
     by_cases ek:k=i∧b<ds.length
     ·rw[if_pos ⟨ek.1,by omega,by omega⟩,if_pos ⟨ek.1,by omega,by simp;omega⟩]
      simp
     ·rw[if_neg (fun e=>ek ⟨e.1,by omega⟩),if_neg (fun e=>ek ⟨e.1,by simp at e;omega⟩)]
  ·cases h
 |c::cs,j+1,d::ds,cs',h,hl,hi=>by
  simp only[nP] at h
  split at h
  next cs1 h2=>
   simp at h;subst h
   obtain⟨b1,b2,b3,b4⟩:=tN h2 (fun c hc=>hl c (by simp[hc])) hi
   refine⟨by simp[b1],fun c' hc=>?_,?_,fun b k c' hb=>?_⟩
   ·rcases List.mem_cons.1 hc with rfl | hc
    ·exact hl c' (by simp)
    ·exact b2 c' hc
   ·rw[if_neg (by simp)] at b3 ⊢
    simp only[List.length_cons] at b3 ⊢
    omega
   ·cases b with
    |zero=>
     simp at hb;subst hb
     refine⟨c,rfl,?_⟩
     rw[if_neg (by omega)]
    |succ b=>
     simp at hb
     obtain⟨c2,k1,k2⟩:=b4 b k c' hb
     refine⟨c2,by simpa using k1,?_⟩
     rw[k2]
     by_cases ek:k=i∧j≤b∧b<j+(d::ds).length
     ·rw[if_pos ek,if_pos ⟨ek.1,by omega,by omega⟩]
      congr 1;omega
     ·rw[if_neg ek,if_neg (fun e=>ek ⟨e.1,by omega,by omega⟩)]
  ·cases h
theorem gZ {n:Nat}:∀ {cs:List ay},cs≠[]→(∀ c∈cs,c.len=n)→af cs=n
 |[],h,_=>absurd rfl h
 |c::cs,_,h=>h c (by simp)
theorem y7 {i n j:Nat} {cs cs':List ay} {ds:List D} (hne:cs≠[]) (h:nP i cs j ds=some cs') (hl:∀ c∈cs,c.len=n) (hi:i<n) (hd:j+ds.length≤cs.length):
  aC cs'=splice (aC cs) (i*cs.length+j) ds:=by
 obtain⟨h1,h2,_,h4⟩:=tN h hl hi
 have hne':cs'≠[]:=fun e=>hne (List.length_eq_zero_iff.1 (by rw[←h1,e];rfl))
 have e1:=gZ hne hl
 have e2:=gZ hne' h2
 have hw:0<cs.length:=List.length_pos_iff.2 hne
 have hlen:i*cs.length+j+ds.length≤(aC cs).length:=by
  rw[bn,e1]
  have:(i+1)*cs.length≤n*cs.length:=Nat.mul_le_mul_right _ hi
  rw[Nat.add_mul,Nat.one_mul] at this
  omega
 apply List.ext_getElem?
 intro m
 rw[zT hlen,mG,mG,e1,e2,h1]
 by_cases hm:m<n*cs.length
 ·rw[if_pos hm,if_pos hm]
  have hb:m%cs.length<cs.length:=Nat.mod_lt _ hw
  have hc:cs'[m%cs.length]? =some (cs'[m%cs.length]'(by rw[h1];exact hb)):=List.getElem?_eq_getElem _
  obtain⟨c,k1,k2⟩:=h4 (m%cs.length) (m / cs.length) _ hc
  rw[hc,k1]
  simp only[Option.map_some,k2]
  have hdm:=Nat.div_add_mod m cs.length
  by_cases ek:m / cs.length=i∧j≤m%cs.length∧m%cs.length<j+ds.length
  ·obtain⟨x1,x2,x3⟩:=ek
   rw[x1,Nat.mul_comm] at hdm
   rw[if_pos ⟨x1,x2,x3⟩,if_pos (by omega)]
   rw[show m - (i*cs.length+j)=m%cs.length - j by omega]
   rw[List.getD_eq_getElem?_getD,List.getElem?_eq_getElem (by omega)]
   rfl
  ·rw[if_neg ek,if_neg ?_]
   rintro⟨y1,y2⟩
   apply ek
   have hq:m / cs.length=i:=by
    apply Nat.div_eq_of_lt_le
    ·omega
    ·rw[Nat.add_mul,Nat.one_mul];omega
   rw[hq,Nat.mul_comm] at hdm
   exact⟨hq,by omega,by omega⟩
 ·rw[if_neg hm,if_neg hm,if_neg ?_]
  rintro⟨y1,y2⟩
  rw[bn,e1] at hlen
  omega
end
noncomputable section
def Pv (P:Program) (t:TypeId) (cols:List ay) (i w j:Nat):Option (D×List Prop):=
 match Zu P t with
 |none=>none
 |some (sz,d)=>bif Nat.beq w cols.length then
   bif aks d then(bif Nat.blt 0 sz && Nat.ble (j+sz) cols.length then some (.agg (((cols.drop j).take sz).map (fun c=>D.v (c.val i))),[i<af cols]) else none)
   else match cols[j]? with
    |some c=>some (.v (c.val i),[i<af cols])
    |none=>none
  else none
theorem O4 {P:Program} {t:TypeId} {cols:List ay} {i w j:Nat} {d:D} {l:List Prop} (h:Pv P t cols i w j=some (d,l)) (hl:aJ l):takeD P t (aC cols) (i*w+j)=some d:=by
 unfold Pv at h
 unfold takeD
 split at h
 ·cases h
 next sz td hi=>
  simp only[cond_eq_ite] at h
  rw[hi]
  simp only[]
  split at h
  next hw=>
   obtain rfl:=Nat.eq_of_beq_eq_true hw
   split at h
   next ha=>
    split at h
    next hb=>
     obtain⟨rfl,rfl⟩:=dB h
     simp only[Bool.and_eq_true] at hb
     have b1:0<sz:=by have:=hb.1;simpa [Nat.blt_eq] using this
     have b2:j+sz≤cols.length:=Nat.le_of_ble_eq_true hb.2
     have hlt:i<af cols:=hl.1
     rw[if_pos ha]
     rw[if_pos ⟨b1,by
      rw[bn]
      have:(i+1)*cols.length≤af cols*cols.length:=Nat.mul_le_mul_right _ hlt
      rw[Nat.add_mul,Nat.one_mul] at this
      omega⟩,ZO hlt b2]
    ·cases h
   next ha=>
    rw[if_neg ha]
    split at h
    next c hc=>
     obtain⟨rfl,rfl⟩:=dB h
     exact mF hl.1 hc
    ·cases h
  ·cases h
theorem iT {cols:List ay}:(aC cols).all D.one=true:=by
 rw[List.all_eq_true]
 intro d hd
 simp only[aC,jh,List.mem_flatMap,List.mem_map,List.map_map,Function.comp] at hd
 obtain⟨i,_,c,_,rfl⟩:=hd
 cases c<;>rfl
def ay.join:ay→ay→Option ay
 | .ints k xs, .ints k' ys=>if k'=k then some (.ints k (xs ++ ys)) else none
 | .bools xs, .bools ys=>some (.bools (xs ++ ys))
 |_,_=>none
def jX:List ay→List ay→Option (List ay)
 |[],[]=>some []
 |c::cs,d::ds=>match c.join d,jX cs ds with
  |some e,some es=>some (e::es)
  |_,_=>none
 |_,_=>none
theorem Bj {α:Type} (xs ys:List α) (k:Nat) (z:α):(xs ++ ys).getD k z=if k<xs.length then xs.getD k z else ys.getD (k - xs.length) z:=by
 rw[List.getD_eq_getElem?_getD]
 split
 next h=>rw[List.getElem?_append_left h,List.getD_eq_getElem?_getD]
 next h=>rw[List.getElem?_append_right (by omega),List.getD_eq_getElem?_getD]
theorem adK {c d e:ay} (h:c.join d=some e):e.len=c.len+d.len∧∀ k,e.val k=if k<c.len then c.val k else d.val (k - c.len):=by
 cases c<;>cases d<;>simp only[ay.join] at h
 ·split at h
  next ek=>
   simp at h;subst h;subst ek
   refine⟨by simp[ay.len],fun k=>?_⟩
   simp only[ay.val,ay.len,Bj]
   split<;>(rename_i hh;simp only[hh,if_true,if_false])
  ·cases h
 ·cases h
 ·cases h
 ·simp at h;subst h
  refine⟨by simp[ay.len],fun k=>?_⟩
  simp only[ay.val,ay.len,Bj]
  split<;>(rename_i hh;simp only[hh,if_true,if_false])
theorem yZ:∀ {cs ds es:List ay} {n m:Nat},jX cs ds=some es→(∀ c∈cs,c.len=n)→(∀ d∈ds,d.len=m)→
  es.length=cs.length∧ds.length=cs.length∧(∀ e∈es,e.len=n+m)∧∀ (b:Nat) (e:ay),es[b]? =some e→∃ c d,cs[b]? =some c∧ds[b]? =some d∧∀ k,k<n+m→e.val k=if k<n then c.val k else d.val (k - n)
 |[],[],es,n,m,h,_,_=>by simp[jX] at h;subst h;exact⟨rfl,rfl,by simp,by simp⟩
 |[],_::_,es,n,m,h,_,_=>by simp[jX] at h
 |_::_,[],es,n,m,h,_,_=>by simp[jX] at h
 |c::cs,d::ds,es,n,m,h,h1,h2=>by
  simp only[jX] at h
  split at h
  next e es' he hes=>
   simp at h;subst h
   obtain⟨a1,a2⟩:=adK he
   obtain⟨b1,b2,b3,b4⟩:=yZ hes (fun c hc=>h1 c (by simp[hc])) (fun d hd=>h2 d (by simp[hd]))
   have c1:=h1 c (by simp)
   have d1:=h2 d (by simp)
   refine⟨by simp[b1],by simp[b2],fun e' he'=>?_,fun b e' hb=>?_⟩
   ·rcases List.mem_cons.1 he' with rfl | he'
    ·omega
    ·exact b3 e' he'
   ·cases b with
    |zero=>
     simp at hb;subst hb
     exact⟨c,d,rfl,rfl,fun k hk=>by rw[a2 k,c1]⟩
    |succ b=>
     simp at hb
     obtain⟨c',d',k1,k2,k3⟩:=b4 b e' hb
     exact⟨c',d',by simpa using k1,by simpa using k2,k3⟩
  ·cases h
theorem o9 {cs ds es:List ay} {n m:Nat} (hne:cs≠[]) (h:jX cs ds=some es) (h1:∀ c∈cs,c.len=n) (h2:∀ d∈ds,d.len=m):aC es=aC cs ++ aC ds:=by
 obtain⟨a1,a2,a3,a4⟩:=yZ h h1 h2
 have hw:0<cs.length:=List.length_pos_iff.2 hne
 have hne':es≠[]:=fun e=>hne (List.length_eq_zero_iff.1 (by rw[←a1,e];rfl))
 have hne2:ds≠[]:=fun e=>hne (List.length_eq_zero_iff.1 (by rw[←a2,e];rfl))
 have e1:=gZ hne h1
 have e2:=gZ hne2 h2
 have e3:=gZ hne' a3
 apply List.ext_getElem?
 intro x
 rw[mG,a1,e3]
 by_cases hx:x<(n+m)*cs.length
 ·rw[if_pos hx]
  have hb:x%cs.length<es.length:=by rw[a1];exact Nat.mod_lt _ hw
  have he:es[x%cs.length]? =some es[x%cs.length]:=List.getElem?_eq_getElem hb
  obtain⟨c,d,k1,k2,k3⟩:=a4 _ _ he
  have hq:x / cs.length<n+m:=by rw[Nat.div_lt_iff_lt_mul hw];exact hx
  rw[he,Option.map_some,k3 _ hq]
  by_cases hc:x<n*cs.length
  ·have hqn:x / cs.length<n:=by rw[Nat.div_lt_iff_lt_mul hw];exact hc
   rw[List.getElem?_append_left (by rw[bn,e1];exact hc),mG,e1,if_pos hc,k1,if_pos hqn];rfl
  ·have hqn:¬ x / cs.length<n:=fun q=>hc (by rw[Nat.div_lt_iff_lt_mul hw] at q;exact q)
   rw[List.getElem?_append_right (by rw[bn,e1];omega),bn,e1,mG,e2,a2]
   have ex:x=n*cs.length+(x - n*cs.length):=by omega
   have em:(x - n*cs.length)%cs.length=x%cs.length:=by
    rw[←Nat.mul_add_mod cs.length n (x - n*cs.length)]
    congr 1
    rw[Nat.mul_comm];omega
   have ed:(x - n*cs.length) / cs.length=x / cs.length - n:=by
    have:=Nat.mul_add_div hw n (x - n*cs.length)
    rw[show cs.length*n+(x - n*cs.length)=x by rw[Nat.mul_comm];omega] at this
    omega
   have hx2:x - n*cs.length<m*cs.length:=by
    rw[Nat.add_mul] at hx
    omega
   rw[if_pos hx2,em,ed,k2,if_neg hqn];rfl
 ·rw[if_neg hx]
  symm
  apply List.getElem?_eq_none
  rw[List.length_append,bn,bn,e1,e2,a2,←Nat.add_mul]
  omega
def ay.like (d:D):ay→Option ay
 | .ints k _=>match d with
  | .v (.int k' n)=>if k'=k then some (.ints k [n]) else none
  |_=>none
 | .bools _=>match d with
  | .v (.bool b)=>some (.bools [b])
  |_=>none
def kX:List ay→List D→Option (List ay)
 |[],[]=>some []
 |c::cs,d::ds=>match c.like d,kX cs ds with
  |some e,some es=>some (e::es)
  |_,_=>none
 |_,_=>none
theorem afy {d:D} {c e:ay} (h:c.like d=some e):e.len=1∧D.v (e.val 0)=d:=by
 cases c<;>simp only[ay.like] at h<;>split at h
 ·split at h
  ·simp at h;subst h;subst_vars;exact⟨rfl,rfl⟩
  ·cases h
 ·cases h
 ·simp at h;subst h;exact⟨rfl,rfl⟩
 ·cases h
theorem mM:∀ {cs es:List ay} {ds:List D},kX cs ds=some es→es.length=cs.length∧(∀ e∈es,e.len=1)∧es.map (fun e=>D.v (e.val 0))=ds
 |[],es,[],h=>by simp[kX] at h;subst h;exact⟨rfl,by simp,rfl⟩
 |[],es,_::_,h=>by simp[kX] at h
 |_::_,es,[],h=>by simp[kX] at h
 |c::cs,es,d::ds,h=>by
  simp only[kX] at h
  split at h
  next e es' he hes=>
   simp at h;subst h
   obtain⟨a1,a2⟩:=afy he
   obtain⟨b1,b2,b3⟩:=mM hes
   refine⟨by simp[b1],fun e' he'=>?_,by simp[a2,b3]⟩
   rcases List.mem_cons.1 he' with rfl | he'
   ·exact a1
   ·exact b2 e' he'
  ·cases h
theorem xA {cs es:List ay} {ds:List D} (hne:cs≠[]) (h:kX cs ds=some es):aC es=ds:=by
 obtain⟨a1,a2,a3⟩:=mM h
 have hne':es≠[]:=fun e=>hne (List.length_eq_zero_iff.1 (by rw[←a1,e];rfl))
 have e1:=gZ hne' a2
 unfold aC jh
 rw[fU,e1]
 simp only[List.range_one,List.flatMap_cons,List.flatMap_nil,List.append_nil,List.map_map]
 rw[←a3]
 apply List.map_congr_left
 intro c _
 cases c<;>rfl
end
noncomputable section
section
variable {w:World} {A:Nat→Prop} {β:Env} {base:Nat} {σ:St} {tmps:Array Value} {acts:List (Array Value)}
theorem Rel.again (h:Rel w A β base σ tmps acts) (i:Nat) {b:fK} (hb:σ.bk i=some b) (k:Nat):Rel w A β base ((σ.forget i).setB i ⟨b.cells.take k,b.ro⟩) tmps acts:=by
 have h1:=h.forget i
 refine⟨h1.fr,h1.stk,fun k b' hk=>?_,fun x y a c hx hy ha hc hac=>?_,h1.low,h1.top,h1.glo,h1.lp⟩
 ·simp only[St.setB] at hk
  split at hk
  next e=>
   simp at hk;subst hk;subst e
   rcases h.blk _ b hb with⟨k1,k2⟩ | ⟨ad,k1,k2⟩
   ·exact .inl ⟨k1,by simp[k2]⟩
   ·exact .inr ⟨ad,k1,⟨k2.spot,k2.base,k2.obj,k2.cells.take k2.spot _,k2.own,k2.shared,k2.inside⟩⟩
  next e=>exact h1.blk _ b' hk
 ·refine h.inj x y a c ?_ ?_ ha hc hac
  ·by_cases e:x=i
   ·subst e;simp[hb]
   ·simp only[St.setB,if_neg e,St.forget] at hx;intro q;simp[q] at hx
  ·by_cases e:y=i
   ·subst e;simp[hb]
   ·simp only[St.setB,if_neg e,St.forget] at hy;intro q;simp[q] at hy
end
theorem Ru {σ:St} {t i:Nat} {b:fK} {n off k:Nat} {sz:Sz} {s:Nat} (hb:σ.bk i=some b) (hs:sz.s=s):fB (σ.put (some t) (.sl i off n sz)) (((σ.forget i).setB i ⟨b.cells.take k,b.ro⟩).put (some t) (.sl i off n ⟨s,0⟩)):=by
 intro w A β base tmps acts h
 refine⟨β,?_⟩
 rw[←xH σ t i (.sl i off n sz) _ ⟨b.cells.take k,b.ro⟩]
 have h1:=h.again i (b:=b) hb k
 refine h1.JD t _ fun hl=>?_
 have hl:t<σ.fr.nt:=hl
 have hu:=h.fr.tm t
 have e:((σ.put (some t) (.sl i off n sz)).fr.tm t)= .sl i off n sz:=by
  show(if t=t then(if t<σ.fr.nt then D.sl i off n sz else .undef) else σ.fr.tm t)=_
  rw[if_pos rfl,if_pos hl]
 rw[e] at hu
 simp only[Rep] at hu ⊢
 obtain⟨o,c,hu,hc⟩:=hu
 refine⟨o,c,hu,?_⟩
 subst hs
 rcases hc with⟨h2,h3⟩ | ⟨h2,ad,h3,h4,h5⟩
 ·exact .inl ⟨by omega,h3⟩
 ·exact .inr ⟨by show max n 0≤c;omega,ad,h3,h4,h5⟩
theorem afa (σ:St) (t i:Nat) (d:D) (b:fK):(((σ.forget i).setB i b).JD t d)=(((σ.forget i).setB i b).put (some t) d):=rfl
theorem IJ {σ:St} {t i:Nat} {s:Nat} (hx:σ.fr.tm t= .emp∨σ.fr.tm t= .v (.slice none 0 0)):fB σ (((σ.forget i).setB i ⟨[],false⟩).put (some t) (.sl i 0 0 ⟨s,0⟩)):=by
 intro w A β base tmps acts h
 obtain⟨β',hb',h1⟩:=h.empty i
 refine⟨β',?_⟩
 rw[←afa σ t i _ ⟨[],false⟩]
 refine h1.JD t _ fun hl=>?_
 have hu:=h.fr.tm t
 simp only[Rep]
 rcases hx with e | e
 ·rw[e] at hu
  simp only[Rep,aG] at hu
  obtain⟨ad,hu⟩:=hu
  exact⟨some ad,0,hu, .inl ⟨by simp,rfl⟩⟩
 ·rw[e] at hu
  simp only[Rep,aG] at hu
  exact⟨none,0,hu, .inl ⟨by simp,rfl⟩⟩
theorem Rel.al7 {w:World} {A:Nat→Prop} {β:Env} {base:Nat} {σ:St} {tmps:Array Value} {acts:List (Array Value)} (h:Rel w A β base σ tmps acts) {b off:Nat} {d:D} {cs:List D} {ro:Bool} (hb:σ.bk b=some ⟨cs,ro⟩)
  (hd:∀ ad u,β b=some ad→w.cell? (aO ad off)=some u→Rep w A β d u):Rel w A β base (σ.setB b ⟨cs.set off d,ro⟩) tmps acts:=by
 refine⟨h.fr,h.stk,fun k b' hk=>?_,fun x y a c hx hy ha hc hac=>?_,h.low,h.top,h.glo,h.lp⟩
 ·simp only[St.setB] at hk
  split at hk
  next e=>
   simp at hk;subst hk;subst e
   rcases h.blk _ _ hb with⟨k1,k2⟩ | ⟨ad,k1,k2⟩
   ·simp only at k2
    exact .inl ⟨k1,by simp[k2]⟩
   ·refine .inr ⟨ad,k1,⟨k2.spot,k2.base,k2.obj,?_,k2.own,k2.shared,k2.inside⟩⟩
    have hcs:=k2.cells
    simp only at hcs ⊢
    refine bI.qQ k2.spot fun j d' hj=>?_
    rw[List.getElem?_set] at hj
    split at hj
    next ej=>
     split at hj
     next hl=>
      simp at hj;subst hj;subst ej
      obtain⟨u,q1,_⟩:=hcs.get k2.spot off _ (List.getElem?_eq_getElem hl)
      exact⟨u,q1,hd ad u k1 q1⟩
     ·cases hj
    ·exact hcs.get k2.spot j d' hj
  next e=>exact h.blk _ b' hk
 ·refine h.inj x y a c ?_ ?_ ha hc hac
  ·by_cases e:x=b
   ·subst e;simp[hb]
   ·simpa only[St.setB,if_neg e] using hx
  ·by_cases e:y=b
   ·subst e;simp[hb]
   ·simpa only[St.setB,if_neg e] using hy
theorem Eu {σ:St} {b off i:Nat} {s:Nat} {cs:List D} {ro:Bool} (hbi:b≠i) (hb:σ.bk b=some ⟨cs,ro⟩) (hx:cs[off]? =some .emp∨cs[off]? =some (.v (.slice none 0 0))):
  fB σ (((σ.forget i).setB i ⟨[],false⟩).setB b ⟨(cs.map (D.forget i)).set off (.sl i 0 0 ⟨s,0⟩),ro⟩):=by
 intro w A β base tmps acts h
 obtain⟨β',hb',h1,hsame⟩:=h.empty' i
 refine⟨β',?_⟩
 have hb2:((σ.forget i).setB i ⟨[],false⟩).bk b=some ⟨cs.map (D.forget i),ro⟩:=by
  simp only[St.setB,if_neg hbi,St.forget,hb,Option.map_some];rfl
 refine h1.al7 hb2 fun ad u had hu=>?_
 rw[hsame b hbi] at had
 rcases h.blk _ _ hb with⟨k1,_⟩ | ⟨ad',k1,k2⟩
 ·rw[k1] at had;cases had
 rw[k1] at had;cases had
 have hcs:=k2.cells
 simp only at hcs
 simp only[Rep]
 rcases hx with e | e
 ·obtain⟨u',q1,q2⟩:=hcs.get k2.spot off _ e
  rw[q1] at hu;cases hu
  simp only[Rep,aG] at q2
  obtain⟨ad2,hu⟩:=q2
  exact⟨some ad2,0,hu, .inl ⟨by simp,rfl⟩⟩
 ·obtain⟨u',q1,q2⟩:=hcs.get k2.spot off _ e
  rw[q1] at hu;cases hu
  simp only[Rep,aG] at q2
  exact⟨none,0,q2, .inl ⟨by simp,rfl⟩⟩
def Fh:List Col→Option (List ay)
 |[]=>some []
 | .ints k xs::l=>match Fh l with
  |some r=>some (.ints k xs::r)
  |none=>none
 | .bools xs::l=>match Fh l with
  |some r=>some (.bools xs::r)
  |none=>none
 | .rows _ _::_=>none
theorem zx:∀ {cs:List Col} {c0:List ay},Fh cs=some c0→cs=c0.map ay.up
 |[],c0,h=>by simp[Fh] at h;subst h;rfl
 | .ints k xs::l,c0,h=>by
  simp only[Fh] at h
  split at h
  next r hr=>simp at h;subst h;simp[zx hr,ay.up]
  ·cases h
 | .bools xs::l,c0,h=>by
  simp only[Fh] at h
  split at h
  next r hr=>simp at h;subst h;simp[zx hr,ay.up]
  ·cases h
 | .rows _ _::_,c0,h=>by simp[Fh] at h
def Wv (bk:List (Nat×BX)) (size:Nat):D→Option (Nat×List ay×List Prop)
 | .rc cs=>match Fh cs with
  |some c0=>bif Nat.beq c0.length size then some (af c0,c0,wL (af c0) c0) else none
  |none=>none
 | .sl id off n sz=>match dA id bk with
  |some (.row c0 _)=>bif Nat.beq off 0 && (Nat.beq sz.s size && Nat.beq c0.length size) then some (af c0,c0,(n=af c0)::wL (af c0) c0) else none
  |_=>none
 |_=>none
theorem rJ {bk:List (Nat×BX)} {size m:Nat} {x:D} {c0:List ay} {l:List Prop} (h:Wv bk size x=some (m,c0,l)) (hl:aJ l):
  x.elems (fun i=>dQ i bk) size=some (m,aC c0)∧c0.length=size∧(∀ c∈c0,c.len=m)∧m=af c0:=by
 cases x with
 |rc cs=>
  simp only[Wv] at h
  split at h
  next c1 hd=>
   simp only[cond_eq_ite] at h
   split at h
   next hb=>
    obtain⟨rfl,rfl,rfl⟩:=okt h
    have hsz:=Nat.eq_of_beq_eq_true hb
    have:=zx hd;subst this
    refine⟨?_,hsz,lM hl,rfl⟩
    simp only[D.elems]
    rw[if_pos (by simpa using hsz),fU]
   ·cases h
  ·cases h
 |sl id off n sz=>
  simp only[Wv] at h
  split at h
  next c1 ro hb=>
   simp only[cond_eq_ite] at h
   split at h
   next hc=>
    obtain⟨rfl,rfl,rfl⟩:=okt h
    simp only[Bool.and_eq_true] at hc
    obtain rfl:=Nat.eq_of_beq_eq_true hc.1
    have e1:=Nat.eq_of_beq_eq_true hc.2.1
    have e2:=Nat.eq_of_beq_eq_true hc.2.2
    obtain⟨hn,hl2⟩:=hl
    subst hn
    refine⟨?_,e2,lM hl2,rfl⟩
    have hlk:dQ id bk=some ⟨aC c1,ro⟩:=by unfold dQ;rw[hb];rfl
    simp only[D.elems,hlk]
    have hlen:=bn c1
    rw[if_pos ⟨e1,by rw[hlen,e2];omega⟩,List.drop_zero,List.take_of_length_le (by rw[hlen,e2];exact Nat.le_refl _)]
   ·cases h
  ·cases h
 |_=>simp[Wv] at h
end
noncomputable section
def YW (P:Program) (bk:List (Nat×BX)) (t:TypeId) (x ix:D):Option OX:=
 match x,ix with
 | .sl id off n sz, .v (.int _ i)=>match dA id bk,P.underlying t with
  |some (.row _ _),some (.slice elem)=>match P.info? elem with
   |some j=>some (.val (.pel id i.toNat j.size off),[decide (0≤i)=true,decide (i<(n:Int))=true])
   |none=>none
  |_,_=>none
 |_,_=>none
def UK (P:Program) (bk:List (Nat×BX)) (t:TypeId) (a:D):Option OX:=
 match a with
 | .pel id i w j=>match dA id bk with
  |some (.row cols _)=>match Pv P t cols i w j with
   |some (d,l)=>some (.val d,l)
   |none=>none
  |_=>none
 |_=>none
def opY (P:Program) (bk:List (Nat×BX)) (ρ:Operand→D) (ty:TypeId) (op:Op):Option OX:=
 match op with
 | .indexAddr t x ix=>match YW P bk t (ρ x) (ρ ix) with
  |some r=>some r
  |none=>opX P (fun i=>dQ i bk) ρ ty (.indexAddr t x ix)
 | .load t a=>match UK P bk t (ρ a) with
  |some r=>some r
  |none=>opX P (fun i=>dQ i bk) ρ ty (.load t a)
 |op=>opX P (fun i=>dQ i bk) ρ ty op
theorem TF {P:Program} {bk:List (Nat×BX)} {ρ:Operand→D} {ty:TypeId} {op:Op} {e:Eff} {l:List Prop} (h:opY P bk ρ ty op=some (e,l)) (hl:aJ l):dR P (fun i=>dQ i bk) ρ ty op=some e:=by
 unfold opY at h
 split at h
 next t x ix=>
  split at h
  next r hr=>
   simp only[Option.some.injEq] at h;subst h
   unfold YW at hr
   split at hr
   next id off n sz k i hx hi=>
    split at hr
    next elem hlk hu=>
     split at hr
     next j hj=>
      obtain⟨rfl,rfl⟩:=dB hr
      obtain⟨h1,h2,_⟩:=hl
      have h1:=of_decide_eq_true h1
      have h2:=of_decide_eq_true h2
      simp only[dR,kH,hx,hi,lV,indexOf,hu,hj]
      rw[if_pos ⟨h1,h2⟩]
     ·cases hr
    ·cases hr
   ·cases hr
  ·exact KJ h hl
 next t a=>
  split at h
  next r hr=>
   simp only[Option.some.injEq] at h;subst h
   unfold UK at hr
   split at hr
   next id i w j ha=>
    split at hr
    next cols ro hlk=>
     split at hr
     next d l0 ht=>
      obtain⟨rfl,rfl⟩:=dB hr
      have hlb:dQ id bk=some ⟨aC cols,ro⟩:=by unfold dQ;rw[hlk];rfl
      simp only[dR,S9,ha,D.behind,hlb,Option.map_some]
      rw[O4 ht hl];rfl
     ·cases hr
    ·cases hr
   ·cases hr
  ·exact KJ h hl
 ·exact KJ h hl
def rH (P:Program) (c:Cf) (dst:Option Tmp) (t:TypeId) (a x:D):Option (Cf×List Prop):=
 match a with
 | .pel id i w j=>match dA id c.bk with
  |some (.row cols false)=>match x.cells,P.info? t with
   |some ds,some inf=>bif Nat.beq ds.length inf.size && (ds.all D.one && (Nat.beq w cols.length && (Nat.blt 0 ds.length && Nat.ble (j+ds.length) cols.length))) then
     match nP i cols j ds with
     |some cols'=>some ((c.setB id (.row cols' false)).put dst (.v undef),(i<af cols)::wL (af cols) cols)
     |none=>none
    else none
   |_,_=>none
  |_=>none
 |_=>none
theorem DR {i:Nat} {l:List (Nat×BX)} {cols:List ay} {ro:Bool} (h:dA i l=some (.row cols ro)):dQ i l=some ⟨aC cols,ro⟩:=by
 unfold dQ;rw[h];rfl
@[simp] theorem aoH (c:Cf) (dst:Option Tmp) (d:D):(c.put dst d).cds=c.cds:=by cases dst<;>rfl
theorem Ll {P:Program} {c c':Cf} {dst:Option Tmp} {t:TypeId} {a x:D} {l:List Prop} {id0:Nat} (h:rH P c dst t a x=some (c',l)) (hl:aJ l):
  ∃ e σ1,wM P t a x=some e∧eY c.abs dst id0 e=some σ1∧fB σ1 c'.abs∧c'.cds=c.cds:=by
 unfold rH at h
 split at h
 next id i w j=>
  split at h
  next cols hlk=>
   split at h
   next ds inf hds hinf=>
    simp only[cond_eq_ite] at h
    split at h
    next hc=>
     simp only[Bool.and_eq_true] at hc
     obtain⟨h1,h2,h3,h4,h5⟩:=hc
     have e1:=Nat.eq_of_beq_eq_true h1
     obtain rfl:=Nat.eq_of_beq_eq_true h3
     have h4:0<ds.length:=by simpa [Nat.blt_eq] using h4
     have h5:=Nat.le_of_ble_eq_true h5
     split at h
     next cols' hs=>
      obtain⟨rfl,rfl⟩:=dB h
      obtain⟨hi,hl2⟩:=hl
      have hne:cols≠[]:=by rintro rfl;simp only[List.length_nil] at h5;omega
      have hcells:=y7 hne hs (lM hl2) hi h5
      refine⟨.sto id (i*cols.length+j) ds,_,?_,?_,fB.refl _,by simp[Cf.setB]⟩
      ·simp only[wM,hds,hinf]
       rw[if_pos ⟨e1,h2⟩]
      ·simp only[eY,show c.abs.bk id=some ⟨aC cols,false⟩ from DR hlk]
       rw[if_pos ?_,cZ,bW]
       ·simp only[BX.blk,hcells]
       ·rw[bn]
        have:(i+1)*cols.length≤af cols*cols.length:=Nat.mul_le_mul_right _ hi
        rw[Nat.add_mul,Nat.one_mul] at this
        omega
     ·cases h
    ·cases h
   ·cases h
  ·cases h
 ·cases h
theorem Qq {P:Program} {c c':Cf} {dst:Option Tmp} {t:TypeId} {a x:D} {l:List Prop} (h:rH P c dst t a x=some (c',l)) (hl:aJ l):
  ∃ id i w j ds off cells,a= .pel id i w j∧x.cells=some ds∧wM P t a x=some (.sto id off ds)∧c.abs.bk id=some ⟨cells,false⟩∧off+ds.length≤cells.length∧
   c'.abs=(c.abs.setB id ⟨splice cells off ds,false⟩).put dst (.v undef)∧c'.cds=c.cds:=by
 unfold rH at h
 split at h
 next id i w j=>
  split at h
  next cols hlk=>
   split at h
   next ds inf hds hinf=>
    simp only[cond_eq_ite] at h
    split at h
    next hc=>
     simp only[Bool.and_eq_true] at hc
     obtain⟨h1,h2,h3,h4,h5⟩:=hc
     have e1:=Nat.eq_of_beq_eq_true h1
     obtain rfl:=Nat.eq_of_beq_eq_true h3
     have h4:0<ds.length:=by simpa [Nat.blt_eq] using h4
     have h5:=Nat.le_of_ble_eq_true h5
     split at h
     next cols' hs=>
      obtain⟨rfl,rfl⟩:=dB h
      obtain⟨hi,hl2⟩:=hl
      have hne:cols≠[]:=by rintro rfl;simp only[List.length_nil] at h5;omega
      have hcells:=y7 hne hs (lM hl2) hi h5
      refine⟨id,i,cols.length,j,ds,i*cols.length+j,aC cols,rfl,hds,?_,DR hlk,?_,?_,by simp[Cf.setB]⟩
      ·simp only[wM,hds,hinf]
       rw[if_pos ⟨e1,h2⟩]
      ·rw[bn]
       have:(i+1)*cols.length≤af cols*cols.length:=Nat.mul_le_mul_right _ hi
       rw[Nat.add_mul,Nat.one_mul] at this
       omega
      ·rw[cZ,bW]
       simp only[BX.blk,hcells]
     ·cases h
    ·cases h
   ·cases h
  ·cases h
 ·cases h
def P5 (n:Nat):D→Option ay
 | .v (.int k x)=>some (.ints k (List.replicate n x))
 | .v (.bool b)=>some (.bools (List.replicate n b))
 |_=>none
def rZ (n:Nat):List D→Option (List ay)
 |[]=>some []
 |d::ds=>match P5 n d,rZ n ds with
  |some c,some cs=>some (c::cs)
  |_,_=>none
theorem RH {n:Nat} {d:D} {c:ay} (h:P5 n d=some c):c.len=n∧∀ k,k<n→D.v (c.val k)=d:=by
 unfold P5 at h
 split at h
 ·simp at h;subst h
  exact⟨by simp[ay.len],fun k hk=>by simp[ay.val,List.getD_eq_getElem?_getD,hk]⟩
 ·simp at h;subst h
  exact⟨by simp[ay.len],fun k hk=>by simp[ay.val,List.getD_eq_getElem?_getD,hk]⟩
 ·cases h
theorem yX {n:Nat}:∀ {ds:List D} {cs:List ay},rZ n ds=some cs→cs.length=ds.length∧(∀ c∈cs,c.len=n)∧∀ k,k<n→cs.map (fun c=>D.v (c.val k))=ds
 |[],cs,h=>by simp[rZ] at h;subst h;simp
 |d::ds,cs,h=>by
  simp only[rZ] at h
  split at h
  next c cs' hc hcs=>
   simp at h;subst h
   obtain⟨a1,a2⟩:=RH hc
   obtain⟨b1,b2,b3⟩:=yX hcs
   refine⟨by simp[b1],fun c' hc'=>?_,fun k hk=>by simp[a2 k hk,b3 k hk]⟩
   rcases List.mem_cons.1 hc' with rfl | hc'
   ·exact a1
   ·exact b2 c' hc'
  ·cases h
theorem Jz {n:Nat} {ds:List D} {cs:List ay} (hne:ds≠[]) (h:rZ n ds=some cs):aC cs=(List.replicate n ds).flatten:=by
 obtain⟨a1,a2,a3⟩:=yX h
 have hne':cs≠[]:=fun e=>hne (List.length_eq_zero_iff.1 (by rw[←a1,e];rfl))
 have e1:=gZ hne' a2
 unfold aC jh
 rw[fU,e1]
 have key:∀ m,m≤n→(List.range m).flatMap (fun i=>(cs.map ay.up).map (Col.cell i))=(List.replicate m ds).flatten:=by
  intro m
  induction m with
  |zero=>intro _;rfl
  |succ m ih=>
   intro hm
   rw[List.range_succ,List.flatMap_append,ih (by omega),List.replicate_succ',List.flatten_append]
   congr 1
   simp only[List.flatMap_cons,List.flatMap_nil,List.append_nil,List.flatten_cons,List.flatten_nil,List.map_map]
   rw[←a3 m (by omega)]
   apply List.map_congr_left
   intro c _
   cases c<;>rfl
 exact key n (Nat.le_refl _)
def Oq (P:Program) (c:Cf) (dst:Option Tmp) (id:Nat) (t:TypeId) (len cap:D):Option (Cf×List Prop):=
 match len,cap,P.underlying t with
 | .v (.int _ p), .v (.int _ q),some (.slice elem)=>match P.info? elem,EH P elem with
  |some j,some z=>bif Nat.beq z.length j.size && Nat.blt 0 z.length then match rZ q.toNat z with
    |some cols=>some (((c.forget id).setB id (.row cols false)).put dst (.sl id 0 p.toNat ⟨j.size,0⟩),[decide (0≤p)=true,p=q,q*j.bytes≤2 ^ 40,q≤2 ^ 40])
    |none=>none
   else none
  |_,_=>none
 |_,_,_=>none
theorem Qh {P:Program} {c c':Cf} {dst:Option Tmp} {id:Nat} {t:TypeId} {len cap:D} {l:List Prop} (h:Oq P c dst id t len cap=some (c',l)) (hl:aJ l):
  ∃ e σ1,lN P t len cap=some e∧eY c.abs dst id e=some σ1∧fB σ1 c'.abs∧c'.cds=c.cds:=by
 unfold Oq at h
 split at h
 next k p k' q elem hu=>
  split at h
  next j z hj hz=>
   simp only[cond_eq_ite] at h
   split at h
   next hc=>
    simp only[Bool.and_eq_true] at hc
    have e1:=Nat.eq_of_beq_eq_true hc.1
    have e2:0<z.length:=by simpa [Nat.blt_eq] using hc.2
    split at h
    next cols hcols=>
     obtain⟨rfl,rfl⟩:=dB h
     obtain⟨h1,h2,h3,h4,_⟩:=hl
     have h1:=of_decide_eq_true h1
     subst h2
     refine⟨.row (List.replicate p.toNat z).flatten p.toNat j.size,_,?_,?_,fB.refl _,by simp[Cf.setB,Cf.forget]⟩
     ·simp only[lN,hu,indexOf,hj,hz]
      rw[if_pos ⟨h1,Int.le_refl _,h3,h4,e1⟩]
     ·have hcells:=Jz (by intro e;rw[e] at e2;simp at e2) hcols
      simp only[eY,cZ,bW,dN,BX.blk]
      rw[←hcells,gQ]
    ·cases h
   ·cases h
  ·cases h
 ·cases h
end
noncomputable section
def Jg (bk:List (Nat×BX)) (size:Nat) (c0:List ay) (i n:Nat):Option (List ay×List Prop):=
 match dA i bk with
 |some (.row cols false)=>bif Nat.beq cols.length size then some (cols,(n=af cols)::wL (af cols) cols) else none
 |some (.cells cs false)=>match c0 with
  |[c]=>match c.of (cs.take n) with
   |some c'=>bif Nat.beq size 1 && Nat.ble n cs.length then some ([c'],[]) else none
   |none=>none
  |_=>none
 |_=>none
theorem zY {bk:List (Nat×BX)} {size i n:Nat} {c0 cols:List ay} {l:List Prop} (h:Jg bk size c0 i n=some (cols,l)) (hl:aJ l):
  ∃ cells,dQ i bk=some ⟨cells,false⟩∧n*size≤cells.length∧cells.take (n*size)=aC cols∧cols.length=size∧(∀ c∈cols,c.len=n):=by
 unfold Jg at h
 split at h
 next cols1 hlk=>
  simp only[cond_eq_ite] at h
  split at h
  next hc=>
   obtain⟨rfl,rfl⟩:=dB h
   have e:=Nat.eq_of_beq_eq_true hc
   obtain⟨h1,h2⟩:=hl
   subst h1
   have hlen:=bn cols1
   refine⟨aC cols1,DR hlk,by rw[hlen,e];exact Nat.le_refl _,List.take_of_length_le (by rw[hlen,e];exact Nat.le_refl _),e,lM h2⟩
  ·cases h
 next cs hlk=>
  split at h
  next c=>
   split at h
   next c' ho=>
    simp only[cond_eq_ite] at h
    split at h
    next hc=>
     obtain⟨rfl,rfl⟩:=dB h
     simp only[Bool.and_eq_true] at hc
     obtain rfl:=Nat.eq_of_beq_eq_true hc.1
     have hn:=Nat.le_of_ble_eq_true hc.2
     obtain⟨a1,a2⟩:=ay.AZ ho
     have hl':(cs.take n).length=n:=by simp;omega
     refine⟨cs,fP hlk,by omega,?_,rfl,fun c hc=>?_⟩
     ·rw[Nat.mul_one]
      apply List.ext_getElem?
      intro k
      rw[mG]
      have e1:af [c']=n:=by show c'.len=n;rw[a1,hl']
      rw[e1]
      simp only[List.length_cons,List.length_nil,Nat.zero_add,Nat.mul_one,Nat.mod_one,Nat.div_one]
      by_cases hk:k<n
      ·rw[if_pos hk,a2 k (by rw[hl'];exact hk)];rfl
      ·rw[if_neg hk];exact List.getElem?_eq_none (by rw[hl'];omega)
     ·simp at hc;subst hc;rw[a1,hl']
    ·cases h
   ·cases h
  ·cases h
 ·cases h
def appRow (P:Program) (c:Cf) (dst:Option Tmp) (bytes size i n m:Nat) (c0:List ay) (l:List Prop):Option (Cf×List Prop):=
 match dst,Jg c.bk size c0 i n with
 |some t,some (cols,l2)=>match jX cols c0 with
  |some es=>some (((c.forget i).setB i (.row es false)).put (some t) (.sl i 0 (n+m) ⟨size,0⟩),((n+m)*bytes≤2 ^ 44)::(l2 ++ l))
  |none=>none
 |_,_=>none
def QF (P:Program) (c:Cf) (dst:Option Tmp) (id bytes size:Nat) (s x:D):Option (Cf×List Prop):=
 match Wv c.bk size x with
 |some (m,c0,l)=>match s with
  | .v (.slice none 0 0)=>some (((c.forget id).setB id (.row c0 false)).put dst (.sl id 0 m ⟨size,0⟩),(m*bytes≤2 ^ 44)::l)
  | .emp=>match dst with
   |some t=>some (((c.forget id).setB id (.row c0 false)).put (some t) (.sl id 0 m ⟨size,0⟩),(m*bytes≤2 ^ 44)::l)
   |none=>none
  | .sl i off n sz=>bif Nat.beq off 0 && Nat.beq sz.s size then appRow P c dst bytes size i n m c0 l else none
  |_=>none
 |none=>match s with
  | .sl i off n sz=>match dA i c.bk with
   |some (.row cols false)=>match x.elems c.look size with
    |some (1,ds)=>match kX cols ds with
     |some c0=>bif Nat.beq off 0 && Nat.beq sz.s size then appRow P c dst bytes size i n 1 c0 [] else none
     |none=>none
    |_=>none
   |_=>none
  |_=>none
def VW (P:Program) (c:Cf) (dst:Option Tmp) (id:Nat) (ts:List TypeId) (s x:D):Option (Cf×List Prop):=
 match ts with
 |[t,t2]=>match P.underlying t,P.underlying t2 with
  |some (.slice e),some (.slice _)=>match P.info? e with
   |some j=>match j.zero with
    |some z=>bif Nat.ble 1 j.bytes && (Nat.beq z.cells.size j.size && Nat.blt 0 j.size) then QF P c dst id j.bytes j.size s x else none
    |none=>none
   |none=>none
  |_,_=>none
 |_=>none
section
variable {P:Program} {c c':Cf} {dst:Option Tmp} {id:Nat} {l:List Prop}
theorem EG {bytes size i n m:Nat} {sz:Sz} {c0:List ay} {l0:List Prop} (hsz:sz.s=size) (h0:c0.length=size) (hm:∀ d∈c0,d.len=m) (hp:0<size) (h:appRow P c dst bytes size i n m c0 l0=some (c',l)) (hl:aJ l):
  (n+m)*bytes≤2 ^ 44∧aJ l0∧c'.cds=c.cds∧∃ σ1,eY c.abs dst id (kJ (.sl i 0 n sz) size m (aC c0))=some σ1∧fB σ1 c'.abs:=by
 unfold appRow at h
 split at h
 next t cols l2 hb=>
  split at h
  next es he=>
   obtain⟨rfl,rfl⟩:=dB h
   obtain⟨hlen,hl⟩:=hl
   rw[aZ] at hl
   obtain⟨cells,k1,k2,k3,k4,k5⟩:=zY hb hl.1
   have hne:cols≠[]:=by rintro rfl;simp at k4;omega
   have hcells:=o9 hne he k5 hm
   have hne0:c0≠[]:=by rintro rfl;simp at h0;omega
   refine⟨hlen,hl.2,by simp[Cf.setB,Cf.forget],?_⟩
   have hfor:(fK.mk (aC es) false).forget i=⟨aC es,false⟩:=by simp only[fK.forget,gQ]
   cases m with
   |zero=>
    refine⟨c.abs.put (some t) (.sl i 0 n sz),by simp[kJ,eY],?_⟩
    have e0:aC c0=[]:=by
     apply List.length_eq_zero_iff.1
     rw[bn,gZ hne0 hm];simp
    rw[e0,List.append_nil] at hcells
    rw[cZ,bW,dN,BX.blk,hcells,←k3]
    exact Ru (σ:=c.abs) (b:=⟨cells,false⟩) (show c.abs.bk i=some ⟨cells,false⟩ from k1) hsz
   |succ m=>
    refine⟨_,?_,fB.refl _⟩
    simp only[kJ,eY,show c.abs.bk i=some ⟨cells,false⟩ from k1]
    rw[if_pos (by omega),cZ,bW,dN,BX.blk,List.drop_zero,k3,←hcells,gQ]
  ·cases h
 ·cases h
def jr (bk:Nat→Option fK) (bytes size:Nat) (s x:D):Option Eff:=
 match x.elems bk size with
 |some (m,ds)=>if ds.all D.one then match s with
   | .v (.slice none 0 0)=>if m*bytes≤2 ^ 44 then some (.app s size m ds) else none
   | .emp=>if m*bytes≤2 ^ 44 then some (kJ s size m ds) else none
   | .sl _ _ n sz=>if sz.s=size∧(n+m)*bytes≤2 ^ 44 then some (kJ s size m ds) else none
   |_=>none
  else none
 |none=>none
theorem Qg {bytes size:Nat} {s x:D} (hp:0<size) (h:QF P c dst id bytes size s x=some (c',l)) (hl:aJ l):
  ∃ e σ1,jr c.abs.bk bytes size s x=some e∧eY c.abs dst id e=some σ1∧fB σ1 c'.abs∧c'.cds=c.cds:=by
 unfold QF at h
 split at h
 next m c0 l0 hs=>
  split at h
  ·obtain⟨rfl,rfl⟩:=dB h
   obtain⟨h1,h2⟩:=hl
   obtain⟨k1,k2,k3,k4⟩:=rJ hs h2
   have k1:x.elems c.abs.bk size=some (m,aC c0):=k1
   refine⟨.app (.v (.slice none 0 0)) size m (aC c0),_,?_,?_,fB.refl _,by simp[Cf.setB,Cf.forget]⟩
   ·simp only[jr,k1,iT,if_true,if_pos h1]
   ·simp only[eY,cZ,bW,dN,BX.blk,gQ]
  ·split at h
   next t=>
    obtain⟨rfl,rfl⟩:=dB h
    obtain⟨h1,h2⟩:=hl
    obtain⟨k1,k2,k3,k4⟩:=rJ hs h2
    have k1:x.elems c.abs.bk size=some (m,aC c0):=k1
    have core:jr c.abs.bk bytes size .emp x=some (kJ .emp size m (aC c0)):=by
     simp only[jr,k1,iT,if_true,if_pos h1]
    cases m with
    |zero=>
     have hne0:c0≠[]:=by rintro rfl;simp at k2;omega
     have e0:aC c0=[]:=by
      apply List.length_eq_zero_iff.1
      rw[bn,gZ hne0 k3];simp
     refine⟨_,c.abs.put (some t) .emp,core,by simp[kJ,eY],?_,by simp[Cf.setB,Cf.forget]⟩
     rw[cZ,bW,dN,BX.blk,e0]
     exact EF (.inl rfl)
    |succ m=>
     refine⟨_,_,core,?_,fB.refl _,by simp[Cf.setB,Cf.forget]⟩
     simp only[kJ,eY,cZ,bW,dN,BX.blk,gQ]
   ·cases h
  next i off n sz=>
   simp only[cond_eq_ite] at h
   split at h
   next hc=>
    simp only[Bool.and_eq_true] at hc
    obtain rfl:=Nat.eq_of_beq_eq_true hc.1
    have e2:=Nat.eq_of_beq_eq_true hc.2
    have hl0:aJ l0:=by
     have h':=h
     unfold appRow at h'
     split at h'
     ·split at h'
      ·simp only[Option.some.injEq,Prod.mk.injEq] at h';obtain⟨_,rfl⟩:=h'
       have:=hl.2;rw[aZ] at this;exact this.2
      ·cases h'
     ·cases h'
    obtain⟨k1,k2,k3,k4⟩:=rJ hs hl0
    have k1:x.elems c.abs.bk size=some (m,aC c0):=k1
    obtain⟨a1,_,a3,σ1,a4,a5⟩:=EG (id:=id) e2 k2 k3 hp h hl
    refine⟨_,σ1,?_,a4,a5,a3⟩
    simp only[jr,k1,iT,if_true,if_pos (show sz.s=size∧(n+m)*bytes≤2 ^ 44 from⟨e2,a1⟩)]
   ·cases h
  ·cases h
 ·split at h
  next i off n sz=>
   split at h
   next cols hlk=>
    split at h
    next ds hel=>
     split at h
     next c0 hlike=>
      simp only[cond_eq_ite] at h
      split at h
      next hc=>
       simp only[Bool.and_eq_true] at hc
       obtain rfl:=Nat.eq_of_beq_eq_true hc.1
       have e2:=Nat.eq_of_beq_eq_true hc.2
       obtain⟨b1,b2,b3⟩:=mM hlike
       have hel:x.elems c.abs.bk size=some (1,ds):=hel
       have hcl:cols.length=size:=by
        have h':=h
        unfold appRow at h'
        split at h'
        next t cols2 l2 hb=>
         unfold Jg at hb
         rw[hlk] at hb
         simp only[cond_eq_ite] at hb
         split at hb
         next hq=>exact Nat.eq_of_beq_eq_true hq
         ·cases hb
        ·cases h'
       have hne:cols≠[]:=by rintro rfl;simp at hcl;omega
       have hds:=xA hne hlike
       obtain⟨a1,_,a3,σ1,a4,a5⟩:=EG (id:=id) (m:=1) e2 (by rw[b1,hcl]) b2 hp h hl
       rw[hds] at a4
       have hone:ds.all D.one=true:=by rw[←hds];exact iT
       refine⟨_,σ1,?_,a4,a5,a3⟩
       simp only[jr,hel,hone,if_true,if_pos (show sz.s=size∧(n+1)*bytes≤2 ^ 44 from⟨e2,a1⟩)]
      ·cases h
     ·cases h
    ·cases h
   ·cases h
  ·cases h
theorem Vd {ts:Array TypeId} {s x:D} (h:VW P c dst id ts.toList s x=some (c',l)) (hl:aJ l):
  ∃ e σ1,jQ P c.abs.bk ts s x=some e∧eY c.abs dst id e=some σ1∧fB σ1 c'.abs∧c'.cds=c.cds:=by
 obtain⟨ts⟩:=ts
 unfold VW at h
 split at h
 next t t2 hts=>
  simp only at hts
  subst hts
  split at h
  next e e2 hu hu2=>
   split at h
   next j hj=>
    split at h
    next z hz=>
     simp only[cond_eq_ite] at h
     split at h
     next hc=>
      simp only[Bool.and_eq_true] at hc
      have c1:=Nat.le_of_ble_eq_true hc.1
      have c2:=Nat.eq_of_beq_eq_true hc.2.1
      have c3:0<j.size:=by simpa [Nat.blt_eq] using hc.2.2
      obtain⟨e0,σ1,k1,k2,k3,k4⟩:=Qg c3 h hl
      refine⟨e0,σ1,?_,k2,k3,k4⟩
      unfold jr at k1
      simp only[jQ,hu,hu2,hj,hz]
      rw[if_pos ⟨c1,c2⟩]
      exact k1
     ·cases h
    ·cases h
   ·cases h
  ·cases h
 ·cases h
end
def YL (P:Program) (c:Cf) (dst:Option Tmp) (id:Nat) (k:Call):Option (Cf×List Prop):=
 match k.callee with
 | .builtin .append=>match k.args.toList with
  |[s,x]=>VW P c dst id k.argTypes.toList (ig c.toCs s) (ig c.toCs x)
  |_=>none
 |_=>none
def Iu (P:Program) (c:Cf) (dst:Option Tmp) (id:Nat) (op:Op):Option (Cf×List Prop):=
 match op with
 | .store t a x=>rH P c dst t (ig c.toCs a) (ig c.toCs x)
 | .makeSlice t n k=>Oq P c dst id t (ig c.toCs n) (ig c.toCs k)
 | .call k=>YL P c dst id k
 |_=>none
theorem KT {P:Program} {c c':Cf} {dst:Option Tmp} {id:Nat} {ty:TypeId} {op:Op} {l:List Prop} (h:Iu P c dst id op=some (c',l)) (hl:aJ l):
  ∃ e σ1,dR P c.abs.bk (bP c.abs) ty op=some e∧eY c.abs dst id e=some σ1∧fB σ1 c'.abs∧c'.cds=c.cds:=by
 unfold Iu at h
 split at h
 next t a x=>
  rw[dY] at h
  exact Ll h hl
 next t n k=>
  rw[dY] at h
  exact Qh h hl
 next k=>
  unfold YL at h
  split at h
  next hk=>
   split at h
   next s x ha=>
    rw[dY] at h
    obtain⟨callee,⟨args⟩,ts⟩:=k
    simp only at hk ha h
    subst hk
    subst ha
    obtain⟨e,σ1,k1,k2,k3,k4⟩:=Vd h hl
    exact⟨e,σ1,k1,k2,k3,k4⟩
   ·cases h
  ·cases h
 ·cases h
def ay.none:ay→ay
 | .ints k _=> .ints k []
 | .bools _=> .bools []
def ay.cut (k:Nat):ay→ay
 | .ints i xs=> .ints i (xs.take k)
 | .bools xs=> .bools (xs.take k)
theorem aaA (k:Nat) (c:ay):aC [c.cut k]=(aC [c]).take k:=by
 apply List.ext_getElem?
 intro m
 rw[List.getElem?_take,mG,mG]
 cases c with
 |ints i xs=>
  simp only[ay.cut,af,ay.len,List.length_take,List.length_cons,List.length_nil,Nat.zero_add,Nat.mul_one,Nat.mod_one,Nat.div_one]
  by_cases h:m<k
  ·by_cases h2:m<xs.length
   ·rw[if_pos (by omega),if_pos h,if_pos h2];simp[ay.val,List.getD_eq_getElem?_getD,List.getElem?_take,h]
   ·rw[if_neg (by omega),if_pos h,if_neg h2]
  ·rw[if_neg (by omega),if_neg h]
 |bools xs=>
  simp only[ay.cut,af,ay.len,List.length_take,List.length_cons,List.length_nil,Nat.zero_add,Nat.mul_one,Nat.mod_one,Nat.div_one]
  by_cases h:m<k
  ·by_cases h2:m<xs.length
   ·rw[if_pos (by omega),if_pos h,if_pos h2];simp[ay.val,List.getD_eq_getElem?_getD,List.getElem?_take,h]
   ·rw[if_neg (by omega),if_pos h,if_neg h2]
  ·rw[if_neg (by omega),if_neg h]
def yg (c:Cf):Cast→Option Cf
 | .cut id k=>match dA id c.bk with
  |some (.row [col] ro)=>some (c.setB id (.row [col.cut k] ro))
  |_=>Option.none
 | .nil t id sz cols=>match c.get t with
  | .emp=>bif Nat.blt 0 cols.length then some (((c.forget id).setB id (.row (cols.map ay.none) false)).put (some t) (.sl id 0 0 ⟨sz,0⟩)) else Option.none
  | .v (.slice Option.none 0 0)=>bif Nat.blt 0 cols.length then some (((c.forget id).setB id (.row (cols.map ay.none) false)).put (some t) (.sl id 0 0 ⟨sz,0⟩)) else Option.none
  |_=>Option.none
 | .cells id col=>match dA id c.bk with
  |some (.cells cs ro)=>match col.of cs with
   |some c'=>some (c.setB id (.row [c'] ro))
   |Option.none=>Option.none
  |_=>Option.none
 | .cnil b off id sz cols=>match dA b c.bk with
  |some (.cells cs false)=>match cs[off]? with
   |some .emp=>bif Nat.blt 0 cols.length && !(Nat.beq b id) then some (((c.forget id).setB id (.row (cols.map ay.none) false)).setB b (.cells ((cs.map (D.forget id)).set off (.sl id 0 0 ⟨sz,0⟩)) false)) else Option.none
   |some (.v (.slice Option.none 0 0))=>bif Nat.blt 0 cols.length && !(Nat.beq b id) then some (((c.forget id).setB id (.row (cols.map ay.none) false)).setB b (.cells ((cs.map (D.forget id)).set off (.sl id 0 0 ⟨sz,0⟩)) false)) else Option.none
   |_=>Option.none
  |_=>Option.none
def yh:List Cast→Cf→Option Cf
 |[],c=>some c
 |k::ks,c=>match yg c k with
  |some c'=>yh ks c'
  |Option.none=>Option.none
theorem lq {cols:List ay} (h:0<cols.length):aC (cols.map ay.none)=[]:=by
 apply List.length_eq_zero_iff.1
 rw[bn]
 cases cols with
 |nil=>simp at h
 |cons c cs=>simp only[List.map_cons,af];cases c<;>simp[ay.none,ay.len]
theorem OA {c c':Cf} {k:Cast} (h:yg c k=some c'):fB c.abs c'.abs∧c'.cds=c.cds:=by
 cases k with
 |cut id k=>
  simp only[yg] at h
  split at h
  next col ro hlk=>
   simp at h;subst h
   refine⟨?_,rfl⟩
   rw[bW,BX.blk,aaA]
   have hb:c.abs.bk id=some ⟨aC [col],ro⟩:=by
    show dQ id c.bk=_
    unfold dQ;rw[hlk];rfl
   exact fun w A β base tmps acts hr=>⟨β,Rel.cut hr hb k⟩
  ·cases h
 |nil t id sz cols=>
  simp only[yg] at h
  split at h
  next he=>
   simp only[cond_eq_ite] at h
   split at h
   next hb=>
    simp at h;subst h
    refine⟨?_,by simp[Cf.setB,Cf.forget]⟩
    rw[cZ,bW,dN,BX.blk,lq (by simpa [Nat.blt_eq] using hb)]
    exact IJ (.inl he)
   ·cases h
  next he=>
   simp only[cond_eq_ite] at h
   split at h
   next hb=>
    simp at h;subst h
    refine⟨?_,by simp[Cf.setB,Cf.forget]⟩
    rw[cZ,bW,dN,BX.blk,lq (by simpa [Nat.blt_eq] using hb)]
    exact IJ (.inr he)
   ·cases h
  ·cases h
 |cells id col=>
  simp only[yg] at h
  split at h
  next cs ro hlk=>
   split at h
   next c1 ho=>
    simp at h;subst h
    refine⟨?_,rfl⟩
    obtain⟨a1,a2⟩:=ay.AZ ho
    have hcells:aC [c1]=cs:=by
     apply List.ext_getElem?
     intro k
     rw[mG]
     have e1:af [c1]=cs.length:=a1
     rw[e1]
     simp only[List.length_cons,List.length_nil,Nat.zero_add,Nat.mul_one,Nat.mod_one,Nat.div_one]
     by_cases hk:k<cs.length
     ·rw[if_pos hk,a2 k hk];rfl
     ·rw[if_neg hk];exact(List.getElem?_eq_none (by omega)).symm
    rw[bW,BX.blk,hcells]
    have:c.abs.setB id ⟨cs,ro⟩=c.abs:=by
     simp only[St.setB]
     congr 1
     funext j
     by_cases e:j=id
     ·subst e;rw[if_pos rfl];exact(fP hlk).symm
     ·rw[if_neg e];rfl
    rw[this]
    exact fB.refl _
   ·cases h
  ·cases h
 |cnil b off id sz cols=>
  simp only[yg] at h
  split at h
  next cs hlk=>
   split at h
   next he=>
    simp only[cond_eq_ite] at h
    split at h
    next hb=>
     simp at h;subst h
     simp only[Bool.and_eq_true,Bool.not_eq_true'] at hb
     refine⟨?_,by simp[Cf.setB,Cf.forget]⟩
     rw[bW,bW,dN,BX.blk,BX.blk,lq (by simpa [Nat.blt_eq] using hb.1)]
     exact Eu (fun e=>by rw[e,iy] at hb;exact absurd hb.2 (by simp)) (show c.abs.bk b=some ⟨cs,false⟩ from fP hlk) (.inl he)
    ·cases h
   next he=>
    simp only[cond_eq_ite] at h
    split at h
    next hb=>
     simp at h;subst h
     simp only[Bool.and_eq_true,Bool.not_eq_true'] at hb
     refine⟨?_,by simp[Cf.setB,Cf.forget]⟩
     rw[bW,bW,dN,BX.blk,BX.blk,lq (by simpa [Nat.blt_eq] using hb.1)]
     exact Eu (fun e=>by rw[e,iy] at hb;exact absurd hb.2 (by simp)) (show c.abs.bk b=some ⟨cs,false⟩ from fP hlk) (.inr he)
    ·cases h
   ·cases h
  ·cases h
theorem uz:∀ {ks:List Cast} {c c':Cf},yh ks c=some c'→fB c.abs c'.abs∧c'.cds=c.cds
 |[],c,c',h=>by simp[yh] at h;subst h;exact⟨fB.refl _,rfl⟩
 |k::ks,c,c',h=>by
  simp only[yh] at h
  split at h
  next c1 h1=>
   obtain⟨a1,a2⟩:=OA h1
   obtain⟨b1,b2⟩:=uz h
   exact⟨a1.trans b1,b2.trans a2⟩
  ·cases h
end
noncomputable section
def AA (i:Nat):List (Nat×BX)→List (Nat×BX)
 |[]=>[]
 |(j,c)::l=>bif Nat.beq j i then AA i l else(j,c)::AA i l
theorem Ea (i j:Nat):∀ l,dA j (AA i l)=if j=i then none else dA j l
 |[]=>by simp[AA,dA]
 |(k,c)::l=>by
  simp only[AA]
  by_cases hk:k=i
  ·subst hk
   rw[iy,cond_true,Ea k j l]
   by_cases e:j=k
   ·simp[e]
   ·simp[e,dA,jD (Ne.symm e)]
  ·rw[jD hk,cond_false]
   simp only[dA,Ea i j l]
   by_cases h:k=j
   ·subst h;simp[hk]
   ·simp[jD h]
def Cf.AA (c:Cf) (i:Nat):Cf:={ c with bk:=Go.Dam.AA i c.bk }
theorem afW (c:Cf) (i:Nat):(c.AA i).abs=c.abs.je i:=by
 simp only[Cf.AA,Cf.abs,Cs.abs,St.je]
 congr 1
 funext j
 simp only[dQ,Ea]
 split<;>rfl
def Ik (c:Cf) (bytes size:Nat) (s x:D):Option (Nat×Nat×List ay×List Prop):=
 match s with
 | .sl i off n sz=>match dA i c.bk with
  |some (.row cols false)=>match x.elems c.look size with
   |some (1,ds)=>match kX cols ds with
    |some c0=>match jX cols c0 with
     |some es=>bif Nat.beq off 0 && (Nat.beq sz.s size && Nat.beq cols.length size) then some (i,n,es,((n+1)*bytes≤2 ^ 44)::(n=af cols)::wL (af cols) cols) else none
     |none=>none
    |none=>none
   |_=>none
  |_=>none
 |_=>none
def QB (P:Program) (c:Cf) (ts:List TypeId) (s x:D):Option (Nat×Nat×Nat×List ay×List Prop):=
 match ts with
 |[t,t2]=>match P.underlying t,P.underlying t2 with
  |some (.slice e),some (.slice _)=>match P.info? e with
   |some j=>match j.zero with
    |some z=>bif Nat.ble 1 j.bytes && (Nat.beq z.cells.size j.size && Nat.blt 0 j.size) then(match Ik c j.bytes j.size s x with | some (i,n,es,l)=>some (i,n,j.size,es,l) | none=>none) else none
    |none=>none
   |none=>none
  |_,_=>none
 |_=>none
theorem KY {c:Cf} {bytes size i n:Nat} {s x:D} {es:List ay} {l:List Prop} (hp:0<size) (h:Ik c bytes size s x=some (i,n,es,l)) (hl:aJ l):
  ∃ sz ds cells,s= .sl i 0 n sz∧jr c.abs.bk bytes size s x=some (.app (.sl i 0 n sz) size 1 ds)∧c.abs.bk i=some ⟨cells,false⟩∧n*size≤cells.length∧aC es=cells.take (n*size) ++ ds:=by
 unfold Ik at h
 split at h
 next i off n sz=>
  split at h
  next cols hlk=>
   split at h
   next ds hel=>
    split at h
    next c0 hlike=>
     split at h
     next es hj=>
      simp only[cond_eq_ite] at h
      split at h
      next hc=>
       simp only[Option.some.injEq,Prod.mk.injEq] at h
       obtain⟨rfl,rfl,rfl,rfl⟩:=h
       simp only[Bool.and_eq_true] at hc
       obtain rfl:=Nat.eq_of_beq_eq_true hc.1
       have e2:=Nat.eq_of_beq_eq_true hc.2.1
       have hcl:=Nat.eq_of_beq_eq_true hc.2.2
       obtain⟨a1,a2⟩:=hl
       have hb:Jg c.bk size c0 i n=some (cols,(n=af cols)::wL (af cols) cols):=by
        unfold Jg;rw[hlk];simp only[cond_eq_ite];rw[if_pos hc.2.2]
       obtain⟨cells,k1,k2,k3,k4,k5⟩:=zY hb a2
       obtain⟨b1,b2,b3⟩:=mM hlike
       have hel:x.elems c.abs.bk size=some (1,ds):=hel
       have hne:cols≠[]:=by rintro rfl;simp at hcl;omega
       have hds:=xA hne hlike
       have hone:ds.all D.one=true:=by rw[←hds];exact iT
       have hcells:=o9 hne hj k5 b2
       refine⟨sz,ds,cells,rfl,?_,k1,k2,by rw[hcells,hds,k3]⟩
       simp only[jr,hel,hone,if_true,if_pos (show sz.s=size∧(n+1)*bytes≤2 ^ 44 from⟨e2,a1⟩),kJ]
      ·cases h
     ·cases h
    ·cases h
   ·cases h
  ·cases h
 ·cases h
theorem QT {P:Program} {c:Cf} {ts:Array TypeId} {i n size:Nat} {s x:D} {es:List ay} {l:List Prop} (h:QB P c ts.toList s x=some (i,n,size,es,l)) (hl:aJ l):
  ∃ sz ds cells,s= .sl i 0 n sz∧jQ P c.abs.bk ts s x=some (.app (.sl i 0 n sz) size 1 ds)∧c.abs.bk i=some ⟨cells,false⟩∧n*size≤cells.length∧aC es=cells.take (n*size) ++ ds:=by
 obtain⟨ts⟩:=ts
 unfold QB at h
 split at h
 next t t2 hts=>
  simp only at hts
  subst hts
  split at h
  next e e2 hu hu2=>
   split at h
   next j hj=>
    split at h
    next z hz=>
     simp only[cond_eq_ite] at h
     split at h
     next hc=>
      simp only[Bool.and_eq_true] at hc
      have c1:=Nat.le_of_ble_eq_true hc.1
      have c2:=Nat.eq_of_beq_eq_true hc.2.1
      have c3:0<j.size:=by simpa [Nat.blt_eq] using hc.2.2
      split at h
      next i n es l hg=>
       simp only[Option.some.injEq,Prod.mk.injEq] at h
       obtain⟨rfl,rfl,rfl,rfl,rfl⟩:=h
       obtain⟨sz,ds,cells,k0,k1,k2,k3,k4⟩:=KY c3 hg hl
       refine⟨sz,ds,cells,k0,?_,k2,k3,k4⟩
       unfold jr at k1
       simp only[jQ,hu,hu2,hj,hz]
       rw[if_pos ⟨c1,c2⟩]
       exact k1
      ·cases h
     ·cases h
    ·cases h
   ·cases h
  ·cases h
 ·cases h
end
def Hq (P:Program) (c:Cf) (ts:List TypeId) (s x:D):Option (Nat×Nat×List ay×List Prop):=
 match ts with
 |[t,t2]=>match P.underlying t,P.underlying t2 with
  |some (.slice e),some (.slice _)=>match P.info? e with
   |some j=>match j.zero with
    |some z=>bif Nat.ble 1 j.bytes && (Nat.beq z.cells.size j.size && Nat.blt 0 j.size) then(match s with
     | .emp=>match Wv c.bk j.size x with
      |some (m,c0,l)=>some (m,j.size,c0,(m*j.bytes≤2 ^ 44)::l)
      |none=>none
     |_=>none) else none
    |none=>none
   |none=>none
  |_,_=>none
 |_=>none
theorem LJ {P:Program} {c:Cf} {ts:Array TypeId} {m size:Nat} {s x:D} {c0:List ay} {l:List Prop} (h:Hq P c ts.toList s x=some (m,size,c0,l)) (hl:aJ l):
  s= .emp∧jQ P c.abs.bk ts s x=some (kJ .emp size m (aC c0))∧(m=0→aC c0=[]):=by
 obtain⟨ts⟩:=ts
 unfold Hq at h
 split at h
 next t t2 hts=>
  simp only at hts
  subst hts
  split at h
  next e e2 hu hu2=>
   split at h
   next j hj=>
    split at h
    next z hz=>
     simp only[cond_eq_ite] at h
     split at h
     next hc=>
      simp only[Bool.and_eq_true] at hc
      have c1:=Nat.le_of_ble_eq_true hc.1
      have c2:=Nat.eq_of_beq_eq_true hc.2.1
      have c3:0<j.size:=by simpa [Nat.blt_eq] using hc.2.2
      split at h
      ·split at h
       next m c0 l hs=>
        simp only[Option.some.injEq,Prod.mk.injEq] at h
        obtain⟨rfl,rfl,rfl,rfl⟩:=h
        obtain⟨h1,h2⟩:=hl
        obtain⟨k1,k2,k3,k4⟩:=rJ hs h2
        have k1:x.elems c.abs.bk j.size=some (m,aC c0):=k1
        refine⟨rfl,?_,fun hm=>?_⟩
        ·simp only[jQ,hu,hu2,hj,hz]
         rw[if_pos ⟨c1,c2⟩]
         show jr c.abs.bk j.bytes j.size .emp x=_
         simp only[jr,k1,iT,if_true,if_pos h1]
        ·subst hm
         have hne0:c0≠[]:=by rintro rfl;simp at k2;omega
         apply List.length_eq_zero_iff.1
         rw[bn,gZ hne0 k3];simp
       ·cases h
      ·cases h
     ·cases h
    ·cases h
   ·cases h
  ·cases h
 ·cases h
def Kt (c:Cf) (bytes size:Nat) (s x:D):Option (Nat×Nat×Nat×List ay×List Prop):=
 match s with
 | .sl i off n sz=>match Wv c.bk size x with
  |some (m,c0,l)=>match Jg c.bk size c0 i n with
   |some (cols,l2)=>match jX cols c0 with
    |some es=>bif Nat.beq off 0 && Nat.beq sz.s size then some (i,n,m,es,((n+m)*bytes≤2 ^ 44)::(l2 ++ l)) else none
    |none=>none
   |none=>none
  |none=>none
 |_=>none
theorem KP {c:Cf} {bytes size i n m:Nat} {s x:D} {es:List ay} {l:List Prop} (hp:0<size) (h:Kt c bytes size s x=some (i,n,m,es,l)) (hl:aJ l):
  ∃ sz ds cells,s= .sl i 0 n sz∧jr c.abs.bk bytes size s x=some (kJ (.sl i 0 n sz) size m ds)∧(m=0→ds=[]∧sz.s=size)∧c.abs.bk i=some ⟨cells,false⟩∧n*size≤cells.length∧aC es=cells.take (n*size) ++ ds:=by
 unfold Kt at h
 split at h
 next i off n sz=>
  split at h
  next m c0 l1 hs=>
   split at h
   next cols l2 hb=>
    split at h
    next es hj=>
     simp only[cond_eq_ite] at h
     split at h
     next hc=>
      simp only[Option.some.injEq,Prod.mk.injEq] at h
      obtain⟨rfl,rfl,rfl,rfl,rfl⟩:=h
      simp only[Bool.and_eq_true] at hc
      obtain rfl:=Nat.eq_of_beq_eq_true hc.1
      have e2:=Nat.eq_of_beq_eq_true hc.2
      obtain⟨a1,a2⟩:=hl
      rw[aZ] at a2
      obtain⟨k1,k2,k3,k4⟩:=rJ hs a2.2
      have k1:x.elems c.abs.bk size=some (m,aC c0):=k1
      obtain⟨cells,b1,b2,b3,b4,b5⟩:=zY hb a2.1
      have hne:cols≠[]:=by rintro rfl;simp at b4;omega
      have hne0:c0≠[]:=by rintro rfl;simp at k2;omega
      have hcells:=o9 hne hj b5 k3
      refine⟨sz,aC c0,cells,rfl,?_,fun hm=>⟨?_,e2⟩,b1,b2,by rw[hcells,b3]⟩
      ·simp only[jr,k1,iT,if_true,if_pos (show sz.s=size∧(n+m)*bytes≤2 ^ 44 from⟨e2,a1⟩)]
      ·subst hm
       apply List.length_eq_zero_iff.1
       rw[bn,gZ hne0 k3];simp
     ·cases h
    ·cases h
   ·cases h
  ·cases h
 ·cases h
def QK (P:Program) (c:Cf) (ts:List TypeId) (s x:D):Option (Nat×Nat×Nat×Nat×List ay×List Prop):=
 match ts with
 |[t,t2]=>match P.underlying t,P.underlying t2 with
  |some (.slice e),some (.slice _)=>match P.info? e with
   |some j=>match j.zero with
    |some z=>bif Nat.ble 1 j.bytes && (Nat.beq z.cells.size j.size && Nat.blt 0 j.size) then(match Kt c j.bytes j.size s x with | some (i,n,m,es,l)=>some (i,n,m,j.size,es,l) | none=>none) else none
    |none=>none
   |none=>none
  |_,_=>none
 |_=>none
theorem QD {P:Program} {c:Cf} {ts:Array TypeId} {i n m size:Nat} {s x:D} {es:List ay} {l:List Prop} (h:QK P c ts.toList s x=some (i,n,m,size,es,l)) (hl:aJ l):
  ∃ sz ds cells,s= .sl i 0 n sz∧jQ P c.abs.bk ts s x=some (kJ (.sl i 0 n sz) size m ds)∧(m=0→ds=[]∧sz.s=size)∧c.abs.bk i=some ⟨cells,false⟩∧n*size≤cells.length∧aC es=cells.take (n*size) ++ ds:=by
 obtain⟨ts⟩:=ts
 unfold QK at h
 split at h
 next t t2 hts=>
  simp only at hts
  subst hts
  split at h
  next e e2 hu hu2=>
   split at h
   next j hj=>
    split at h
    next z hz=>
     simp only[cond_eq_ite] at h
     split at h
     next hc=>
      simp only[Bool.and_eq_true] at hc
      have c1:=Nat.le_of_ble_eq_true hc.1
      have c2:=Nat.eq_of_beq_eq_true hc.2.1
      have c3:0<j.size:=by simpa [Nat.blt_eq] using hc.2.2
      split at h
      next i n m es l hg=>
       simp only[Option.some.injEq,Prod.mk.injEq] at h
       obtain⟨rfl,rfl,rfl,rfl,rfl,rfl⟩:=h
       obtain⟨sz,ds,cells,k0,k1,k2⟩:=KP c3 hg hl
       refine⟨sz,ds,cells,k0,?_,k2⟩
       unfold jr at k1
       simp only[jQ,hu,hu2,hj,hz]
       rw[if_pos ⟨c1,c2⟩]
       exact k1
      ·cases h
     ·cases h
    ·cases h
   ·cases h
  ·cases h
 ·cases h
end Go.Dam
end
