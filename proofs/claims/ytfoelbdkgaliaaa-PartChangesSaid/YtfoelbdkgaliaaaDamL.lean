/- The engine: an abstract machine for the program's functions, proved right against the model. No condition. -/
import Derived.Test.YtfoelbdkgaliaaaDamJ
import Derived.IntWalk
set_option linter.unusedSectionVars false
set_option linter.unusedVariables false
set_option linter.unusedSimpArgs false
section
namespace Go.Dam
open Go Go.RowKit
variable [gB]
section
variable {P:Program} {w:World} {A:Nat→Prop} {β:Env} {base:Nat} {σ:St} {tmps:Array Value} {acts:List (Array Value)}
theorem qZ (z:Array Value) (n:Nat):((Array.range (n*z.size)).map fun i=>z[i%z.size]!)=(List.replicate n z.toList).flatten.toArray:=by
 induction n with
 |zero=>simp
 |succ n ih=>
  apply Array.ext'
  have h1:=congrArg Array.toList ih
  simp only[Array.toList_map,Array.toList_range] at h1 ⊢
  rw[Nat.succ_mul,List.range_add,List.map_append,h1,List.replicate_succ',List.flatten_append]
  simp only[List.map_map]
  congr 1
  simp only[List.flatten_cons,List.flatten_nil,List.append_nil]
  apply List.ext_getElem?
  intro i
  rcases Nat.lt_or_ge i z.size with h | h
  ·simp[h,Nat.mod_eq_of_lt h]
  ·simp[h]
theorem H7 (z:Array Value) (n:Nat):aF w A β (List.replicate n (z.toList.map D.v)).flatten (List.replicate n z.toList).flatten:=by
 induction n with
 |zero=>simp[aF]
 |succ n ih=>simp only[List.replicate_succ,List.flatten_cons];exact(aF.l7 _).append ih
theorem BF {t:TypeId} {l c:D} {vl vc:Value} (hl:Rep w A β l vl) (hc:Rep w A β c vc) {e:Eff} (h:jX P t l c=some e):
  Good P w A β (((Instr.makeSlice t vl vc).run P w).andThen fun v w'=> .ok (.value v) w') e:=by
 unfold jX at h
 split at h
 next elem li ci hu h1 h2=>
  obtain⟨k1,rfl⟩:=iy hl h1
  obtain⟨k2,rfl⟩:=iy hc h2
  split at h
  next j zs hj hz=>
   obtain⟨j',z,hj',hzz,rfl⟩:=oH hz
   rw[hj] at hj';cases hj'
   split at h
   next hb=>
    simp at h;subst h
    obtain⟨b1,b2,b3,b4,b5⟩:=hb
    have b5':z.cells.size=j.size:=by simpa using b5
    have e1:IntKind.i64.wrap li=li:=IntWalk.i64_in li (by omega)
    have e2:IntKind.i64.wrap ci=ci:=IntWalk.i64_in ci (by omega)
    have b3':j.bytes*ci≤2 ^ 40:=by rw[Int.mul_comm];exact b3
    refine⟨elem,(List.replicate ci.toNat z.cells.toList).flatten,ci.toNat,H7 _ _,by omega,?_,?_⟩
    ·simp[b5']
    ·have hn1':¬ ((281474976710656:Int)<j.bytes*ci):=by omega
     have hn2:¬ ci<0:=by omega
     have hn3:¬ li<0:=by omega
     have hn4:¬ ci<li:=by omega
     simp only[Instr.makeSlice,Sem.run_bind,run_underlying hu,Result.andThen_ok,asInt,asIntOf,Sem.run_pure,run_typeInfo hj,e1,e2]
     simp[hn1',hn2,hn3,hn4,run_sizeOf hj,newRow]
     have hm:=qZ z.cells ci.toNat
     rw[b5'] at hm
     by_cases h0:ci.toNat*j.size=0
     ·rw[if_pos h0]
      rw[h0] at hm ⊢
      rw[←hm]
      simp[show Array.range 0=#[] from rfl]
     ·rw[if_neg h0]
      simp[gq hj hzz,b5',hm]
   ·cases h
  ·cases h
 ·cases h
theorem xA (place:Nat→Option (Nat×Nat)):∀ (parts:List (Nat×D)) (cells out:List D),uY place cells parts=some out→out.length=cells.length
 |[],cells,out,h=>by simp[uY] at h;rw[h]
 |(i,x)::rest,cells,out,h=>by
  simp only[uY] at h
  split at h
  next off size ds hp hc=>
   split at h
   next hl=>
    rw[xA place rest _ _ h]
    simp[splice];omega
   ·cases h
  ·cases h
theorem yZ {ρ:Operand→D} {ρv:Operand→Value} (hρ:∀ x,Rep w A β (ρ x) (ρv x)) {t:TypeId} {len:Nat} {parts:Array (Nat×Operand)} {e:Eff} (h:mZ P t len (parts.toList.map fun p=>(p.1,ρ p.2))=some e):
  Good P w A β (((Instr.buildSlice t len (parts.map fun (i,x)=>(i,ρv x))).run P w).andThen fun v w'=> .ok (.value v) w') e:=by
 have hp:(parts.map fun (i,x)=>(i,ρv x)).toList=parts.toList.map fun p=>(p.1,ρv p.2):=by simp
 unfold mZ at h
 split at h
 next elem hu=>
  split at h
  next j zs hj hz=>
   obtain⟨j',z,hj',hzz,rfl⟩:=oH hz
   rw[hj] at hj';cases hj'
   split at h
   next hb=>
    simp only[Option.map_eq_some_iff] at h
    obtain⟨cs,hf,rfl⟩:=h
    have b5:z.cells.size=j.size:=by simpa using hb.2
    have hm:=qZ z.cells len
    rw[b5] at hm
    obtain⟨vout,k1,k2⟩:=pI _ _ _ _ (List.replicate len z.cells.toList).flatten.toArray _ (pq hρ parts.toList) (H7 _ _) hf
    have hlen:=k2.length
    have hcs:cs.length=len*j.size:=by
     have:=xA _ _ _ _ hf
     rw[this];simp[b5]
    suffices hrun:(((Instr.buildSlice t len (parts.map fun (i,x)=>(i,ρv x))).run P w).andThen fun v w'=>Result.ok (Next.value v) w')= .ok (.value (.slice (some ⟨w.heap.size,0,none⟩) len len)) (w.alloc (.cells vout.toList.toArray elem)) by
     cases len with
     |zero=>exact⟨elem,vout.toList.toArray,hrun⟩
     |succ n=>exact⟨elem,vout.toList,n+1,k2,Nat.le_refl _,by rw[hlen,hcs];exact Nat.le_refl _,hrun⟩
    have hn:¬ (len*j.size > 2 ^ 24):=by omega
    simp only[Instr.buildSlice,Sem.run_bind,run_underlying hu,Result.andThen_ok,run_sizeOf hj,hn,if_false]
    by_cases h0:len*j.size=0
    ·have hm0:((Array.range (len*j.size)).map fun i=>(#[]:Array Value)[i%(#[]:Array Value).size]!)=(List.replicate len z.cells.toList).flatten.toArray:=by
      rw[←hm,h0];simp[show Array.range 0=#[] from rfl]
     simp only[if_pos h0,Sem.run_bind,Sem.run_pure,Result.andThen_ok,hm0,hp,k1]
     rfl
    ·simp only[if_neg h0,Sem.run_bind,Sem.run_pure,Result.andThen_ok,gq hj hzz,b5,hm,hp,k1]
     rfl
   ·cases h
  ·cases h
 ·cases h
theorem Uu {t:TypeId} {x:D} {vx:Value} (hx:Rep w A β x vx) {ty:TypeId} {e:Eff} (h:lenD P t x=some e):∃ d u,e= .val d∧(Builtin.len_ #[t] ty #[vx]).run P w= .ok u w∧Rep w A β d u:=by
 unfold lenD at h
 split at h
 next el hu=>
  split at h
  ·simp at h;subst h
   simp only[Rep,aC] at hx
   obtain⟨o,c,rfl,_⟩:=hx
   exact⟨_,_,rfl,by simp[Builtin.len_,run_underlying hu];rfl,by simp[Rep,aC]⟩
  ·simp at h;subst h
   simp only[Rep] at hx
   obtain⟨o,c,rfl,_⟩:=hx
   exact⟨_,_,rfl,by simp[Builtin.len_,run_underlying hu];rfl,by simp[Rep,aC]⟩
  ·simp at h;subst h
   simp only[Rep,aC] at hx;subst hx
   exact⟨_,_,rfl,by simp[Builtin.len_,run_underlying hu];rfl,by simp[Rep,aC]⟩
  ·simp at h;subst h
   simp only[Rep,aC] at hx
   obtain⟨o,rfl⟩:=hx
   exact⟨_,_,rfl,by simp[Builtin.len_,run_underlying hu];rfl,by simp[Rep,aC,goInt]⟩
  ·simp at h;subst h
   simp only[Rep,aC] at hx
   obtain⟨o,c,rfl,_⟩:=hx
   exact⟨_,_,rfl,by simp[Builtin.len_,run_underlying hu];rfl,by simp[Rep,aC]⟩
  ·cases h
 next hu=>
  split at h
  ·simp at h;subst h
   simp only[Rep,aC] at hx;subst hx
   exact⟨_,_,rfl,by simp[Builtin.len_,run_underlying hu];rfl,by simp[Rep,aC]⟩
  ·cases h
 next n el hu=>
  simp at h;subst h
  exact⟨_,_,rfl,by simp[Builtin.len_,run_underlying hu];rfl,by simp[Rep,aC]⟩
 ·cases h
theorem wo {ad:Addr} {cs:List D} (hs:ad.spot=none) (hc:aZ w A β cs ad):∃ vs:List Value,(∀ w':World,w'.heap=w.heap→(loadCells ad cs.length).run P w'= .ok vs.toArray w')∧aF w A β cs vs:=by
 obtain⟨vs,k1,k2⟩:=nC P hs hc
 refine⟨vs,fun w' hw'=>?_,k2⟩
 have hx':Ext A w w':= .of_heap hw'
 obtain⟨vs',k3,k4⟩:=nC P hs (aZ.mono (β':=β) hx' (fun _ h=>h) _ _ (by rw[hw']) (fun _ _=>rfl) hc)
 have hsame:∀ (n i:Nat) (acc:Array Value) (r:Array Value),(loadCellsFrom ad i n acc).run P w= .ok r w→(∀ j,j<n→(w.cell? (aG ad (i+j))).isSome=true)→(loadCellsFrom ad i n acc).run P w'= .ok r w':=by
  intro n
  induction n with
  |zero=>intro i acc r h _;simp[loadCellsFrom] at h ⊢;exact h
  |succ n ih=>
   intro i acc r h hj
   obtain⟨u,hu⟩:=Option.isSome_iff_exists.1 (hj 0 (by omega))
   have hu':w'.cell? (aG ad (i+0))=some u:=by rw[←hu];exact jP (by rw[hw'])
   simp only[Nat.add_zero] at hu hu'
   simp only[loadCellsFrom,Sem.run_bind,run_load,cO _ _ hs,hu,hu',Result.andThen_ok] at h ⊢
   exact ih (i+1) _ r h (fun j hlt=>by rw[show i+1+j=i+(j+1) from by omega];exact hj (j+1) (by omega))
 exact hsame _ 0 #[] _ k1 (fun j hj=>by
  obtain⟨u,hu,_⟩:=hc.get hs j _ (List.getElem?_eq_getElem hj)
  rw[Nat.zero_add,hu];rfl)
theorem Jc:∀ (xs ys:List D) (ad:Addr),ad.spot=none→bC w A xs ad→bC w A ys (aG ad xs.length)→bC w A (xs ++ ys) ad
 |[],ys,ad,hs,_,h=>by rw[List.length_nil,yg hs] at h;exact h
 |x::xs,ys,ad,hs,h1,h2=>by
  simp only[List.cons_append,bC] at h1 ⊢
  refine⟨h1.1,Jc xs ys (aG ad 1) rfl h1.2 ?_⟩
  rw[dh,Nat.add_comm 1,←List.length_cons (a:=x)]
  exact h2
theorem qE (cs:List Col):(gX cs).length=rowLen cs*cs.length:=by
 unfold gX
 rw[List.length_flatMap]
 simp[List.map_const']
theorem Rx.sh {cs:List Col} {u:Value} (h:Rx w A cs u):aC w A (.sh (rowLen cs) (gX cs)) u:=by
 obtain⟨o,cp,rfl,_,h1,h2,h3⟩:=h
 simp only[aC]
 have hz:rowLen cs=0→gX cs=[]:=fun e=>by simp[gX,e]
 refine⟨o,cp,rfl,h1,fun h=>h2 (fun e=>by rcases h with h | h;exact h e;exact h (hz e)),?_⟩
 by_cases hn:rowLen cs=0
 ·rw[hz hn];simp[bC]
 ·obtain⟨ad,rfl,h4,h5⟩:=h2 hn
  simp only[Option.getD_some] at h3 ⊢
  have key:∀ n,n≤rowLen cs→bC w A ((List.range n).flatMap fun i=>cs.map (Col.cell i)) ad:=by
   intro n
   induction n with
   |zero=>intro _;simp[bC]
   |succ n ih=>
    intro hle
    rw[List.range_succ,List.flatMap_append]
    refine Jc _ _ _ h4 (ih (by omega)) ?_
    have hl:((List.range n).flatMap fun i=>cs.map (Col.cell i)).length=n*cs.length:=by rw[List.length_flatMap];simp[List.map_const']
    rw[hl]
    simp only[List.flatMap_cons,List.flatMap_nil,List.append_nil]
    exact cells_at cs _ (fun j c hj=>by rw[dh];exact h3 n j c (by omega) hj) rfl
  exact key _ (Nat.le_refl _)
theorem Wy {size n:Nat} {cs:List D} {vx:Value} (hx:aC w A (.sh n cs) vx) (hl:n*size=cs.length):∃ vs,Src P w size n vx vs∧aF w A β cs vs∧cs.length=n*size:=by
 simp only[aC] at hx
 obtain⟨o,c,rfl,hnc,h1,h2⟩:=hx
 by_cases hz:n*size=0
 ·have hnil:cs=[]:=List.length_eq_zero_iff.1 (by omega)
  subst hnil
  refine⟨[],⟨by simp[Builtin.lenOf],fun w' _=>?_⟩,by simp[aF],by simp[hz]⟩
  cases o<;>simp[Builtin.firstCells,hz,loadCells,loadCellsFrom]
 ·obtain⟨ad,rfl,h3,h4⟩:=h1 (.inl (by intro h;subst h;simp at hz))
  obtain⟨vs,k1,k2⟩:=wo (P:=P) h3 (bC.tK (fun d u h=>aC.rep (β:=β) d u h) h2)
  refine⟨vs,⟨by simp[Builtin.lenOf],fun w' hw'=>?_⟩,k2,hl.symm⟩
  rw[←hl] at k1
  simp[Builtin.firstCells,k1 w' hw']
theorem Bd (hrel:Rel w A β base σ tmps acts) {size:Nat} {x:D} {vx:Value} (hx:Rep w A β x vx) {m:Nat} {ds:List D} (h:x.elems σ.bk size=some (m,ds)):
  ∃ vs,Src P w size m vx vs∧aF w A β ds vs∧ds.length=m*size:=by
 have hload:∀ (ad:Addr) (cs:List D),ad.spot=none→aZ w A β cs ad→∃ vs:List Value,(∀ w':World,w'.heap=w.heap→(loadCells ad cs.length).run P w'= .ok vs.toArray w')∧aF w A β cs vs:=fun ad cs hs hc=>wo hs hc
 cases x with
 |sh n cs=>
  simp only[D.elems] at h
  split at h
  next hl=>
   simp at h;obtain⟨rfl,rfl⟩:=h
   simp only[Rep,aC] at hx
   obtain⟨o,c,rfl,hnc,h1,h2⟩:=hx
   by_cases hz:n*size=0
   ·have hnil:cs=[]:=List.length_eq_zero_iff.1 (by omega)
    subst hnil
    refine⟨[],⟨by simp[Builtin.lenOf],fun w' _=>?_⟩,by simp[aF],by simp[hz]⟩
    cases o<;>simp[Builtin.firstCells,hz,loadCells,loadCellsFrom]
   ·obtain⟨ad,rfl,h3,h4⟩:=h1 (.inl (by intro h;subst h;simp at hz))
    obtain⟨vs,k1,k2⟩:=hload ad cs h3 (bC.tK (fun d u h=>aC.rep d u h) h2)
    refine⟨vs,⟨by simp[Builtin.lenOf],fun w' hw'=>?_⟩,k2,hl.symm⟩
    rw[←hl] at k1
    simp[Builtin.firstCells,k1 w' hw']
  ·cases h
 |sl id off n sz=>
  simp only[D.elems] at h
  split at h
  next b hb=>
   split at h
   next hl=>
    simp at h;obtain⟨rfl,rfl⟩:=h
    obtain⟨sz,r⟩:=sz
    simp only at hl
    obtain⟨rfl,hl⟩:=hl
    have hlen:((b.cells.drop off).take (n*sz)).length=n*sz:=by simp;omega
    simp only[Rep] at hx
    obtain⟨o,c,rfl,hx⟩:=hx
    by_cases hz:n*sz=0
    ·refine⟨[],⟨by simp[Builtin.lenOf],fun w' _=>?_⟩,by rw[hz];simp[aF],hlen⟩
     cases o<;>simp[Builtin.firstCells,hz,loadCells,loadCellsFrom]
    ·rcases hx with⟨h1,_⟩ | ⟨_,ad,h1,rfl,_⟩
     ·obtain rfl:n=0:=by omega
      simp at hz
     ·rcases hrel.blk id b hb with⟨h2,_⟩ | ⟨ad',h2,h3⟩
      ·rw[h1] at h2;cases h2
      ·rw[h1] at h2;cases h2
       obtain⟨vs,k1,k2⟩:=hload (aG ad off) _ rfl ((h3.cells.drop h3.spot off).take rfl (n*sz))
       refine⟨vs,⟨by simp[Builtin.lenOf],fun w' hw'=>?_⟩,k2,hlen⟩
       rw[hlen] at k1
       simp[Builtin.firstCells,k1 w' hw']
   ·cases h
  ·cases h
 |v y=>
  have hy:y= .slice none 0 0∧m=0∧ds=[]:=by
   cases y with
   |slice o n c=>
    cases o with
    |none=>
     cases n with
     |zero=>
      cases c with
      |zero=>simp[D.elems] at h;exact⟨rfl,h.1.symm,h.2⟩
      |succ c=>simp[D.elems] at h
     |succ n=>simp[D.elems] at h
    |some a=>simp[D.elems] at h
   |_=>simp[D.elems] at h
  obtain⟨rfl,rfl,rfl⟩:=hy
  simp only[Rep,aC] at hx;subst hx
  exact⟨[],⟨by simp[Builtin.lenOf],fun w' _=>by simp[Builtin.firstCells]⟩,by simp[aF],by simp⟩
 |rc cs=>
  simp only[D.elems] at h
  split at h
  next hl=>
   simp at h;obtain⟨rfl,rfl⟩:=h
   simp only[Rep,aC] at hx
   exact Wy hx.sh (by rw[qE,hl])
  ·cases h
 |emp=>
  simp only[D.elems,Option.some.injEq,Prod.mk.injEq] at h
  obtain⟨rfl,rfl⟩:=h
  simp only[Rep,aC] at hx
  obtain⟨o,rfl⟩:=hx
  refine⟨[],⟨by simp[Builtin.lenOf],fun w' _=>?_⟩,by simp[aF],by simp⟩
  cases o<;>simp[Builtin.firstCells,loadCells,loadCellsFrom]
 |_=>simp[D.elems] at h
end
end Go.Dam
end

section
namespace Go.Dam
open Go Go.RowKit
variable [gB]
section
variable {P:Program} {w:World} {A:Nat→Prop} {β:Env} {base:Nat} {σ:St} {tmps:Array Value} {acts:List (Array Value)}
theorem iZ {s:Sem Value} {e:Eff} (h:∃ d u,e= .val d∧s.run P w= .ok u w∧Rep w A β d u):Good P w A β ((s.run P w).andThen fun v w'=> .ok (.value v) w') e:=by
 obtain⟨d,u,rfl,h1,h2⟩:=h
 exact⟨u,by rw[h1];rfl,h2⟩
theorem mV {s:Sem Value} {e:Eff} (h:Good P w A β ((s.run P w).andThen fun v w'=> .ok (.value v) w') e):Good P w A β ((s >>= fun v=>(pure (Next.value v):Sem Next)).run P w) e:=by
 rw[Sem.run_bind];exact h
theorem oK {s:Sem Value} {e:Eff} (h:qF P s=some e):Good P w A β ((s.run P w).andThen fun v w'=> .ok (.value v) w') e:=by
 obtain⟨u,h1,rfl⟩:=MZ (w:=w) h
 exact⟨u,by rw[h1];rfl,Rep.l7 u⟩
theorem ny {ρ:Operand→D} {ρv:Operand→Value} (hρ:∀ x,Rep w A β (ρ x) (ρv x)):∀ (xs:List Operand) (vs:List Value),D.qX (xs.map ρ)=some vs→xs.map ρv=vs
 |[],vs,h=>by simp[D.qX] at h;simp[h]
 |x::xs,vs,h=>by
  simp only[D.qX,List.map_cons,List.mapM_cons,Option.bind_eq_bind,Option.bind_eq_some_iff,Option.pure_def,Option.some.injEq] at h
  obtain⟨u,h1,us,h2,rfl⟩:=h
  simp only[List.map_cons,ny hρ xs us h2,(hρ x).plain h1]
theorem kT {ρ:Operand→D} {ρv:Operand→Value} (hρ:∀ x,Rep w A β (ρ x) (ρv x)):∀ (xs:List Operand),aF w A β (xs.map ρ) (xs.map ρv)
 |[]=>by simp[aF]
 |x::xs=>by simp only[List.map_cons,aF];exact⟨_,_,rfl,hρ x,kT hρ xs⟩
theorem Rw (hrel:Rel w A β base σ tmps acts) {ts:Array TypeId} {ty:TypeId} {d x:D} {vd vx:Value} (hd:Rep w A β d vd) (hx:Rep w A β x vx) {e:Eff} (h:RF P σ.bk ts d x=some e):
  Good P w A β (((Builtin.copy_ ts ty #[vd,vx]).run P w).andThen fun v w'=> .ok (.value v) w') e:=by
 unfold RF at h
 split at h
 next t t2=>
  split at h
  next el hu=>
   split at h
   next j hj=>
    split at h
    next id off n sz m ds hel=>
     split at h
     next hc=>
      simp at h;subst h
      obtain⟨sz,r⟩:=sz
      simp only at hc
      obtain⟨rfl,hn0,hone⟩:=hc
      obtain⟨vs,hsrc,hds,hdl⟩:=Bd (P:=P) hrel hx hel
      simp only[Rep] at hd
      obtain⟨o,c,rfl,hd⟩:=hd
      rcases hd with⟨h1,_⟩ | ⟨_,ad,h1,rfl,_⟩
      ·exact absurd (by omega) hn0
      have hvl:=hds.length
      have hfirst:(Builtin.firstCells j.size (Nat.min m n) vx).run P w= .ok (vs.take (Nat.min m n*j.size)).toArray w:=by
       have hall:=hsrc.cells w rfl
       cases vx with
       |slice oa l cap=>
        have hl:l=m:=by have:=hsrc.len;simp[Builtin.lenOf] at this;exact this
        subst hl
        cases oa with
        |none=>
         simp[Builtin.firstCells] at hall ⊢
         have:vs=[]:=by simpa using hall.symm
         simp[this]
        |some a=>
         simp only[Builtin.firstCells] at hall ⊢
         have key:∀ (k2 n0 i:Nat) (acc r:Array Value),(loadCellsFrom a i (n0+k2) acc).run P w= .ok r w→r.size=acc.size+(n0+k2)∧(loadCellsFrom a i n0 acc).run P w= .ok (r.extract 0 (acc.size+n0)) w:=by
          intro k2 n0
          induction n0 with
          |zero=>
           intro i acc r hr
           have hpre:∀ (k i:Nat) (acc r:Array Value),(loadCellsFrom a i k acc).run P w= .ok r w→r.size=acc.size+k∧r.extract 0 acc.size=acc:=by
            intro k
            induction k with
            |zero=>intro i acc r h;simp[loadCellsFrom] at h;subst h;simp
            |succ k ih=>
             intro i acc r h
             simp only[loadCellsFrom,Sem.run_bind] at h
             obtain⟨u,w1,h2,h3⟩:=Result.su h
             have hw1:w1=w:=by
              simp only[run_load] at h2
              split at h2
              ·simp at h2;exact h2.2.symm
              ·split at h2
               ·simp at h2;exact h2.2.symm
               ·cases h2
             subst hw1
             obtain⟨h4,h5⟩:=ih (i+1) _ r h3
             simp at h4
             refine⟨by omega,?_⟩
             have:=congrArg (fun x=>x.extract 0 acc.size) h5
             simpa [Array.extract_extract] using this
           obtain⟨h4,h5⟩:=hpre _ i acc r (by simpa using hr)
           exact⟨by omega,by simp[loadCellsFrom,h5]⟩
          |succ n0 ih=>
           intro i acc r hr
           rw[show n0+1+k2=(n0+k2)+1 from by omega] at hr
           simp only[loadCellsFrom,Sem.run_bind] at hr ⊢
           obtain⟨u,w1,h2,h3⟩:=Result.su hr
           have hw1:w1=w:=by
            simp only[run_load] at h2
            split at h2
            ·simp at h2;exact h2.2.symm
            ·split at h2
             ·simp at h2;exact h2.2.symm
             ·cases h2
           subst hw1
           obtain⟨h4,h5⟩:=ih (i+1) _ r h3
           simp at h4 h5
           rw[h2]
           refine⟨by omega,?_⟩
           simp only[Result.andThen_ok,h5]
           congr 2;omega
         have hle:Nat.min l n*j.size≤l*j.size:=Nat.mul_le_mul_right _ (Nat.min_le_left _ _)
         have h6:=(key (l*j.size - Nat.min l n*j.size) (Nat.min l n*j.size) 0 #[] vs.toArray (by rw[Nat.add_sub_cancel' hle];exact hall)).2
         simp only[loadCells]
         rw[h6]
         congr 1
         simp
       |string s=>
        exfalso
        cases x with
        |sh _ _=>simp only[Rep,aC] at hx;obtain⟨o,c,h,_⟩:=hx;cases h
        |sl _ _ _ _=>simp only[Rep] at hx;obtain⟨o,c,h,_⟩:=hx;cases h
        |v y=>
         simp only[Rep,aC] at hx;subst hx
         simp[D.elems] at hel
        |emp=>simp only[Rep,aC] at hx;obtain⟨o,h⟩:=hx;cases h
        |rc cs=>simp only[Rep,aC] at hx;obtain⟨o,c,h,_⟩:=hx;cases h
        |_=>simp[D.elems] at hel
       |_=>have:=hsrc.len;simp[Builtin.lenOf] at this
      refine⟨ad,vs.take (Nat.min m n*j.size),h1,hds.take _,?_,?_⟩
      ·intro u hu
       exact kH hds hone u (List.mem_of_mem_take hu)
      ·simp[Builtin.copy_,run_underlying hu,hsrc.len,run_sizeOf hj,hfirst]
       cases(storeCells (aG ad off) (List.take (m.min n*j.size) vs)).run P w<;>rfl
     ·cases h
    ·cases h
   ·cases h
  ·cases h
 ·cases h
theorem Nu (hrel:Rel w A β base σ tmps acts) {ts:Array TypeId} {ty:TypeId} {s x:D} {vs vx:Value} (hs:Rep w A β s vs) (hx:Rep w A β x vx) {e:Eff} (h:jd P σ.bk ts s x=some e):
  Good P w A β (((Builtin.append_ ts ty #[vs,vx]).run P w).andThen fun v w'=> .ok (.value v) w') e:=by
 unfold jd at h
 split at h
 next t t2=>
  split at h
  next el e2 hu hu2=>
   split at h
   next j hj=>
    split at h
    next z hz=>
     split at h
     next hb=>
      split at h
      next m ds hel=>
       split at h
       next hone=>
        obtain⟨us,hsrc,hds,hdl⟩:=Bd (P:=P) hrel hx hel
        split at h
        ·split at h
         next hbd=>
          simp at h;subst h
          have hs0:=hs
          simp only[Rep,aC] at hs;subst hs
          exact⟨t,t2,ty,el,e2,j,z,none,0,0,vx,us,hu,hu2,hj,hz,hb.2,hb.1,rfl,hsrc,hds,kH hds hone,by rw[Nat.zero_add];exact hbd,hdl,hs0,(fun _ _ _ _ h=>by cases h),(fun u h=>by cases h;rfl),rfl⟩
         next=>cases h
        ·split at h
         next hbd=>
          have hs0:=hs
          simp only[Rep,aC] at hs
          obtain⟨o,rfl⟩:=hs
          cases m with
          |zero=>
           simp[jC] at h;subst h
           have hds0:ds=[]:=List.length_eq_zero_iff.1 (by omega)
           subst hds0
           simp only[aF] at hds;subst hds
           have hd2:∀ k,TypeDesc.slice e2≠ .int k:=fun k h=>by cases h
           have g:=jG (w:=w) (w':=w) (ty:=ty) hu hj hu2 hd2 hsrc (n:=0) (c:=0) (o:=some o) (by omega) (fun a h=>by simp[storeCells]) (fun _=>rfl)
           exact⟨_,by rw[g];rfl,by simpa using hs0⟩
          |succ m=>
          simp[jC] at h;subst h
          exact⟨t,t2,ty,el,e2,j,z,some o,0,0,vx,us,hu,hu2,hj,hz,hb.2,hb.1,rfl,hsrc,hds,kH hds hone,by rw[Nat.zero_add];exact hbd,hdl,hs0,(fun _ _ _ _ h=>by cases h),(fun u h=>by cases h),rfl⟩
         next=>cases h
        next id off n sz=>
         split at h
         next hbd=>
          obtain⟨sz,r⟩:=sz
          try simp only at hbd
          obtain⟨rfl,hbd⟩:=hbd
          have hs0:=hs
          simp only[Rep] at hs
          obtain⟨o,c,rfl,hsr⟩:=hs
          try simp only at hsr
          cases m with
          |zero=>
           simp[jC] at h;subst h
           have hds0:ds=[]:=List.length_eq_zero_iff.1 (by omega)
           subst hds0
           simp only[aF] at hds;subst hds
           have hd2:∀ k,TypeDesc.slice e2≠ .int k:=fun k h=>by cases h
           have g:=jG (w:=w) (w':=w) (ty:=ty) hu hj hu2 hd2 hsrc (n:=n) (c:=c) (o:=o) (by rcases hsr with h | h<;>omega) (fun a h=>by simp[storeCells]) (fun _=>rfl)
           exact⟨_,by rw[g];rfl,by simpa using hs0⟩
          |succ m=>
          simp[jC] at h;subst h
          exact⟨t,t2,ty,el,e2,j,z,o,n,c,vx,us,hu,hu2,hj,hz,hb.2,hb.1,rfl,hsrc,hds,kH hds hone,hbd,hdl,hs0,(fun _ _ _ _ h=>by cases h;rfl),(fun u h=>by cases h),rfl⟩
         next=>cases h
        ·cases h
       next=>cases h
      next=>cases h
     next=>cases h
    next=>cases h
   next=>cases h
  next=>cases h
 ·cases h
theorem GZ {z:Array Value} {n:Nat} {u:Value} (h:u∈(Builtin.zeroCells z n).toList):u∈z.toList:=by
 simp only[Builtin.zeroCells,Array.toList_map,Array.toList_range,List.mem_map,List.mem_range] at h
 obtain⟨i,hi,rfl⟩:=h
 have hz:0<z.size:=by
  rcases Nat.eq_zero_or_pos z.size with e | e
  ·rw[e] at hi;omega
  ·exact e
 have hlt:i%z.size<z.size:=Nat.mod_lt _ hz
 rw[getElem!_pos z (i%z.size) hlt]
 simp
theorem N8 {ts:Array TypeId} {ty:TypeId} {d:D} {vd:Value} (hd:Rep w A β d vd) {e:Eff} (h:Ku P ts d=some e):
  Good P w A β (((Builtin.clear_ ts ty #[vd]).run P w).andThen fun v w'=> .ok (.value v) w') e:=by
 unfold Ku at h
 split at h
 next t=>
  split at h
  next el hu=>
   split at h
   next j hj=>
    split at h
    next z hz=>
     split at h
     next id off n sz=>
      split at h
      next hc=>
       simp only[Option.some.injEq] at h;subst h
       obtain⟨hn0,hsz,hone⟩:=hc
       simp only[Rep] at hd
       obtain⟨o,c,rfl,hd⟩:=hd
       rcases hd with⟨h1,_⟩ | ⟨_,ad,h1,rfl,_⟩
       ·exact absurd (by omega) hn0
       refine⟨ad,(Builtin.zeroCells z.cells n).toList,h1,aF.l7 _,fun u hu=>List.all_eq_true.1 hone u (GZ hu),?_⟩
       cases n with
       |zero=>exact absurd rfl hn0
       |succ n=>
        simp only[Builtin.clear_,Sem.run_bind,run_underlying hu,gq hj hz,Result.andThen_ok,Sem.run_pure,List.getElem?_toArray,List.getElem?_cons_zero]
        cases(storeCells (aG ad off) (Builtin.zeroCells z.cells (n+1)).toList).run P w<;>rfl
      ·cases h
     ·cases h
    ·cases h
   ·cases h
  ·cases h
 ·cases h
inductive MP:Nat→Value→Prop
 |slice {ad:Addr} {n c:Nat}:MP 1 (.slice (some ad) n c)
 |ptr {ad:Addr}:MP 2 (.pointer (some ad))
 |fn {f:Fn} {a b:Array Value}:MP 3 (.func f a b)
theorem Ij {a:D} {va:Value} (ha:Rep w A β a va) {k:Nat} (h:iF a=k) (hk:k≠0):MP k va:=by
 cases a with
 |sh n cs=>
  simp only[iF] at h
  split at h
  ·exact absurd h.symm hk
  next hn=>
   subst h
   simp only[Rep,aC] at ha
   obtain⟨o,c,rfl,_,h1,_⟩:=ha
   obtain⟨ad,rfl,_⟩:=h1 (.inl hn)
   exact .slice
 |sl id off n sz=>
  simp only[iF] at h
  split at h
  ·exact absurd h.symm hk
  next hn=>
   subst h
   simp only[Rep] at ha
   obtain⟨o,c,rfl,h1⟩:=ha
   rcases h1 with⟨h1,_⟩ | ⟨_,ad,_,rfl,_⟩
   ·exact absurd (by omega) hn
   ·exact .slice
 |rc cs=>
  simp only[iF,cond_eq_ite] at h
  split at h
  next hL=>
   subst h
   simp only[Rep,aC] at ha
   obtain⟨o,c,rfl,hv,_⟩:=ha
   cases o with
   |none=>exact absurd rfl (hv hL)
   |some ad=>exact .slice
  next=>exact absurd h.symm hk
 |emp=>simp only[iF] at h;subst h;simp only[Rep,aC] at ha;obtain⟨ad,rfl⟩:=ha;exact .slice
 |ptr id off=>simp only[iF] at h;subst h;simp only[Rep] at ha;obtain⟨ad,_,rfl⟩:=ha;exact .ptr
 |pel id i n j=>simp only[iF] at h;subst h;simp only[Rep] at ha;obtain⟨ad,_,rfl⟩:=ha;exact .ptr
 |shp cs off=>simp only[iF] at h;subst h;simp only[Rep,aC] at ha;obtain⟨ad,rfl,_⟩:=ha;exact .ptr
 |fn f cs=>simp only[iF] at h;subst h;simp only[Rep] at ha;obtain⟨vs,rfl,_⟩:=ha;exact .fn
 |_=>simp only[iF] at h;exact absurd h.symm hk
inductive Yh:Nat→Value→Prop
 |slice:Yh 1 (.slice none 0 0)
 |ptr:Yh 2 (.pointer none)
 |fn:Yh 3 .nilFunc
theorem OD {b:D} {vb:Value} (hb:Rep w A β b vb) {k:Nat} (h:BM b=k) (hk:k≠0):Yh k vb:=by
 unfold BM at h
 split at h
 ·subst h;simp only[Rep,aC] at hb;subst hb;exact .slice
 ·subst h;simp only[Rep,aC] at hb;subst hb;exact .ptr
 ·subst h;simp only[Rep,aC] at hb;subst hb;exact .fn
 ·exact absurd h.symm hk
theorem KU {bop:BinOp} {t:TypeId} {x y:Operand} {a b:D} {va vb:Value} (ha:Rep w A β a va) (hb:Rep w A β b vb) {e:Eff} (h:BU P bop t a b=some e):
  ∃ d u,e= .val d∧(do eqGuard bop t x y va vb;binOp bop t va vb:Sem Value).run P w= .ok u w∧Rep w A β d u:=by
 unfold BU at h
 split at h
 next d hu=>
  have hk:fH d≠0:=by unfold fH;split<;>decide
  have hno:fH d≠4→(∀ k v,MP k v→k=fH d→∀ v',Yh k v'→∀ m,(Op.equalIn (m+1) t v v').run P w= .ok false w∧(Op.equalIn (m+1) t v' v).run P w= .ok false w):=by
   intro h4 k v hv hkd v' hn m
   cases hv with
   |slice=>
    cases hn
    cases d<;>simp[fH] at hkd
    simp[Op.equalIn,run_underlying hu]
   |ptr=>
    cases hn
    cases d<;>simp[fH] at hkd
    simp[Op.equalIn,run_underlying hu]
   |fn=>
    cases hn
    cases d<;>simp[fH] at hkd
    simp[Op.equalIn,run_underlying hu]
  have fin:∀ (hh:(Op.equal t va vb).run P w= .ok false w) (hg:(eqGuard .eql t x y va vb).run P w= .ok () w∧(eqGuard .neq t x y va vb).run P w= .ok () w)
    (hb2:binOp .eql t va vb=(do pure (.bool (←Op.equal t va vb)))∧binOp .neq t va vb=(do pure (.bool (!(←Op.equal t va vb))))),
    ∀ e,(match bop with | .eql=>some (Eff.val (.v (.bool false))) | .neq=>some (.val (.v (.bool true))) | _=>none)=some e→
     ∃ d u,e= .val d∧(do eqGuard bop t x y va vb;binOp bop t va vb:Sem Value).run P w= .ok u w∧Rep w A β d u:=by
   intro hh hg hb2 e he
   cases bop<;>simp only[Option.some.injEq] at he<;>first | (cases he;done) | skip
   ·subst he;refine⟨_, .bool false,rfl,?_,by simp[Rep,aC]⟩
    rw[hb2.1]
    simp only[Sem.run_bind,hg.1,Result.andThen_ok,hh,Sem.run_pure]
   ·subst he;refine⟨_, .bool true,rfl,?_,by simp[Rep,aC]⟩
    rw[hb2.2]
    simp only[Sem.run_bind,hg.2,Result.andThen_ok,hh,Sem.run_pure,Bool.not_false]
  split at h
  next hc=>
   rcases hc with⟨h1,h2⟩ | ⟨h1,h2⟩
   ·have hv:=Ij ha h1 hk
    have hn:=OD hb h2 hk
    have h4:fH d≠4:=by intro h4;rw[h4] at hv;cases hv
    refine fin (hno h4 _ _ hv rfl _ hn 9999).1 ?_ ?_ e h
    all_goals generalize fH d=kk at hv hn
    ·cases hv<;>cases hn<;>simp[eqGuard]
    ·cases hv<;>cases hn<;>exact⟨rfl,rfl⟩
   ·have hv:=Ij hb h2 hk
    have hn:=OD ha h1 hk
    have h4:fH d≠4:=by intro h4;rw[h4] at hv;cases hv
    refine fin (hno h4 _ _ hv rfl _ hn 9999).2 ?_ ?_ e h
    all_goals generalize fH d=kk at hv hn
    ·cases hv<;>cases hn<;>simp[eqGuard]
    ·cases hv<;>cases hn<;>exact⟨rfl,rfl⟩
  ·cases h
 ·cases h
theorem Ou {bop:BinOp} {t:TypeId} {x y:Operand} {k k':IntKind} {a b:Int}:(eqGuard bop t x y (.int k a) (.int k' b)).run P w= .ok () w:=by
 cases bop<;>rfl
theorem abw {k yk:IntKind} {x y:Int} (h:¬ y<0):(Op.shift .shl k x yk y).run P w= .ok (.int k (aj .shl k x y)) w:=by
 unfold Op.shift;rw[if_neg h];rfl
theorem aa4 {k yk:IntKind} {x y:Int} (h:¬ y<0):(Op.shift .shr k x yk y).run P w= .ok (.int k (aj .shr k x y)) w:=by
 unfold Op.shift;rw[if_neg h];rfl
theorem abR {k:IntKind} {x y:Int} (h:¬ y=0):(Op.intDiv .quo k x y).run P w= .ok (.int k (aj .quo k x y)) w:=by
 unfold Op.intDiv;rw[if_neg h];rfl
theorem aaq {k:IntKind} {x y:Int} (h:¬ y=0):(Op.intDiv .rem k x y).run P w= .ok (.int k (aj .rem k x y)) w:=by
 unfold Op.intDiv;rw[if_neg h];rfl
theorem QT {bop:BinOp} {t:TypeId} {k k':IntKind} {p q:Int} {d:D} (h:intD bop k k' p q=some d):
  ∃ u,(binOp bop t (.int k p) (.int k' q)).run P w= .ok u w∧Rep w A β d u:=by
 unfold intD at h
 split at h
 case h_1=>
  split at h
  next hc=>simp only[Option.some.injEq] at h;subst h;exact⟨_,abw (yk:=k') (show ¬ q<0 by omega),by simp[Rep,aC]⟩
  ·cases h
 case h_2=>
  split at h
  next hc=>simp only[Option.some.injEq] at h;subst h;exact⟨_,aa4 (yk:=k') (show ¬ q<0 by omega),by simp[Rep,aC]⟩
  ·cases h
 case h_3=>
  split at h
  next hk=>
   subst hk
   split at h
   ·cases h
   next hc=>
    simp only[Option.some.injEq] at h;subst h
    refine⟨.int k (aj .quo k p q),?_,by simp[Rep,aC]⟩
    simp only[binOp,ne_eq,not_true_eq_false,if_false]
    exact abR hc
  ·cases h
 case h_4=>
  split at h
  next hk=>
   subst hk
   split at h
   ·cases h
   next hc=>
    simp only[Option.some.injEq] at h;subst h
    refine⟨.int k (aj .rem k p q),?_,by simp[Rep,aC]⟩
    simp only[binOp,ne_eq,not_true_eq_false,if_false]
    exact aaq hc
  ·cases h
 case h_5 | h_6 | h_7 | h_8 | h_9 | h_10 | h_11=>
  split at h
  next hk=>
   subst hk
   simp only[Option.some.injEq] at h;subst h
   refine⟨_,?_,by simp only[Rep,aC];rfl⟩
   simp only[binOp,Op.intArith,Op.intBits,Sem.run_pure,aj,ne_eq,not_true_eq_false,if_false]
  ·cases h
 case h_12 | h_13 | h_14 | h_15 | h_16 | h_17=>
  split at h
  next hk=>
   subst hk
   simp only[Option.some.injEq] at h;subst h
   refine⟨_,?_,by simp only[Rep,aC];rfl⟩
   simp only[binOp,Op.intCmp,Sem.run_pure,ai,ne_eq,not_true_eq_false,if_false]
  ·cases h
theorem xW {op:BinOp} {f:Value→Value→Sem Value} (hf:∀ k x k' y,f (.int k x) (.int k' y)= .pure (.int k (qB op x y))) {k:IntKind}:∀ (ds:List D) (vs:List Value) (p:Int) (d:D),aF w A β ds vs→Ey op k p ds=some d→
  ∃ u,(vs.foldlM f (.int k p)).run P w= .ok u w∧Rep w A β d u
 |[],vs,p,d,hr,h=>by
  simp only[aF] at hr;subst hr
  simp only[Ey,Option.some.injEq] at h;subst h
  exact⟨_,rfl,by simp[Rep,aC]⟩
 |x::ds,vs,p,d,hr,h=>by
  simp only[aF] at hr
  obtain⟨v,vs,rfl,h1,h2⟩:=hr
  unfold Ey at h
  split at h
  ·rename_i he;cases he
  next k' q ds' he=>
   simp only[List.cons.injEq] at he
   obtain⟨rfl,rfl⟩:=he
   split at h
   next hk=>
    subst hk
    simp only[Rep,aC] at h1;subst h1
    obtain⟨u,h3,h4⟩:=xW hf ds _ _ d h2 h
    refine⟨u,?_,h4⟩
    rw[List.foldlM_cons,hf]
    exact h3
   ·cases h
  ·cases h
theorem zV {op:BinOp} {f:Value→Value→Sem Value} (hf:∀ k x k' y,f (.int k x) (.int k' y)= .pure (.int k (qB op x y))) {ds:List D} {vs:List Value} {d:D} {why:String} (hr:aF w A β ds vs) (h:Y2 op ds=some d):
  ∃ u,(match vs with | []=>stuck why | x::rest=>rest.foldlM f x:Sem Value).run P w= .ok u w∧Rep w A β d u:=by
 unfold Y2 at h
 split at h
 next k p ds=>
  simp only[aF] at hr
  obtain⟨v,vs,rfl,h1,h2⟩:=hr
  simp only[Rep,aC] at h1;subst h1
  exact xW hf ds vs p d h2 h
 ·cases h
theorem ajU (k:IntKind) (x:Int) (k':IntKind) (y:Int):Builtin.max2 (.int k x) (.int k' y)= .pure (.int k (qB .gtr x y)):=by
 simp only[Builtin.max2,qB,ai]
 by_cases h:y > x<;>simp[h]<;>rfl
theorem ajS (k:IntKind) (x:Int) (k':IntKind) (y:Int):Builtin.min2 (.int k x) (.int k' y)= .pure (.int k (qB .lss x y)):=by
 simp only[Builtin.min2,qB,ai]
 by_cases h:y<x<;>simp[h]<;>rfl
theorem UZ {uop:UnOp} {a:D} {va:Value} (ha:Rep w A β a va) {d:D} (h:unD uop a=some d):
  ∃ u,(Op.unary uop va).run P w= .ok u w∧Rep w A β d u:=by
 unfold unD at h
 split at h
 all_goals first | (cases h;done) | skip
 all_goals (simp only[Option.some.injEq] at h;subst h;simp only[Rep,aC] at ha;subst ha)
 ·exact⟨_,rfl,by simp[Rep,aC]⟩
 ·exact⟨_,rfl,by simp[Rep,aC,aj]⟩
 ·exact⟨_,rfl,by simp[Rep,aC,aj]⟩
theorem LQ {src dst:TypeId} {a:D} {va:Value} (ha:Rep w A β a va) {d:D} (h:YN P src dst a=some d):
  ∃ u,(convert src dst va).run P w= .ok u w∧Rep w A β d u:=by
 unfold YN at h
 split at h
 next k0 p ds k h1 h2=>
  simp only[Option.some.injEq] at h;subst h
  simp only[Rep,aC] at ha;subst ha
  refine⟨.int k (k.wrap p),?_,by simp only[Rep,aC]⟩
  simp only[convert,Sem.run_bind,run_underlying h1,run_underlying h2,Result.andThen_ok,Conv.intToInt,Sem.run_pure]
 ·cases h
theorem MF {c:Bool} {a b:D} {va vb:Value} (ha:Rep w A β a va) (hb:Rep w A β b vb):Rep w A β (Xg c a b) (if c=true then va else vb):=by
 unfold Xg
 split
 ·split
  next hk=>subst hk;simp only[Rep,aC] at ha hb ⊢;subst ha hb;cases c<;>rfl
  next=>cases c<;>assumption
 ·simp only[Rep,aC] at ha hb ⊢;subst ha hb;cases c<;>rfl
 ·cases c<;>assumption
def Bc (b:Bool):Option Bool×Unit:=if b then(none,()) else(some false,())
theorem lS {f:TypeId→D→D→Option Bool} {E:TypeId→Value→Value→Sem Bool} (hE:∀ t x y s vx vy,f t x y=some s→Rep w A β x vx→Rep w A β y vy→(E t vx vy).run P w= .ok s w)
  {xs ys:List D} {vx vy:List Value} (ha:aF w A β xs vx) (hb:aF w A β ys vy):∀ (l:List Field) (s:Bool),eqFields P f xs ys l=some s→
  (forIn l ((none, ()) : Option Bool × Unit) (fun (f : Field) (_ : Option Bool × Unit) => if f.name ≠ "_" then do
    let a ←part f.type vx.toArray f.offset
    let b ←part f.type vy.toArray f.offset
    let c ←E f.type a b
    if(!c)=true then pure (ForInStep.done (some false,())) else pure (ForInStep.yield (none,()))
   else pure (ForInStep.yield (none,()))):Sem (Option Bool×Unit)).run P w= .ok (Bc s) w
 |[],s,h=>by
  simp only[eqFields,Option.some.injEq] at h;subst h
  simp[Bc]
 |fd::l,s,h=>by
  simp only[eqFields] at h
  rw[List.forIn_cons]
  split at h
  next hn=>
   split at h
   next x y hx hy=>
    split at h
    next s1 r hs hr=>
     simp only[Option.some.injEq] at h;subst h
     obtain⟨ux,k1,k2⟩:=og (P:=P) ha hx
     obtain⟨uy,k3,k4⟩:=og (P:=P) hb hy
     have k5:=hE fd.type x y s1 ux uy hs k2 k4
     have ih:=lS hE ha hb l r hr
     simp only[if_pos hn,Sem.run_bind,k1,k3,k5,Result.andThen_ok]
     cases hc:s1 with
     |false=>simp[Bc]
     |true=>simp only[Bool.not_true,Bool.false_eq_true,if_false,Sem.run_pure,Result.andThen_ok,Bool.true_and];exact ih
    ·cases h
   ·cases h
  next hn=>
   have ih:=lS hE ha hb l s h
   simp only[if_neg hn,Sem.run_bind,Sem.run_pure,Result.andThen_ok]
   exact ih
theorem uM {f:D→D→Option Bool} {E:Value→Value→Sem Bool} (hE:∀ x y s vx vy,f x y=some s→Rep w A β x vx→Rep w A β y vy→(E vx vy).run P w= .ok s w)
  {elem:TypeId} {size:Nat} {xs ys:List D} {vx vy:List Value} (ha:aF w A β xs vx) (hb:aF w A β ys vy):∀ (n i:Nat) (s:Bool),xk P f elem size xs ys i n=some s→
  (forIn (List.range' i n 1) ((none,()):Option Bool×Unit) (fun (i:Nat) (_:Option Bool×Unit)=>do
    let a ←part elem vx.toArray (i*size)
    let b ←part elem vy.toArray (i*size)
    let c ←E a b
    if(!c)=true then pure (ForInStep.done (some false,())) else pure (ForInStep.yield (none,()))):Sem (Option Bool×Unit)).run P w= .ok (Bc s) w
 |0,i,s,h=>by
  simp only[xk,Option.some.injEq] at h;subst h
  simp[Bc]
 |n+1,i,s,h=>by
  simp only[xk] at h
  rw[List.range'_succ,List.forIn_cons]
  split at h
  next x y hx hy=>
   split at h
   next s1 r hs hr=>
    simp only[Option.some.injEq] at h;subst h
    obtain⟨ux,k1,k2⟩:=og (P:=P) ha hx
    obtain⟨uy,k3,k4⟩:=og (P:=P) hb hy
    have k5:=hE x y s1 ux uy hs k2 k4
    have ih:=uM hE ha hb n (i+1) r hr
    simp only[Sem.run_bind,k1,k3,k5,Result.andThen_ok]
    cases hc:s1 with
    |false=>simp[Bc]
    |true=>simp only[Bool.not_true,Bool.false_eq_true,if_false,Sem.run_pure,Result.andThen_ok,Bool.true_and];exact ih
   ·cases h
  ·cases h
theorem uq:∀ (d:Nat) (t:TypeId) (a b:D) (s:Bool) (va vb:Value),eqV P d t a b=some s→Rep w A β a va→Rep w A β b vb→∀ d',d≤d'→(Op.equalIn d' t va vb).run P w= .ok s w
 |0,t,a,b,s,va,vb,h,ha,hb,d',hd=>by simp[eqV] at h
 |d+1,t,a,b,s,va,vb,h,ha,hb,d',hd=>by
  obtain⟨d',rfl⟩:∃ e,d'=e+1:=⟨d' - 1,by omega⟩
  simp only[eqV] at h
  split at h
  next hu=>
   unfold Sv at h
   split at h
   next x y=>
    simp only[Option.some.injEq] at h;subst h
    simp only[Rep,aC] at ha hb;subst ha hb
    simp only[Op.equalIn,Sem.run_bind,run_underlying hu,Result.andThen_ok,Sem.run_pure]
   ·cases h
  next hu=>
   unfold YR at h
   split at h
   next k x k' y=>
    split at h
    next hk=>
     subst hk
     simp only[Option.some.injEq] at h;subst h
     simp only[Rep,aC] at ha hb;subst ha hb
     simp only[Op.equalIn,Sem.run_bind,run_underlying hu,Result.andThen_ok,Sem.run_pure,if_true]
    ·cases h
   ·cases h
  next fields hu=>
   split at h
   next xs ys=>
    split at h
    ·cases h
    next hst=>
     simp only[Rep] at ha hb
     obtain⟨vx,rfl,ha⟩:=ha
     obtain⟨vy,rfl,hb⟩:=hb
     have k:=lS (P:=P) (E:=Op.equalIn d') (fun t x y s vx vy h hx hy=>uq d t x y s vx vy h hx hy d' (by omega)) ha hb fields.toList s h
     rw[Array.forIn_toList] at k
     simp only[Op.equalIn,Sem.run_bind,run_underlying hu,Result.andThen_ok]
     show(Sem.run P (if P.stoodInHeld t=true then _ else _) w)=_
     rw[if_neg hst]
     simp only[Sem.run_bind,k,Result.andThen_ok,Bc]
     cases s<;>rfl
   ·cases h
  next len elem hu=>
   split at h
   next xs ys j hj=>
    simp only[Rep] at ha hb
    obtain⟨vx,rfl,ha⟩:=ha
    obtain⟨vy,rfl,hb⟩:=hb
    have k:=uM (P:=P) (E:=Op.equalIn d' elem) (fun x y s vx vy h hx hy=>uq d elem x y s vx vy h hx hy d' (by omega)) ha hb len 0 s h
    simp only[Op.equalIn,Sem.run_bind,run_underlying hu,Result.andThen_ok,run_sizeOf hj]
    rw[Std.Legacy.Range.forIn_eq_forIn_range']
    simp only[Std.Legacy.Range.size,Nat.sub_zero,Nat.add_sub_cancel,Nat.div_one]
    simp only[k,Result.andThen_ok,Bc]
    cases s<;>rfl
   ·cases h
  ·cases h
theorem EK {d:D} {v:Value} (hd:Rep w A β d v) (hq:zL d=true):(∃ vs,v= .agg vs)∨∃ b,v= .bool b:=by
 unfold zL at hq
 split at hq
 ·simp only[Rep] at hd;obtain⟨vs,rfl,_⟩:=hd;exact .inl ⟨_,rfl⟩
 ·simp only[Rep,aC] at hd;exact .inr ⟨_,hd⟩
 ·cases hq
theorem F7 {t:TypeId} {x y:Operand} {a b:D} {va vb:Value} (ha:Rep w A β a va) (hb:Rep w A β b vb) (h1:zL a=true) (h2:zL b=true) (hg:¬ P.eqGuardType P.depth t=true) {s:Bool}
  (h:(Op.equalIn Op.maxDepth t va vb).run P w= .ok s w):(do eqGuard .eql t x y va vb;binOp .eql t va vb:Sem Value).run P w= .ok (.bool s) w∧(do eqGuard .neq t x y va vb;binOp .neq t va vb:Sem Value).run P w= .ok (.bool (!s)) w:=by
 rcases EK ha h1 with⟨vs,rfl⟩ | ⟨p,rfl⟩<;>rcases EK hb h2 with⟨us,rfl⟩ | ⟨q,rfl⟩<;>simp[eqGuard,hg,binOp,Op.equal,h]
theorem V9 {bop:BinOp} {t:TypeId} {x y:Operand} {a b:D} {va vb:Value} (ha:Rep w A β a va) (hb:Rep w A β b vb) {d:D} (h:eqD P bop t a b=some d):
  ∃ u,(do eqGuard bop t x y va vb;binOp bop t va vb:Sem Value).run P w= .ok u w∧Rep w A β d u:=by
 unfold eqD at h
 split at h
 next hq=>
  split at h
  ·cases h
  next hg=>
   split at h
   ·simp only[Option.map_eq_some_iff] at h
    obtain⟨s,hs,rfl⟩:=h
    have:=uq 20 t _ _ s _ _ hs ha hb Op.maxDepth (by decide)
    refine⟨.bool s,?_,by simp[Rep,aC]⟩
    exact(F7 ha hb hq.1 hq.2 hg this).1
   ·simp only[Option.map_eq_some_iff] at h
    obtain⟨s,hs,rfl⟩:=h
    have:=uq 20 t _ _ s _ _ hs ha hb Op.maxDepth (by decide)
    refine⟨.bool (!s),?_,by simp[Rep,aC]⟩
    exact(F7 ha hb hq.1 hq.2 hg this).2
   ·cases h
 ·cases h
theorem GN {bop:BinOp} {t:TypeId} {x y:Operand} {a b:D} {va vb:Value} (ha:Rep w A β a va) (hb:Rep w A β b vb) {e:Eff} (h:wO P bop t x y a b=some e):
  Good P w A β (((do eqGuard bop t x y va vb;binOp bop t va vb:Sem Value).run P w).andThen fun v w'=> .ok (.value v) w') e:=by
 unfold wO at h
 split at h
 next d hd=>
  simp only[Option.some.injEq] at h
  obtain⟨u,h1,h2⟩:=V9 (t:=t) (x:=x) (y:=y) (P:=P) ha hb hd
  exact iZ ⟨d,u,h.symm,h1,h2⟩
 next=>
  split at h
  next u v hu hv=>
   rw[←ha.plain hu,←hb.plain hv] at h
   exact oK h
  next=>exact iZ (KU ha hb h)
theorem O6 {bop:BinOp} {t:TypeId} {x y:Operand} {a b:D} {va vb:Value} (ha:Rep w A β a va) (hb:Rep w A β b vb) {e:Eff} (h:Ul P bop t x y a b=some e):
  Good P w A β (((do eqGuard bop t x y va vb;binOp bop t va vb:Sem Value).run P w).andThen fun v w'=> .ok (.value v) w') e:=by
 unfold Ul at h
 split at h
 next k p k' q=>
  simp only[Option.map_eq_some_iff] at h
  obtain⟨d,hd,rfl⟩:=h
  simp only[Rep,aC] at ha hb;subst ha hb
  obtain⟨u,h3,h4⟩:=QT (t:=t) (P:=P) (w:=w) (A:=A) (β:=β) hd
  exact iZ ⟨d,u,rfl,by simp only[Sem.run_bind,Ou,Result.andThen_ok,h3],h4⟩
 ·exact GN ha hb h
theorem yP (hrel:Rel w A β base σ tmps acts) {ρ:Operand→D} {ρv:Operand→Value} (hρ:∀ x,Rep w A β (ρ x) (ρv x)) (o:Oper) {e:Eff} (h:dB P σ.bk ρ o.type o.op=some e):
  (∃ r,(execOp ρv o).run P w=r∧Good P w A β r e):=by
 refine⟨_,rfl,?_⟩
 obtain⟨dst,op,type,pos,after,guard⟩:=o
 simp only at h
 cases op with
 |move x=>simp only[dB,Option.some.injEq] at h;subst h;exact⟨ρv x,by simp[execOp],hρ x⟩
 |assign x=>simp only[dB,Option.some.injEq] at h;subst h;exact⟨ρv x,by simp[execOp],hρ x⟩
 |pick c a b=>
  simp only[dB] at h
  unfold KY at h
  split at h
  next c' hc=>
   simp at h;subst h
   have:=hρ c
   rw[hc] at this
   simp only[Rep,aC] at this
   exact⟨_,by simp[execOp,this,asBool],MF (hρ a) (hρ b)⟩
  ·cases h
 |alloc t=>
  simp only[dB,Option.map_eq_some_iff] at h
  obtain⟨z,hz,rfl⟩:=h
  obtain⟨i,v,hi,hv,rfl⟩:=oH hz
  refine⟨t,v.cells.toList,aF.l7 _,?_⟩
  simp[execOp,Instr.alloc,gq hi hv,newVar,newRow]
 |box t x=>
  simp only[dB,Option.map_eq_some_iff] at h
  obtain⟨cs,hc,rfl⟩:=h
  exact⟨t,(ρv x).cells.toList,o6 (hρ x) hc,by simp[execOp,Instr.box,newVar,newRow]⟩
 |build t parts=>exact mV (iZ (OG hρ h))
 |buildSlice t len parts=>exact mV (yZ hρ h)
 |load t a=>
  simp only[dB,LK] at h
  split at h
  ·cases h
  next cs off hb=>
   simp only[Option.map_eq_some_iff] at h
   obtain⟨d,hd,rfl⟩:=h
   have hne:cs≠[]:=by
    rintro rfl
    unfold takeD at hd
    split at hd
    ·cases hd
    ·split at hd
     ·split at hd
      next hlt=>simp at hlt;omega
      ·cases hd
     ·simp at hd
   obtain⟨ad,h1,h2,h3⟩:=AO hrel (hρ a) hb hne
   obtain⟨u,k1,k2⟩:=NP (P:=P) h2 h3 hd
   exact⟨u,by simp[execOp,Instr.loadAt,h1,Instr.sureAddr,k1],k2⟩
 |store t a x=>
  simp only[dB,rq] at h
  split at h
  next id off ds i ha hc hi=>
   split at h
   next hb=>
    simp at h;subst h
    have ha':=hρ a
    rw[ha] at ha'
    simp only[Rep] at ha'
    obtain⟨ad,h1,h2⟩:=ha'
    have hcs:=o6 (hρ x) hc
    refine⟨ad,(ρv x).cells.toList,h1,hcs,kH hcs hb.2,?_⟩
    have hlen:=hcs.length
    have hsz:(ρv x).cells.size=i.size:=by simpa [hb.1] using hlen
    simp[execOp,Instr.storeAt,h2,Instr.sureAddr,storeVar,run_sizeOf hi,hsz]
   ·cases h
  next id i0 n j ds i ha hc hi=>
   split at h
   next hb=>
    simp at h;subst h
    have ha':=hρ a
    rw[ha] at ha'
    simp only[Rep] at ha'
    obtain⟨ad,h1,h2⟩:=ha'
    have hcs:=o6 (hρ x) hc
    refine⟨ad,(ρv x).cells.toList,h1,hcs,kH hcs hb.2,?_⟩
    have hlen:=hcs.length
    have hsz:(ρv x).cells.size=i.size:=by simpa [hb.1] using hlen
    simp[execOp,Instr.storeAt,h2,Instr.sureAddr,storeVar,run_sizeOf hi,hsz]
   ·cases h
  ·cases h
 |nilCheck x=>
  simp only[dB] at h
  have hx:=hρ x
  unfold Sm at h
  split at h
  next id off he=>
   simp at h;subst h
   rw[he] at hx
   have hx0:=hx
   simp only[Rep] at hx
   obtain⟨ad,h1,h2⟩:=hx
   exact⟨.pointer (some (aG ad off)),by simp[execOp,h2],by rw[←h2];exact hx0⟩
  next id i n j he=>
   simp at h;subst h
   rw[he] at hx
   have hx0:=hx
   simp only[Rep] at hx
   obtain⟨ad,h1,h2⟩:=hx
   exact⟨.pointer (some (aG ad (i*n+j))),by simp[execOp,h2],by rw[←h2];exact hx0⟩
  next cs off he=>
   simp at h;subst h
   rw[he] at hx
   have hx0:=hx
   simp only[Rep,aC] at hx
   obtain⟨ad,h1,h2⟩:=hx
   exact⟨ρv x,by simp[execOp,h1],hx0⟩
  next f cs he=>
   simp at h;subst h
   rw[he] at hx
   have hx0:=hx
   simp only[Rep] at hx
   obtain⟨vs,h1,h2⟩:=hx
   exact⟨ρv x,by simp[execOp,h1],hx0⟩
  ·cases h
 |binOp bop t x y yt=>simp only[dB] at h;exact mV (O6 (hρ x) (hρ y) h)
 |unOp uop t x=>
  simp only[dB] at h
  unfold aag at h
  split at h
  next d hd=>
   simp only[Option.some.injEq] at h;subst h
   obtain⟨u,h1,h2⟩:=UZ (P:=P) (hρ x) hd
   exact mV (iZ ⟨d,u,rfl,h1,h2⟩)
  ·split at h
   next a ha=>rw[←(hρ x).plain ha] at h;exact mV (oK h)
   ·cases h
 |convert src dst' x=>
  simp only[dB] at h
  unfold J7 at h
  split at h
  next d hd=>
   simp only[Option.some.injEq] at h;subst h
   obtain⟨u,h1,h2⟩:=LQ (P:=P) (hρ x) hd
   exact mV (iZ ⟨d,u,rfl,h1,h2⟩)
  ·split at h
   next a ha=>rw[←(hρ x).plain ha] at h;exact mV (oK h)
   ·cases h
 |makeFunc fn first captured=>
  cases fn with
  |func f=>
   simp only[dB] at h
   split at h
   next h0=>
    simp at h;subst h
    have h0':first=#[]:=Array.eq_empty_of_size_eq_zero h0
    subst h0'
    refine⟨.func (.func f) #[] (captured.map ρv),by simp[execOp,Instr.makeFunc],?_⟩
    simp only[Rep]
    refine⟨captured.toList.map ρv,by congr 1;apply Array.ext';simp,?_⟩
    exact kT hρ captured.toList
   ·cases h
  |_=>simp[dB] at h
 |makeSlice t l c=>exact mV (BF (hρ l) (hρ c) h)
 |slice t x lo hi mx=>
  cases mx with
  |none=>exact mV (iZ (Nj hrel (hρ x) (BP hρ lo) (BP hρ hi) h))
  |some m=>exact mV (iZ (Jq (hρ x) (BP hρ lo) (BP hρ hi) (hρ m) h))
 |fieldAddr t x f=>exact mV (iZ (Bl (hρ x) h))
 |field t x f=>exact mV (iZ (NH (hρ x) h))
 |indexAddr t x ix=>exact mV (iZ (BA (hρ x) (hρ ix) h))
 |index t x ix=>exact mV (iZ (Nh (hρ x) (hρ ix) h))
 |extract x i=>exact mV (iZ (Gm (hρ x) h))
 |call c=>
  obtain⟨callee,args,argTypes⟩:=c
  cases callee with
  |builtin b=>
   obtain⟨cks,hres⟩:∃ cks,(execOp ρv ⟨dst, .call ⟨.builtin b,args,argTypes⟩,type,pos,after,guard⟩).run P w=(builtin b argTypes type cks (args.map ρv)).run P w:=⟨_,by simp only[execOp,resolve,invoke,Sem.run_bind,Sem.run_pure,Result.andThen_ok];rfl⟩
   rw[hres]
   cases b with
   |len=>
    simp only[dB] at h
    split at h
    all_goals first | (cases h;done) | skip
    all_goals try (simp only[reduceCtorEq,Op.call.injEq,Call.mk.injEq,Callee.builtin.injEq,false_and,and_false] at *;done)
    next x t heq=>
     simp only[Op.call.injEq,Call.mk.injEq,true_and] at heq
     obtain⟨rfl,rfl⟩:=heq
     obtain⟨d,u,rfl,k1,k2⟩:=Uu (P:=P) (ty:=type) (hρ x) h
     exact⟨u,by simp[builtin,k1],k2⟩
   |append=>
    simp only[dB] at h
    split at h
    all_goals first | (cases h;done) | skip
    all_goals try (simp only[reduceCtorEq,Op.call.injEq,Call.mk.injEq,Callee.builtin.injEq,false_and,and_false] at *;done)
    next s x ts heq=>
     simp only[Op.call.injEq,Call.mk.injEq,true_and] at heq
     obtain⟨rfl,rfl⟩:=heq
     have e1:Array.map ρv ⟨[s,x]⟩=#[ρv s,ρv x]:=by simp
     rw[e1]
     exact mV (Nu hrel (hρ s) (hρ x) h)
   |copy=>
    simp only[dB] at h
    split at h
    all_goals first | (cases h;done) | skip
    all_goals try (simp only[reduceCtorEq,Op.call.injEq,Call.mk.injEq,Callee.builtin.injEq,false_and,and_false] at *;done)
    next s x ts heq=>
     simp only[Op.call.injEq,Call.mk.injEq,true_and] at heq
     obtain⟨rfl,rfl⟩:=heq
     have e1:Array.map ρv ⟨[s,x]⟩=#[ρv s,ρv x]:=by simp
     rw[e1]
     exact mV (Rw hrel (hρ s) (hρ x) h)
   |clear=>
    unfold dB at h
    split at h
    all_goals try (simp only[reduceCtorEq,Op.call.injEq,Call.mk.injEq,Callee.builtin.injEq,false_and,and_false] at *;done)
    next s ts heq=>
     simp only[Op.call.injEq,Call.mk.injEq,true_and] at heq
     obtain⟨rfl,rfl⟩:=heq
     have e1:Array.map ρv ⟨[s]⟩=#[ρv s]:=by simp
     rw[e1]
     exact mV (N8 (hρ s) h)
   |max=>
    simp only[dB] at h
    unfold qW at h
    split at h
    next d hd=>
     simp only[Option.some.injEq] at h;subst h
     have hl:aF w A β (args.toList.map ρ) (args.map ρv).toList:=by rw[Array.toList_map];exact kT hρ _
     obtain⟨u,h1,h2⟩:=zV (P:=P) (w:=w) ajU hl hd
     exact mV ⟨u,by
      have h1':(Builtin.max_ argTypes type (Array.map ρv args)).run P w= .ok u w:=h1
      rw[h1'];rfl,h2⟩
    ·split at h
     next vs hp=>
      have:=ny hρ _ _ hp
      have e1:args.map ρv=vs.toArray:=by rw[←this];apply Array.ext';simp
      rw[e1]
      exact mV (oK h)
     ·cases h
   |min=>
    simp only[dB] at h
    unfold qW at h
    split at h
    next d hd=>
     simp only[Option.some.injEq] at h;subst h
     have hl:aF w A β (args.toList.map ρ) (args.map ρv).toList:=by rw[Array.toList_map];exact kT hρ _
     obtain⟨u,h1,h2⟩:=zV (P:=P) (w:=w) ajS hl hd
     exact mV ⟨u,by
      have h1':(Builtin.min_ argTypes type (Array.map ρv args)).run P w= .ok u w:=h1
      rw[h1'];rfl,h2⟩
    ·split at h
     next vs hp=>
      have:=ny hρ _ _ hp
      have e1:args.map ρv=vs.toArray:=by rw[←this];apply Array.ext';simp
      rw[e1]
      exact mV (oK h)
     ·cases h
   |_=>simp[dB] at h
  |value f=>simp[dB] at h
  |invoke r m=>simp[dB] at h
 |_=>simp[dB] at h
end
end Go.Dam
end
