/- The engine: an abstract machine for the program's functions, proved right against the model. No condition. -/
import Derived.Test.YtakcfkmfiamliaaDamXF
import Derived.WalkKit
import Derived.ProofKit
import Derived.OpenShut
import Derived.ChangeOld
import Derived.Below
import Derived.Carry
import Derived.SizedLaws
import Derived.Deep.SlicePairs
set_option linter.unusedSectionVars false
set_option linter.unusedVariables false
set_option linter.unusedSimpArgs false
section
namespace Go.Dam
open Go Go.RowKit
variable [Glo]
noncomputable section
/-! ### The machine, run on terms -/
/-- Why it stands still: a decision that is not told, .. -/
def NeedB (d : D) : Prop := False
def NeedL (x : Code) (c : Cs) : Prop := False
def StuckO (o : Oper) (c : Cs) : Prop := False
def StuckC (o : Oper) (f : FuncId) (as : List D) (c : Cs) : Prop := False
def StuckR (R : Array Oper) (c : Cs) : Prop := False
def StuckT (why : Nat) (c : Cs) : Prop := False
def Within (f : FuncId) : Prop := False
/-- The truth value that an operation waits for. -/
def guardB (R : Array Oper) (o : Oper) (c : Cf) : D :=
 match o.guard with
 | none => .undef
 | some (j, _) => match (R[j]?).bind (·.dst) with
  | none => .undef
  | some t => c.get t
def stopId : Nat := 1000000007
def stopX (c : Cf) (p : Prop) : Option (Ex × Cf) := some (.exit stopId, { c with cds := p :: c.cds })
def Ex.done : Ex → Bool
 | .normal | .ret => true
 | .exit _ => false
abbrev RunX := Job → Cf → Option (Ex × Cf)
def inlineX (P : Program) (ih : RunX) (R : Array Oper) (l : List Oper) (o : Oper) (f : FuncId) (fn : Func) (e : Ex) (c1 : Cf) : Option (Ex × Cf) :=
 match e.done, resD P c1.abs fn.results.toList, c1.stk with
 | true, some ds, f0 :: stk => bif loopFits c1.loop stk.length then ih (.ops R l) (Cf.put { tm := f0.1, nt := f0.2, stk := stk, bk := c1.bk, loop := c1.loop, gen := c1.gen, todo := c1.todo, cds := c1.cds } o.dst (resOut ds)) else stopX c1 (StuckT 1 c1.toCs)
 | _, _, _ => stopX c1 (Within f)
def callF (P : Program) (X : Contracts) (ih : RunX) (dep : Nat) (R : Array Oper) (l : List Oper) (o : Oper) (c : Cf) (f : FuncId) (caps as : List D) : Option (Ex × Cf) :=
 match bodyOf P f with
 | none => match caps, D.plains as with
  | [], some vs => match extX P X f vs with
   | some (u, ps) => ih (.ops R l) ((c.put o.dst (D.ofV u)).owe ps)
   | none => stopX c (StuckC o f as c.toCs)
  | _, _ => stopX c (StuckC o f as c.toCs)
 | some (fn, body) => match callOf X f with
  | some g => match callX g c o.dst (site dep o.dst) (as ++ caps) with
   | some c' => ih (.ops R l) c'
   | none => stopX c (StuckC o f (as ++ caps) c.toCs)
  | none => match ih (.code body) (c.enter (as ++ caps) fn.ntmps) with
   | some (e, c1) => inlineX P ih R l o f fn e c1
   | none => none
def yieldOn (ih : RunX) (o : Oper) (c : Cf) (args : List Operand) (L : LoopSt) (f0 : TT × Nat) (m : Nat) : Option Cf :=
 bif L.state.ready? && (Nat.beq (m + 2) L.depth && (Nat.beq args.length L.ps.size && (noRange L.assign && noRange L.body))) then
  match ih (.code L.assign) (c.round f0 (L.ps.toList.zip (args.map (evalC c.toCs)))) with
  | some (.normal, c1) => match c1.loop with
   | some L1 => bif L1.state.ready? && Nat.beq L1.depth L.depth then
     match ih (.code L.body) { c1 with loop := some { L1 with state := .busy } } with
     | some (e, c2) => match c2.loop, c2.stk with
      | some L2, fI :: stk' => bif L2.state.busy? && Nat.beq L2.depth L.depth then some (Cf.put { tm := fI.1, nt := fI.2, stk := stk', bk := c2.bk, loop := some { L2 with state := e.round }, gen := c2.gen, todo := c2.todo, cds := c2.cds } o.dst (.v (.bool e.goes))) else none
      | _, _ => none
     | none => none
    else none
   | none => none
  | _ => none
 else none
def yieldC (ih : RunX) (o : Oper) (c : Cf) (args : List Operand) : Option Cf :=
 match c.loop, c.stk with
 | some L, f0 :: _ :: stk => yieldOn ih o c args L f0 stk.length
 | _, _ => none
def rangedC (P : Program) (ih : RunX) (c : Cf) (g : Operand) (ps : Array Tmp) (assign body : Code) : Option (Ex × Cf) :=
 match c.loop with
 | some _ => stopX c (StuckT 2 c.toCs)
 | none => match evalC (c.forget yldId).toCs g with
  | .fn f caps => match bodyOf P f with
   | some (fn, b) => match fn.results.toList with
    | [] => match ih (.code b) (c.ranged ps assign body caps fn.ntmps) with
     | some (e1, c1) => bif e1.done then match c1.loop, c1.stk with
      | some L1, fr :: _ :: stk => bif Nat.beq L1.depth (c.stk.length + 2) then match L1.state.leaves with
        | some e => some (e, { tm := fr.1, nt := fr.2, stk := stk, bk := c1.bk, loop := none, gen := c1.gen, todo := c1.todo, cds := c1.cds })
        | none => stopX c1 (StuckT 3 c1.toCs)
       else stopX c1 (StuckT 4 c1.toCs)
      | _, _ => stopX c1 (StuckT 5 c1.toCs)
      else stopX c1 (Within f)
     | none => none
    | _ => stopX c (StuckT 6 c.toCs)
   | none => stopX c (StuckT 7 c.toCs)
  | _ => stopX c (StuckT 8 c.toCs)
def opsCall (P : Program) (X : Contracts) (ih : RunX) (R : Array Oper) (l : List Oper) (o : Oper) (c : Cf) (p : Operand × Array Operand) : Option (Ex × Cf) :=
 match evalC c.toCs p.1 with
 | .fn f caps => callF P X ih (depOf c) R l o c f caps (p.2.toList.map (evalC c.toCs))
 | .yld => match yieldC ih o c p.2.toList with
  | some c' => ih (.ops R l) c'
  | none => stopX c (StuckO o c.toCs)
 | _ => stopX c (StuckO o c.toCs)
def opsPlain (P : Program) (ih : RunX) (R : Array Oper) (l : List Oper) (o : Oper) (c : Cf) : Option (Ex × Cf) :=
 match rowStepX P c o.dst (site (depOf c) o.dst) o.op with
 | some (c', ps) => ih (.ops R l) (c'.owe ps)
 | none => match opY P c.bk (evalC c.toCs) o.type o.op with
  | none => stopX c (StuckO o c.toCs)
  | some (e, ps) => match stepC c o.dst (site (depOf c) o.dst) e with
   | none => stopX c (StuckO o c.toCs)
   | some c' => ih (.ops R l) (c'.owe ps)
def opsWanted (P : Program) (X : Contracts) (ih : RunX) (R : Array Oper) (l : List Oper) (o : Oper) (c : Cf) : Option (Ex × Cf) :=
 match callParts o.op with
 | none => opsPlain P ih R l o c
 | some p => opsCall P X ih R l o c p
def opsF (P : Program) (X : Contracts) (ih : RunX) (R : Array Oper) (l : List Oper) (c : Cf) : Option (Ex × Cf) :=
 match l with
 | [] => some (.normal, c)
 | o :: l => match wantedX R o c with
  | none => stopX c (NeedB (guardB R o c))
  | some (false, c1) => ih (.ops R l) (c1.put o.dst (.v undef))
  | some (true, c1) => opsWanted P X ih R l o c1
def roundsF (ih : RunX) (b : Code) (c : Cf) : Option (Ex × Cf) :=
 match ih (.code b) c with
 | none => none
 | some (.normal, c') => ih (.rounds b) c'
 | some (e, c') => some (e, c')
def drawnF (P : Program) (X : Contracts) (ih : RunX) (R : Array Oper) (c : Cf) : Option (Ex × Cf) :=
 bif P.follows .mixedOrders && calmB P R then
  match drawsGo P X (fun l c' => ih (.ops R l) c') R (depOf c) (tgtsOf P R (fun l c' => ih (.ops R l) c') (wipeS (makersOf R (depOf c)) c)) 0 R.toList (wipeS (makersOf R (depOf c)) c) with
  | none => stopX c (StuckR R c.toCs)
  | some c' => some (.normal, c')
 else stopX c (StuckT 9 c.toCs)
def regionF (P : Program) (X : Contracts) (ih : RunX) (R : Array Oper) (d : Bool) (c : Cf) : Option (Ex × Cf) :=
 match d with
 | false => ih (.ops R R.toList) c
 | true => drawnF P X ih R c
/-- A region, ahead of which blocks are told as rows. -/
def regionQ (P : Program) (X : Contracts) (ih : RunX) (R : Array Oper) (d : Bool) (c : Cf) : Option (Ex × Cf) :=
 match c.todo with
 | .q ks :: p => match castAll ks { c with todo := p } with
  | some c' => regionF P X ih R d c'
  | none => stopX c (StuckT 14 c.toCs)
 | _ => regionF P X ih R d c
def seqF (ih : RunX) (x y : Code) (c : Cf) : Option (Ex × Cf) :=
 match ih (.code x) c with
 | none => none
 | some (.normal, c') => ih (.code y) c'
 | some (e, c') => some (e, c')
def condF (ih : RunX) (t : Operand) (x y : Code) (c : Cf) : Option (Ex × Cf) :=
 match t with
 | .tmp k => match c.get k with
  | .v (.bool b) => match decideX c k b with
   | some (v, c') => bif v then ih (.code x) c' else ih (.code y) c'
   | none => stopX c (NeedB (c.get k))
  | _ => stopX c (StuckT 10 c.toCs)
 | .const (.bool b) => bif b then ih (.code x) c else ih (.code y) c
 | _ => stopX c (StuckT 12 c.toCs)
def blockF (ih : RunX) (id : Nat) (x : Code) (c : Cf) : Option (Ex × Cf) :=
 match ih (.code x) c with
 | none => none
 | some (.exit i, c') => bif Nat.beq i id then some (.normal, c') else some (.exit i, c')
 | some (e, c') => some (e, c')
def loopF (P : Program) (ih : RunX) (x : Code) (c : Cf) : Option (Ex × Cf) :=
 match c.todo with
 | .u :: p => ih (.rounds x) { c with todo := p }
 | .k ks :: p => match castAll ks { c with todo := p } with
  | some c' => ih (.code (.loop x)) c'
  | none => stopX c (StuckT 13 c.toCs)
 | .l keep ren c0 e c1 :: p => bif okRen ren then some (e, { c1 with todo := p, cds := (c.toCs.norm keep ren = c0) :: Runs P (CallsD P) (.code (.loop x)) c0.abs e c1.abs :: c.cds }) else stopX c (StuckT 11 c.toCs)
 | _ => stopX c (NeedL x c.toCs)
def codeF (P : Program) (X : Contracts) (ih : RunX) (c : Cf) : Code → Option (Ex × Cf)
 | .region _ R d => regionQ P X ih R d c
 | .skip => some (.normal, c)
 | .ret => some (.ret, c)
 | .exit id => some (.exit id, c)
 | .seq x y => seqF ih x y c
 | .cond t x y => condF ih t x y c
 | .block id x => blockF ih id x c
 | .loop x => loopF P ih x c
 | .rangeFunc g ps assign body => rangedC P ih c g ps assign body
 | _ => none
def jobF (P : Program) (X : Contracts) (ih : RunX) (j : Job) (c : Cf) : Option (Ex × Cf) :=
 match j with
 | .ops R l => opsF P X ih R l c
 | .rounds b => roundsF ih b c
 | .code x => codeF P X ih c x
 | .draws _ _ _ _ => none
/-- THE MACHINE, RUN. -/
def evX (P : Program) (X : Contracts) (n : Nat) : RunX := Nat.rec (motive := fun _ => RunX) (fun _ _ => none) (fun _ ih => jobF P X ih) n
theorem evX_succ (P : Program) (X : Contracts) (n : Nat) : evX P X (n + 1) = jobF P X (evX P X n) := rfl
/-- What a run comes to is right. -/
def Right (P : Program) (E : RunX) : Prop := ∀ j c e c', E j c = some (e, c') → AllP c'.cds → AllP c.cds ∧ Runs P (CallsD P) j c.abs e c'.abs ∧ (∀ R l, j = .ops R l → e = .normal)
section
variable {P : Program} {X : Contracts} (hX : ConOK P X)
theorem stopX_no {c : Cf} {p : Prop} {e : Ex} {c' : Cf} (hp : ¬ p) (h : stopX c p = some (e, c')) (hl : AllP c'.cds) : False := by
 simp only [stopX, Option.some.injEq, Prod.mk.injEq] at h
 obtain ⟨_, rfl⟩ := h
 exact hp hl.1
theorem Right.ops {E : RunX} (ih : Right P E) {R : Array Oper} {l : List Oper} {c : Cf} {e : Ex} {c' : Cf} (h : E (.ops R l) c = some (e, c')) (hl : AllP c'.cds) : AllP c.cds ∧ e = .normal ∧ Runs P (CallsD P) (.ops R l) c.abs .normal c'.abs := by
 obtain ⟨h1, h2, h3⟩ := ih _ _ _ _ h hl
 have := h3 R l rfl
 subst this
 exact ⟨h1, rfl, h2⟩
theorem yieldC_right {E : RunX} (ih : Right P E) {R : Array Oper} {o : Oper} {l : List Oper} {c c1 c' : Cf} {fo : Operand} {args : Array Operand} {e : Ex}
  (hp : callParts o.op = some (fo, args)) (hf : evalD c.abs fo = .yld) (hy : yieldC E o c args.toList = some c1) (h : E (.ops R l) c1 = some (e, c')) (hl : AllP c'.cds) :
  AllP c.cds ∧ e = .normal ∧ (wantedD R o c.abs = some true → Runs P (CallsD P) (.ops R (o :: l)) c.abs .normal c'.abs) := by
 obtain ⟨k1, rfl, hr⟩ := ih.ops h hl
 unfold yieldC at hy
 split at hy
 next L f0 gh stk hL hstk =>
  unfold yieldOn at hy
  simp only [cond_eq_ite] at hy
  split at hy
  next hc =>
   simp only [Bool.and_eq_true] at hc
   obtain ⟨h1, h2, h3, h4, h5⟩ := hc
   split at hy
   next ca ha =>
    split at hy
    next L1 hL1 =>
     split at hy
     next hc1 =>
      simp only [Bool.and_eq_true] at hc1
      split at hy
      next e2 c2 hb =>
       split at hy
       next L2 fI stk' hL2 hstk2 =>
        split at hy
        next hc2 =>
         simp only [Bool.and_eq_true] at hc2
         simp only [Option.some.injEq] at hy; subst hy
         rw [cds_put] at k1
         obtain ⟨j1, rb, _⟩ := ih _ _ _ _ hb k1
         obtain ⟨j2, ra, _⟩ := ih _ _ _ _ ha j1
         rw [abs_round, evalC_abs] at ra
         rw [abs_put] at hr
         refine ⟨j2, rfl, fun hw => ?_⟩
         exact .yield (L := L) (L1 := L1) (L2 := L2) (fr0 := frOf f0) (gh := frOf gh) (frI := frOf fI) (stk := stk.map frOf) (stk' := stk'.map frOf) hw hp hf hL h1 (by simp [Cf.abs, Cs.abs, hstk]) (by have := Nat.eq_of_beq_eq_true h2; simpa using this)
          (by have := Nat.eq_of_beq_eq_true h3; simpa using this) h4 h5 ra hL1 hc1.1 (Nat.eq_of_beq_eq_true hc1.2) rb hL2 hc2.1 (Nat.eq_of_beq_eq_true hc2.2) (by simp [Cf.abs, Cs.abs, hstk2]) hr
        ·cases hy
       ·cases hy
      ·cases hy
     ·cases hy
    ·cases hy
   ·cases hy
  ·cases hy
 ·cases hy
theorem rangedC_right {E : RunX} (ih : Right P E) {c c' : Cf} {g : Operand} {ps : Array Tmp} {assign body : Code} {e : Ex}
  (h : rangedC P E c g ps assign body = some (e, c')) (hl : AllP c'.cds) : AllP c.cds ∧ Runs P (CallsD P) (.code (.rangeFunc g ps assign body)) c.abs e c'.abs := by
 unfold rangedC at h
 split at h
 ·exact (stopX_no (by simp [StuckT]) h hl).elim
 next hlp =>
  split at h
  next f caps hg =>
   split at h
   next fn b hb =>
    split at h
    next hres =>
     split at h
     next e1 c1 h1 =>
      simp only [cond_eq_ite] at h
      split at h
      next hdone =>
       split at h
       next L1 fr gh stk hL1 hstk =>
        split at h
        next hdep =>
         split at h
         next e' hlv =>
          simp only [Option.some.injEq, Prod.mk.injEq] at h
          obtain ⟨rfl, rfl⟩ := h
          obtain ⟨j1, r1, _⟩ := ih _ _ _ _ h1 hl
          rw [abs_ranged] at r1
          refine ⟨j1, ?_⟩
          exact .ranged (L1 := L1) (fr := frOf fr) (gh := frOf gh) (stk := stk.map frOf) hlp (by rw [← abs_forget, ← evalC_abs]; exact hg) hb r1 (by cases e1 <;> simp [Ex.done] at hdone <;> simp) hres hL1 hlv
           (by have := Nat.eq_of_beq_eq_true hdep; simpa [Cf.abs, Cs.abs] using this) (by simp [Cf.abs, Cs.abs, hstk])
         ·exact (stopX_no (by simp [StuckT]) h hl).elim
        ·exact (stopX_no (by simp [StuckT]) h hl).elim
       ·exact (stopX_no (by simp [StuckT]) h hl).elim
      ·exact (stopX_no (by simp [Within]) h hl).elim
     ·cases h
    ·exact (stopX_no (by simp [StuckT]) h hl).elim
   ·exact (stopX_no (by simp [StuckT]) h hl).elim
  ·exact (stopX_no (by simp [StuckT]) h hl).elim
include hX in
theorem callF_right {E : RunX} (ih : Right P E) {dep : Nat} {R : Array Oper} {l : List Oper} {o : Oper} {c : Cf} {f : FuncId} {caps : List D} {fo : Operand} {args : Array Operand} (hp : callParts o.op = some (fo, args))
  (hf : evalD c.abs fo = .fn f caps) {e : Ex} {c' : Cf} (h : callF P X E dep R l o c f caps (args.toList.map (evalC c.toCs)) = some (e, c')) (hl : AllP c'.cds) :
  AllP c.cds ∧ e = .normal ∧ (wantedD R o c.abs = some true → Runs P (CallsD P) (.ops R (o :: l)) c.abs .normal c'.abs) := by
 unfold callF at h
 split at h
 next hbody =>
  split at h
  next vs hpl =>
   split at h
   next u ps hrun =>
    obtain ⟨k1, rfl, k2⟩ := ih.ops h hl
    rw [cds_owe, cds_put, AllP_append] at k1
    rw [abs_owe, abs_put] at k2
    exact ⟨k1.2, rfl, fun hw => .step hw (.ext hp hf (by rw [← evalC_abs]; exact hpl) (extX_spec hX hrun k1.1)) k2⟩
   ·exact (stopX_no (by simp [StuckC]) h hl).elim
  ·exact (stopX_no (by simp [StuckC]) h hl).elim
 next fn body hbody =>
  split at h
  next g hg =>
   split at h
   next c1 hc =>
    obtain ⟨k1, rfl, k2⟩ := ih.ops h hl
    obtain ⟨j1, j2⟩ := callX_spec (fun args res l h hl => hX.call f g (callOf_spec hg) args res l h hl) hc k1
    exact ⟨j1, rfl, fun hw => .step hw (.call hp hf (by rw [hbody]; rfl) (by rw [← evalC_abs]; exact j2)) k2⟩
   ·exact (stopX_no (by simp [StuckC]) h hl).elim
  next =>
   split at h
   next e1 c1 hev =>
    unfold inlineX at h
    split at h
    next ds f0 stk hdone hres hstk =>
     simp only [cond_eq_ite] at h
     split at h
     next hfit =>
      obtain ⟨k1, rfl, k2⟩ := ih.ops h hl
      rw [cds_put] at k1
      obtain ⟨j1, j2, _⟩ := ih _ _ _ _ hev k1
      rw [abs_enter] at j2
      rw [abs_put] at k2
      refine ⟨j1, rfl, fun hw => .inline (fr := frOf f0) (stk := stk.map frOf) hw hp hf hbody (by rw [← evalC_abs]; exact j2) ?_ hres (by simp [Cf.abs, Cs.abs, hstk]) (by simpa [Cf.abs, Cs.abs] using hfit) k2⟩
      cases e1 <;> simp [Ex.done] at hdone <;> simp
     ·exact (stopX_no (by simp [StuckT]) h hl).elim
    ·exact (stopX_no (by simp [Within]) h hl).elim
   ·cases h
include hX in
theorem opsF_right {E : RunX} (ih : Right P E) {R : Array Oper} {l : List Oper} {c c' : Cf} {e : Ex} (h : opsF P X E R l c = some (e, c')) (hl : AllP c'.cds) : AllP c.cds ∧ e = .normal ∧ Runs P (CallsD P) (.ops R l) c.abs .normal c'.abs := by
 unfold opsF at h
 split at h
 next => simp only [Option.some.injEq, Prod.mk.injEq] at h; obtain ⟨rfl, rfl⟩ := h; exact ⟨hl, rfl, .nil⟩
 next o l =>
  split at h
  ·exact (stopX_no (by simp [NeedB]) h hl).elim
  next c1 hw =>
   obtain ⟨k1, rfl, k2⟩ := ih.ops h hl
   rw [cds_put] at k1
   obtain ⟨j1, j2, j3⟩ := wantedX_spec hw k1
   rw [abs_put, j2] at k2
   exact ⟨j1, rfl, .skipped j3 k2⟩
  next c1 hw =>
   have step : AllP c1.cds ∧ e = .normal ∧ (wantedD R o c1.abs = some true → Runs P (CallsD P) (.ops R (o :: l)) c1.abs .normal c'.abs) := by
    unfold opsWanted at h
    split at h
    next hcp =>
     unfold opsPlain at h
     split at h
     next c2 ps hrow =>
      obtain ⟨k1, rfl, k2⟩ := ih.ops h hl
      rw [cds_owe, AllP_append] at k1
      obtain ⟨eff, σ1, q1, q2, q3, q4⟩ := rowStepX_spec (ty := o.type) hrow k1.1
      exact ⟨q4 ▸ k1.2, rfl, fun hw' => .step hw' (.op q1 q2) (.weak rfl q3 k2)⟩
     next =>
      split at h
      ·exact (stopX_no (by simp [StuckO]) h hl).elim
      next eff ps hop =>
       split at h
       ·exact (stopX_no (by simp [StuckO]) h hl).elim
       next c2 hst =>
        obtain ⟨k1, rfl, k2⟩ := ih.ops h hl
        rw [cds_owe, AllP_append] at k1
        obtain ⟨s1, s2⟩ := stepC_abs hst
        have hopd := opY_spec hop k1.1
        rw [evalC_abs] at hopd
        exact ⟨s2 ▸ k1.2, rfl, fun hw' => .step hw' (.op hopd s1) k2⟩
    next p hcp =>
     obtain ⟨fo, args⟩ := p
     unfold opsCall at h
     split at h
     next f caps hfo => exact callF_right hX ih hcp (by rw [← evalC_abs]; exact hfo) h hl
     next hfo =>
      split at h
      next c2 hy => exact yieldC_right ih hcp (by rw [← evalC_abs]; exact hfo) hy h hl
      ·exact (stopX_no (by simp [StuckO]) h hl).elim
     ·exact (stopX_no (by simp [StuckO]) h hl).elim
   obtain ⟨j1, j2, j3⟩ := wantedX_spec hw step.1
   rw [j2] at step
   exact ⟨j1, step.2.1, step.2.2 j3⟩
include hX in
theorem regionF_right {E : RunX} (ih : Right P E) {id : Nat} {R : Array Oper} {d : Bool} {c c' : Cf} {e : Ex} (h : regionF P X E R d c = some (e, c')) (hl : AllP c'.cds) : AllP c.cds ∧ Runs P (CallsD P) (.code (.region id R d)) c.abs e c'.abs := by
 cases d with
 | false =>
  simp only [regionF] at h
  obtain ⟨k1, rfl, k2⟩ := ih.ops h hl
  exact ⟨k1, .region k2⟩
 | true =>
  simp only [regionF] at h
  unfold drawnF at h
  simp only [cond_eq_ite] at h
  split at h
  next hb =>
   simp only [Bool.and_eq_true] at hb
   split at h
   ·exact (stopX_no (by simp [StuckR]) h hl).elim
   next c1 hd =>
    simp only [Option.some.injEq, Prod.mk.injEq] at h
    obtain ⟨rfl, rfl⟩ := h
    have hE : ∀ l c0 c0', (fun l c' => E (.ops R l) c') l c0 = some (.normal, c0') → AllP c0'.cds → AllP c0.cds ∧ Runs P (CallsD P) (.ops R l) c0.abs .normal c0'.abs := fun l c0 c0' he hl' => by
     obtain ⟨k1, _, k2⟩ := ih.ops he hl'
     exact ⟨k1, k2⟩
    obtain ⟨k1, k2⟩ := drawsGo_runs hX hE (plan_ok (depOf c) (tgtsOf P R (fun l c' => E (.ops R l) c') (wipeS (makersOf R (depOf c)) c)) hb.2) R.toList 0 _ _ (fun j => by simp) hd hl
    rw [cds_wipeS] at k1
    exact ⟨k1, wipeS_start rfl (.drawn hb.1 (plan_ok _ _ hb.2) (unused_makers c) (k2 fun m _ => unused_makers c m))⟩
  ·exact (stopX_no (by simp [StuckT]) h hl).elim
include hX in
theorem codeF_right {E : RunX} (ih : Right P E) {x : Code} {c c' : Cf} {e : Ex} (h : codeF P X E c x = some (e, c')) (hl : AllP c'.cds) : AllP c.cds ∧ Runs P (CallsD P) (.code x) c.abs e c'.abs := by
 cases x with
 | region id R d =>
  simp only [codeF, regionQ] at h
  split at h
  next ks p hp =>
   split at h
   next c1 hc1 =>
    obtain ⟨k1, k2⟩ := regionF_right hX ih (id := id) h hl
    obtain ⟨q1, q2⟩ := castAll_spec hc1
    exact ⟨q2 ▸ k1, .weak rfl q1 k2⟩
   ·exact (stopX_no (by simp [StuckT]) h hl).elim
  ·exact regionF_right hX ih h hl
 | skip => simp only [codeF, Option.some.injEq, Prod.mk.injEq] at h; obtain ⟨rfl, rfl⟩ := h; exact ⟨hl, .skip⟩
 | ret => simp only [codeF, Option.some.injEq, Prod.mk.injEq] at h; obtain ⟨rfl, rfl⟩ := h; exact ⟨hl, .ret⟩
 | exit id => simp only [codeF, Option.some.injEq, Prod.mk.injEq] at h; obtain ⟨rfl, rfl⟩ := h; exact ⟨hl, .exit⟩
 | seq x y =>
  simp only [codeF, seqF] at h
  split at h
  ·cases h
  next c1 h1 =>
   obtain ⟨k1, k2, _⟩ := ih _ _ _ _ h hl
   obtain ⟨j1, j2, _⟩ := ih _ _ _ _ h1 k1
   exact ⟨j1, .seq j2 k2⟩
  next e1 c1 hne h1 =>
   simp only [Option.some.injEq, Prod.mk.injEq] at h
   obtain ⟨rfl, rfl⟩ := h
   obtain ⟨j1, j2, _⟩ := ih _ _ _ _ h1 hl
   exact ⟨j1, .leave j2 (fun he => hne he)⟩
 | cond t x y =>
  simp only [codeF, condF] at h
  split at h
  next k =>
   split at h
   next b hb =>
    split at h
    next v c1 hd =>
     have key : ∀ z, E (.code z) c1 = some (e, c') → z = (if v then x else y) → AllP c.cds ∧ Runs P (CallsD P) (.code (.cond (.tmp k) x y)) c.abs e c'.abs := by
      intro z hz ez
      obtain ⟨k1, k2, _⟩ := ih _ _ _ _ hz hl
      obtain ⟨j1, j2, j3⟩ := decideX_spec hb hd k1
      rw [j3, ez, ← j1] at k2
      exact ⟨j2, .cond (b := b) (by show c.get k = _; exact hb) k2⟩
     cases v with
     | true => exact key x h rfl
     | false => exact key y h rfl
    ·exact (stopX_no (by simp [NeedB]) h hl).elim
   ·exact (stopX_no (by simp [StuckT]) h hl).elim
  next b =>
   have key : ∀ z, E (.code z) c = some (e, c') → z = (if b then x else y) → AllP c.cds ∧ Runs P (CallsD P) (.code (.cond (.const (.bool b)) x y)) c.abs e c'.abs := by
    intro z hz ez
    obtain ⟨k1, k2, _⟩ := ih _ _ _ _ hz hl
    rw [ez] at k2
    exact ⟨k1, .cond (b := b) rfl k2⟩
   cases b with
   | true => exact key x h rfl
   | false => exact key y h rfl
  ·exact (stopX_no (by simp [StuckT]) h hl).elim
 | block id x =>
  simp only [codeF, blockF] at h
  split at h
  ·cases h
  next i c1 h1 =>
   simp only [cond_eq_ite] at h
   split at h
   next hi =>
    simp only [Option.some.injEq, Prod.mk.injEq] at h
    obtain ⟨rfl, rfl⟩ := h
    have hi' : i = id := Nat.eq_of_beq_eq_true hi
    subst hi'
    obtain ⟨j1, j2, _⟩ := ih _ _ _ _ h1 hl
    have := Runs.block (id := i) j2
    rw [if_pos rfl] at this
    exact ⟨j1, this⟩
   next hi =>
    simp only [Option.some.injEq, Prod.mk.injEq] at h
    obtain ⟨rfl, rfl⟩ := h
    have hne : ¬ (Ex.exit i = Ex.exit id) := fun he => by
     cases he; rw [beq_yes] at hi; exact hi rfl
    obtain ⟨j1, j2, _⟩ := ih _ _ _ _ h1 hl
    have := Runs.block (id := id) j2
    rw [if_neg hne] at this
    exact ⟨j1, this⟩
  next e1 c1 hne h1 =>
   simp only [Option.some.injEq, Prod.mk.injEq] at h
   obtain ⟨rfl, rfl⟩ := h
   obtain ⟨j1, j2, _⟩ := ih _ _ _ _ h1 hl
   have := Runs.block (id := id) j2
   rw [if_neg (fun he => hne id he)] at this
   exact ⟨j1, this⟩
 | loop x =>
  simp only [codeF, loopF] at h
  split at h
  next p hp =>
   obtain ⟨k1, k2, _⟩ := ih _ _ _ _ h hl
   exact ⟨k1, .loop k2⟩
  next ks p hp =>
   split at h
   next c1 hc1 =>
    obtain ⟨k1, k2, _⟩ := ih _ _ _ _ h hl
    obtain ⟨q1, q2⟩ := castAll_spec hc1
    exact ⟨q2 ▸ k1, .weak rfl q1 k2⟩
   ·exact (stopX_no (by simp [StuckT]) h hl).elim
  next keep ren c0 e0 c1 p hp =>
   simp only [cond_eq_ite] at h
   split at h
   next ho =>
    simp only [Option.some.injEq, Prod.mk.injEq] at h
    obtain ⟨rfl, rfl⟩ := h
    obtain ⟨h1, h2, h3⟩ := hl
    subst h1
    exact ⟨h3, .weak rfl (norm_weaker c.toCs keep ho) h2⟩
   ·exact (stopX_no (by simp [StuckT]) h hl).elim
  ·exact (stopX_no (by simp [NeedL]) h hl).elim
 | rangeFunc g ps assign body => simp only [codeF] at h; exact rangedC_right ih h hl
 | _ => simp [codeF] at h
include hX in
theorem evX_right : ∀ n, Right P (evX P X n)
 | 0 => fun j c e c' h => by cases h
 | n + 1 => fun j c e c' h hl => by
  rw [evX_succ] at h
  have ih := evX_right n
  cases j with
  | ops R l =>
   simp only [jobF] at h
   obtain ⟨k1, rfl, k2⟩ := opsF_right hX ih h hl
   exact ⟨k1, k2, fun _ _ _ => rfl⟩
  | rounds b =>
   simp only [jobF, roundsF] at h
   split at h
   ·cases h
   next c1 h1 =>
    obtain ⟨k1, k2, _⟩ := ih _ _ _ _ h hl
    obtain ⟨j1, j2, _⟩ := ih _ _ _ _ h1 k1
    exact ⟨j1, .round j2 k2, fun _ _ h => by cases h⟩
   next e1 c1 hne h1 =>
    simp only [Option.some.injEq, Prod.mk.injEq] at h
    obtain ⟨rfl, rfl⟩ := h
    obtain ⟨j1, j2, _⟩ := ih _ _ _ _ h1 hl
    exact ⟨j1, .last j2 (fun he => hne he), fun _ _ h => by cases h⟩
  | code x =>
   simp only [jobF] at h
   obtain ⟨k1, k2⟩ := codeF_right hX ih h hl
   exact ⟨k1, k2, fun _ _ h => by cases h⟩
  | draws => simp [jobF] at h
end
end
end Go.Dam
end

section
namespace Go.Dam
open Go Go.RowKit
variable [Glo]
noncomputable section
def ReadsO (e e' : D) : Prop := ∀ (w : World) (A : Nat → Prop) (u : Value) (bl : List (Option Addr)), RepO w A e u bl → RepO w A e' u bl
theorem ReadsO.refl (e : D) : ReadsO e e := fun _ _ _ _ h => h
inductive ReadsOs : List D → List D → Prop
 | nil : ReadsOs [] []
 | cons {d e : D} {ds es : List D} : ReadsO d e → ReadsOs ds es → ReadsOs (d :: ds) (e :: es)
theorem ReadsOs.repOs {ds es : List D} (h : ReadsOs ds es) {w : World} {A : Nat → Prop} {vs : List Value} {bl : List (Option Addr)} (hr : RepOs w A ds vs bl) : RepOs w A es vs bl := by
 induction h generalizing vs bl with
 | nil => exact hr
 | cons h1 _ ih =>
  simp only [RepOs] at hr ⊢
  obtain ⟨x, xs, b1, b2, rfl, rfl, k1, k2⟩ := hr
  exact ⟨x, xs, b1, b2, rfl, rfl, h1 _ _ _ _ k1, ih k2⟩
theorem ReadsOs.agg {ds es : List D} (h : ReadsOs ds es) : ReadsO (.agg ds) (.agg es) := fun w A u bl hr => by
 simp only [RepO] at hr ⊢
 obtain ⟨vs, rfl, hr⟩ := hr
 exact ⟨vs, rfl, h.repOs hr⟩
theorem ReadsOs.tup {ds es : List D} (h : ReadsOs ds es) : ReadsO (.tup ds) (.tup es) := fun w A u bl hr => by
 simp only [RepO] at hr ⊢
 obtain ⟨vs, rfl, hr⟩ := hr
 exact ⟨vs, rfl, h.repOs hr⟩
theorem ReadsL.ow {ds es : List D} (h : ReadsL ds es) (n sz : Nat) : ReadsO (.ow n sz ds) (.ow n sz es) := fun w A u bl hr => by
 simp only [RepO] at hr ⊢
 obtain ⟨o, c, rfl, hr⟩ := hr
 refine ⟨o, c, rfl, ?_⟩
 rcases hr with ⟨h1, h2, h3, h4⟩ | ⟨h1, ad, h2, h3, h4, h5, h6⟩
 ·exact .inl ⟨h1, h2, h.nil_iff.1 h3, h4⟩
 ·exact .inr ⟨h1, ad, h2, h3, h4, h5, h.repAt h6⟩
theorem ow_oc (cols : List Col0) : ReadsO (.ow (rowLen0 cols) cols.length (rowCells0 cols)) (.oc cols) := fun w A u bl hr => by
 simp only [RepO] at hr ⊢
 exact hr
/-- A result, its own slices handed over. -/
def finX (bk : List (Nat × BX)) : D → Option (D × List Nat × List Nat × List Prop)
 | .undef => some (.undef, [], [], [])
 | .v x => some (.v x, [], [], [])
 | .sh n cs => some (.sh n cs, [], [], [])
 | .rc cs => some (.rc cs, [], [], [])
 | .emp => some (.emp, [], [], [])
 | .sl id off n sz => match lookX id bk with
  | some (.cells cells false) => if off + n * sz ≤ cells.length then
    match shareAllX (shareX bk depth) ((cells.drop off).take (n * sz)) with
    | none => none
    | some (cs, ids, l) => some (.ow n sz cs, ids, [id], l)
   else none
  | some (.row cols false) => bif Nat.beq off 0 && Nat.beq sz.s cols.length then some (.oc cols, [], [id], [n = rowLen0 cols]) else none
  | _ => none
 | .agg cs => match finXL cs with
  | none => none
  | some (ds, i, j, l) => some (.agg ds, i, j, l)
 | .tup cs => match finXL cs with
  | none => none
  | some (ds, i, j, l) => some (.tup ds, i, j, l)
 | _ => none
where
 finXL : List D → Option (List D × List Nat × List Nat × List Prop)
 | [] => some ([], [], [], [])
 | d :: ds => match finX bk d, finXL ds with
  | some (e, i, j, l), some (es, is, js, ls) => some (e :: es, i ++ is, j ++ js, l ++ ls)
  | _, _ => none
mutual
theorem finX_spec {bk : List (Nat × BX)} : ∀ (d e : D) (sh own : List Nat) (l : List Prop), finX bk d = some (e, sh, own, l) → AllP l → ∃ e', fin (fun i => lookB i bk) d = some (e', sh, own) ∧ ReadsO e' e
 | .undef, e, sh, own, l, h, hl => by simp [finX] at h; obtain ⟨rfl, rfl, rfl, rfl⟩ := h; exact ⟨_, by simp only [fin], .refl _⟩
 | .v x, e, sh, own, l, h, hl => by simp [finX] at h; obtain ⟨rfl, rfl, rfl, rfl⟩ := h; exact ⟨_, by simp only [fin], .refl _⟩
 | .sh _ _, e, sh, own, l, h, hl => by simp [finX] at h; obtain ⟨rfl, rfl, rfl, rfl⟩ := h; exact ⟨_, by simp only [fin], .refl _⟩
 | .rc _, e, sh, own, l, h, hl => by simp [finX] at h; obtain ⟨rfl, rfl, rfl, rfl⟩ := h; exact ⟨_, by simp only [fin], .refl _⟩
 | .emp, e, sh, own, l, h, hl => by simp [finX] at h; obtain ⟨rfl, rfl, rfl, rfl⟩ := h; exact ⟨_, by simp only [fin], .refl _⟩
 | .sl id off n sz, e, sh, own, l, h, hl => by
  simp only [finX] at h
  split at h
  next cells hb =>
   split at h
   next hle =>
    split at h
    ·cases h
    next cs ids l' h1 =>
     simp at h; obtain ⟨rfl, rfl, rfl, rfl⟩ := h
     obtain ⟨es', k1, k2⟩ := shareAllX_spec (fun d e ids l h hl => shareX_spec depth d e ids l h hl) _ cs ids l' h1 hl
     refine ⟨.ow n sz es', ?_, k2.ow n sz⟩
     simp only [fin, lookB_cells hb]
     rw [if_pos ⟨hle, trivial⟩, k1]
   ·cases h
  next cols hb =>
   simp only [cond_eq_ite] at h
   split at h
   next hc =>
    simp only [Bool.and_eq_true] at hc
    simp only [Option.some.injEq, Prod.mk.injEq] at h; obtain ⟨rfl, rfl, rfl, rfl⟩ := h
    obtain rfl := Nat.eq_of_beq_eq_true hc.1
    have hsz := Nat.eq_of_beq_eq_true hc.2
    simp only [AllP, and_true] at hl
    subst hl
    have hlb : lookB id bk = some ⟨rowCells0 cols, false⟩ := by unfold lookB; rw [hb]; rfl
    have hlen := rowCells0_length cols
    refine ⟨.ow (rowLen0 cols) sz (rowCells0 cols), ?_, ?_⟩
    ·simp only [fin, hlb]
     rw [if_pos ⟨by rw [hlen, hsz]; omega, trivial⟩, List.drop_zero, List.take_of_length_le (by rw [hlen, hsz]; exact Nat.le_refl _), shareAll_v _ depth _ fun d hd => rowCells0_v hd]
    ·rw [hsz]; exact ow_oc cols
   ·cases h
  ·cases h
 | .agg cs, e, sh, own, l, h, hl => by
  simp only [finX] at h
  split at h
  ·cases h
  next ds i j l' h1 =>
   simp at h; obtain ⟨rfl, rfl, rfl, rfl⟩ := h
   obtain ⟨es, k1, k2⟩ := finXL_spec cs ds i j l' h1 hl
   exact ⟨.agg es, by simp only [fin, k1], k2.agg⟩
 | .tup cs, e, sh, own, l, h, hl => by
  simp only [finX] at h
  split at h
  ·cases h
  next ds i j l' h1 =>
   simp at h; obtain ⟨rfl, rfl, rfl, rfl⟩ := h
   obtain ⟨es, k1, k2⟩ := finXL_spec cs ds i j l' h1 hl
   exact ⟨.tup es, by simp only [fin, k1], k2.tup⟩
 | .ow _ _ _, e, sh, own, l, h, hl => by simp [finX] at h
 | .oc _, e, sh, own, l, h, hl => by simp [finX] at h
 | .ptr _ _, e, sh, own, l, h, hl => by simp [finX] at h
 | .pel _ _ _ _, e, sh, own, l, h, hl => by simp [finX] at h
 | .shp _ _, e, sh, own, l, h, hl => by simp [finX] at h
 | .fn _ _, e, sh, own, l, h, hl => by simp [finX] at h
 | .yld, e, sh, own, l, h, hl => by simp [finX] at h
theorem finXL_spec {bk : List (Nat × BX)} : ∀ (ds es : List D) (sh own : List Nat) (l : List Prop), finX.finXL bk ds = some (es, sh, own, l) → AllP l → ∃ es', fin.finL (fun i => lookB i bk) ds = some (es', sh, own) ∧ ReadsOs es' es
 | [], es, sh, own, l, h, hl => by simp [finX.finXL] at h; obtain ⟨rfl, rfl, rfl, rfl⟩ := h; exact ⟨[], by simp only [fin.finL], .nil⟩
 | d :: ds, es, sh, own, l, h, hl => by
  simp only [finX.finXL] at h
  split at h
  next e i j l1 es' is js l2 h1 h2 =>
   simp at h; obtain ⟨rfl, rfl, rfl, rfl⟩ := h
   rw [AllP_append] at hl
   obtain ⟨e1, k1, k2⟩ := finX_spec d e i j l1 h1 hl.1
   obtain ⟨e2, k3, k4⟩ := finXL_spec ds es' is js l2 h2 hl.2
   exact ⟨e1 :: e2, by simp only [fin.finL, k1, k3], .cons k2 k4⟩
  ·cases h
end
/-- A result, told as shared content. -/
def finSX (bk : List (Nat × BX)) : D → Option (D × List Prop)
 | .tup cs => match shareAllX (shareX bk depth) cs with
  | none => none
  | some (ds, ids, l) => some (.tup ds, l)
 | d => match shareX bk depth d with
  | none => none
  | some (e, ids, l) => some (e, l)
/-- How a result is told. -/
def finishX (bk : List (Nat × BX)) (d : D) : Option (D × List Prop) :=
 match finX bk d with
 | some (e, sh, own, l) => bif decide own.Nodup && own.all fun i => !sh.contains i then some (e, l) else finSX bk d
 | none => finSX bk d
theorem calls_mono {P : Program} {f : FuncId} {args : List D} {e e' : D} (h : ReadsO e e') (k : CallsD P f args e) : CallsD P f args e' := fun w A vs hv low glo => (k w A vs hv low glo).mono fun r w' ⟨v, A', bl, h1, h2, h3⟩ => ⟨v, A', bl, h1, h _ _ _ _ h2, h3⟩
theorem finishX_spec {bk : List (Nat × BX)} {d e : D} {l : List Prop} (h : finishX bk d = some (e, l)) (hl : AllP l) : ∃ e', Fins (fun i => lookB i bk) d e' ∧ ReadsO e' e := by
 have viaS : finSX bk d = some (e, l) → ∃ e', Fins (fun i => lookB i bk) d e' ∧ ReadsO e' e := by
  clear h
  intro h
  unfold finSX at h
  split at h
  next cs =>
   split at h
   ·cases h
   next ds ids l' h1 =>
    simp only [Option.some.injEq, Prod.mk.injEq] at h; obtain ⟨rfl, rfl⟩ := h
    obtain ⟨es', k1, k2⟩ := shareAllX_spec (fun d e ids l h hl => shareX_spec depth d e ids l h hl) _ ds ids l' h1 hl
    exact ⟨_, .sharedT rfl k1 k2 rfl, .refl _⟩
  next =>
   split at h
   ·cases h
   next e0 ids l' h1 =>
    simp only [Option.some.injEq, Prod.mk.injEq] at h; obtain ⟨rfl, rfl⟩ := h
    obtain ⟨e', k1, k2⟩ := shareX_spec depth d e0 ids l' h1 hl
    exact ⟨_, .shared k1 k2, .refl _⟩
 unfold finishX at h
 split at h
 next e1 sh own l1 h1 =>
  simp only [cond_eq_ite] at h
  split at h
  next hc =>
   simp only [Option.some.injEq, Prod.mk.injEq] at h; obtain ⟨rfl, rfl⟩ := h
   simp only [Bool.and_eq_true, decide_eq_true_eq] at hc
   obtain ⟨e', k1, k2⟩ := finX_spec d _ sh own _ h1 hl
   exact ⟨e', .own k1 hc.1 hc.2, k2⟩
  next => exact viaS h
 next => exact viaS h
def Cf.start (args : List D) (nt : Nat) (path : List PE) : Cf := { tm := TT.mk (initD args (args.length + (nt - args.length))) (args.length + (nt - args.length) + 1) 0 1, nt := args.length + (nt - args.length), stk := [], bk := [], loop := none, todo := path }
theorem start_abs (args : List D) (nt : Nat) (path : List PE) : (Cf.start args nt path).abs = St.start args nt := by
 simp only [Cf.start, Cf.abs, Cs.abs, St.start, St.enter, List.map_nil, lookB, lookX, Option.map_none]
 congr 1
 exact frOf_mk args nt
def endX (P : Program) (fn : Func) (e : Ex) (c' : Cf) : Option (D × List Prop) :=
 match e.done, resD P c'.abs fn.results.toList with
 | true, some ds => match finishX c'.bk (resOut ds) with
  | some (res, l) => some (res, l ++ c'.cds)
  | none => none
 | _, _ => none
/-- A function, run. -/
def fnX (P : Program) (X : Contracts) (fuel : Nat) (path : List PE) (f : FuncId) (args : List D) : Option (D × List Prop) :=
 match bodyOf P f with
 | none => none
 | some (fn, c) => match evX P X fuel (.code c) (Cf.start args fn.ntmps path) with
  | none => none
  | some (e, c') => endX P fn e c'
section
variable {P : Program} {X : Contracts} (hX : ConOK P X)
include hX in
theorem fnX_calls {fuel : Nat} {path : List PE} {f : FuncId} {args : List D} {res : D} {l : List Prop} (h : fnX P X fuel path f args = some (res, l)) (hl : AllP l) : CallsD P f args res := by
 unfold fnX at h
 split at h
 ·cases h
 next fn c hb =>
  split at h
  ·cases h
  next e c' hev =>
   unfold endX at h
   split at h
   next ds hd hr =>
    split at h
    next res0 l0 hf =>
     simp only [Option.some.injEq, Prod.mk.injEq] at h; obtain ⟨rfl, rfl⟩ := h
     rw [AllP_append] at hl
     obtain ⟨_, r1, _⟩ := evX_right hX fuel _ _ _ _ hev hl.2
     rw [start_abs] at r1
     obtain ⟨e', k1, k2⟩ := finishX_spec hf hl.1
     exact calls_mono k2 (calls_of_runs (fun f as res h => h) hb r1 (by cases e <;> simp [Ex.done] at hd <;> simp) hr k1)
    ·cases h
   ·cases h
def Cs.run (c : Cs) (path : List PE) : Cf := { c with todo := path }
/-- A round of a loop; and what counts behind it. -/
def roundX (P : Program) (X : Contracts) (fuel : Nat) (b : Code) (path : List PE) (keep : List (List Nat)) (ren : List (Nat × Nat)) (c : Cs) : Option (Ex × Cs × List Prop) :=
 match evX P X fuel (.code b) (c.run path) with
 | some (e, c') => bif okRen ren then some (e, c'.toCs.norm keep ren, c'.cds) else none
 | none => none
include hX in
theorem roundX_runs {fuel : Nat} {b : Code} {path : List PE} {keep : List (List Nat)} {ren : List (Nat × Nat)} {c c1 : Cs} {e : Ex} {l : List Prop} (h : roundX P X fuel b path keep ren c = some (e, c1, l)) (hl : AllP l) : Runs P (CallsD P) (.code b) c.abs e c1.abs := by
 unfold roundX at h
 split at h
 next e' c' hev =>
  simp only [cond_eq_ite] at h
  split at h
  next ho =>
   simp only [Option.some.injEq, Prod.mk.injEq] at h
   obtain ⟨rfl, rfl, rfl⟩ := h
   obtain ⟨_, r1, _⟩ := evX_right hX fuel _ _ _ _ hev hl
   exact .late rfl r1 (norm_weaker c'.toCs keep ho)
  ·cases h
 ·cases h
include hX in
/-- One more round. -/
theorem round_on {fuel : Nat} {b : Code} {path : List PE} {keep : List (List Nat)} {ren : List (Nat × Nat)} {c c1 : Cs} {σ : St} {e : Ex} {l : List Prop} (h : roundX P X fuel b path keep ren c = some (.normal, c1, l)) (hl : AllP l)
  (hr : Runs P (CallsD P) (.rounds b) c1.abs e σ) : Runs P (CallsD P) (.rounds b) c.abs e σ := .round (roundX_runs hX h hl) hr
include hX in
/-- The last round. -/
theorem round_end {fuel : Nat} {b : Code} {path : List PE} {keep : List (List Nat)} {ren : List (Nat × Nat)} {c c1 : Cs} {e : Ex} {l : List Prop} (h : roundX P X fuel b path keep ren c = some (e, c1, l)) (hl : AllP l) (he : e ≠ .normal) :
  Runs P (CallsD P) (.rounds b) c.abs e c1.abs := .last (roundX_runs hX h hl) he
/-- The loops of a text, in its order. -/
def loopsOf : Code → List Code
 | .seq a b => loopsOf a ++ loopsOf b
 | .cond _ a b => loopsOf a ++ loopsOf b
 | .block _ a => loopsOf a
 | .loop a => a :: loopsOf a
 | .rangeFunc _ _ a b => loopsOf a ++ loopsOf b
 | _ => []
/-- A function's loop. -/
def loopAt (P : Program) (f : FuncId) (k : Nat) : Code := match bodyOf P f with
 | some (_, c) => (loopsOf c).getD k .skip
 | none => .skip
theorem loop_of_rounds {b : Code} {σ σ' : St} {e : Ex} (h : Runs P (CallsD P) (.rounds b) σ e σ') : Runs P (CallsD P) (.code (.loop b)) σ e σ' := .loop h
end
end
end Go.Dam
namespace Go.Dam
open Go
variable [Glo]
/-- A function by one of its paths. -/
theorem of_path {P : Program} {X : Contracts} (hX : ConOK P X) {fuel : Nat} {path : List PE} {f : FuncId} {args : List D} {res res' : D} {l : List Prop}
  (h : fnX P X fuel path f args = some (res, l)) (hl : AllP l) (e : res' = res) : CallsD P f args res' := by rw [e]; exact fnX_calls hX h hl
theorem rounds_on {P : Program} {X : Contracts} (hX : ConOK P X) {fuel : Nat} {b : Code} {path : List PE} {keep : List (List Nat)} {ren : List (Nat × Nat)} {c c1 : Cs} {σ : St} {e : Ex} {l : List Prop}
  (h : roundX P X fuel b path keep ren c = some (.normal, c1, l)) (hl : AllP l) (hr : Runs P (CallsD P) (.rounds b) c1.abs e σ) : Runs P (CallsD P) (.rounds b) c.abs e σ := round_on hX h hl hr
theorem rounds_end {P : Program} {X : Contracts} (hX : ConOK P X) {fuel : Nat} {b : Code} {path : List PE} {keep : List (List Nat)} {ren : List (Nat × Nat)} {c c1 : Cs} {σ : St} {e e0 : Ex} {l : List Prop}
  (h : roundX P X fuel b path keep ren c = some (e0, c1, l)) (hl : AllP l) (hn : e0 ≠ .normal) (he : e = e0 ∧ σ = c1.abs) : Runs P (CallsD P) (.rounds b) c.abs e σ := by
 obtain ⟨rfl, rfl⟩ := he; exact round_end hX h hl hn
end Go.Dam
end

section
namespace Go.Dam
open Go Go.RowKit
/-! ### Numbers -/
theorem wrap_u64 (n : Int) : IntKind.wrap .u64 n = n % 18446744073709551616 := by simp [IntKind.wrap, IntKind.signed, IntKind.bits]
theorem wrap_u32 (n : Int) : IntKind.wrap .u32 n = n % 4294967296 := by simp [IntKind.wrap, IntKind.signed, IntKind.bits]
theorem wrap_i64 (n : Int) : IntKind.wrap .i64 n = if n % 18446744073709551616 ≥ 9223372036854775808 then n % 18446744073709551616 - 18446744073709551616 else n % 18446744073709551616 := by simp [IntKind.wrap, IntKind.signed, IntKind.bits]
theorem wrap_i64_of {n : Int} (h1 : -9223372036854775808 ≤ n) (h2 : n < 9223372036854775808) : IntKind.wrap .i64 n = n := by
 rw [wrap_i64]; split <;> omega
theorem wrap_u64_of {n : Int} (h1 : 0 ≤ n) (h2 : n < 18446744073709551616) : IntKind.wrap .u64 n = n := by rw [wrap_u64]; omega
theorem opI_add (k : IntKind) (a b : Int) : opI .add k a b = k.wrap (a + b) := rfl
theorem opI_sub (k : IntKind) (a b : Int) : opI .sub k a b = k.wrap (a - b) := rfl
theorem opI_mul (k : IntKind) (a b : Int) : opI .mul k a b = k.wrap (a * b) := rfl
theorem opI_quo (k : IntKind) {a b : Int} (ha : 0 ≤ a) : opI .quo k a b = k.wrap (a / b) := by show k.wrap (a.tdiv b) = _; rw [Int.tdiv_eq_ediv_of_nonneg ha]
theorem opI_rem (k : IntKind) {a b : Int} (ha : 0 ≤ a) : opI .rem k a b = a % b := by show a.tmod b = _; rw [Int.tmod_eq_emod_of_nonneg ha]
@[simp] theorem lss_t {a b : Int} : (cmpI .lss a b = true) ↔ a < b := by simp [cmpI]
@[simp] theorem leq_t {a b : Int} : (cmpI .leq a b = true) ↔ a ≤ b := by simp [cmpI]
@[simp] theorem gtr_t {a b : Int} : (cmpI .gtr a b = true) ↔ b < a := by simp [cmpI]
@[simp] theorem geq_t {a b : Int} : (cmpI .geq a b = true) ↔ b ≤ a := by simp [cmpI]
@[simp] theorem eql_t {a b : Int} : (cmpI .eql a b = true) ↔ a = b := by simp [cmpI]
@[simp] theorem neq_t {a b : Int} : (cmpI .neq a b = true) ↔ a ≠ b := by simp [cmpI]
@[simp] theorem lss_f {a b : Int} : (cmpI .lss a b = false) ↔ b ≤ a := by simp [cmpI]
@[simp] theorem leq_f {a b : Int} : (cmpI .leq a b = false) ↔ b < a := by simp [cmpI]
@[simp] theorem gtr_f {a b : Int} : (cmpI .gtr a b = false) ↔ a ≤ b := by simp [cmpI]
@[simp] theorem geq_f {a b : Int} : (cmpI .geq a b = false) ↔ a < b := by simp [cmpI]
@[simp] theorem eql_f {a b : Int} : (cmpI .eql a b = false) ↔ a ≠ b := by simp [cmpI]
@[simp] theorem neq_f {a b : Int} : (cmpI .neq a b = false) ↔ a = b := by simp [cmpI]
/-! ### Contracts, put together -/
variable [Glo]
def noCon : Contracts := fun _ => none
theorem noCon_ok {P : Program} : ConOK P noCon := ⟨fun f g h => (by cases h), fun f g h => (by cases h)⟩
/-- One contract more. -/
def addCon (f : FuncId) (c : Con) (X : Contracts) : Contracts := fun k => bif Nat.beq k f then some c else X k
theorem addCall_ok {P : Program} {X : Contracts} {f : FuncId} {g : List D → Option (D × List Prop)} (hg : ∀ args res l, g args = some (res, l) → AllP l → CallsD P f args res) (hX : ConOK P X) : ConOK P (addCon f (.call g) X) := by
 refine ⟨fun k g' h => ?_, fun k g' h => ?_⟩
 ·unfold addCon at h
  cases hb : Nat.beq k f with
  | true => rw [hb] at h; have := Nat.eq_of_beq_eq_true hb; subst this; cases h; exact hg
  | false => rw [hb] at h; exact hX.call k g' h
 ·unfold addCon at h
  cases hb : Nat.beq k f with
  | true => rw [hb] at h; cases h
  | false => rw [hb] at h; exact hX.ext k g' h
end Go.Dam
end

section
namespace Go.Dam
open Go Go.RowKit Go.ChangeShapes Go.WideShapes
section
variable {H : Type} {enc : TypeId × Value → H} {P : Program} {w : World} {spare : Nat → Bool}
/-! ### What comes in, laid open -/
/-- Rows of pairs of numbers. -/
def IsPairs (k0 k1 : IntKind) (w : World) (v : Value) (xs ys : List Int) : Prop :=
 xs.length = ys.length ∧ (∀ i, i < xs.length → (Lit.int k0 (xs.getD i 0)).wf = true) ∧ (∀ i, i < xs.length → (Lit.int k1 (ys.getD i 0)).wf = true) ∧
  ∃ o cp, v = .slice o xs.length cp ∧ xs.length ≤ cp ∧ cp ≤ maxLen ∧ (xs.length ≠ 0 → ∃ ad, o = some ad ∧ ad.spot = none ∧ ad.block < w.heap.size) ∧
   ∀ i, i < xs.length → w.cell? (plusOff (o.getD default) (i * 2)) = some (.int k0 (xs.getD i 0)) ∧ w.cell? (plusOff (o.getD default) (i * 2 + 1)) = some (.int k1 (ys.getD i 0))
theorem add_plus (a : Addr) (n : Nat) (h : a.spot = none) : a.add n = plusOff a n := by
 unfold Addr.add plusOff
 split
 ·next e => subst e; cases a; simp at h; simp [h]
 ·rfl
end
variable [Glo]
theorem IsPairs.rep (hg : ¬ Live) {k0 k1 : IntKind} {w : World} {v : Value} {xs ys : List Int} (h : IsPairs k0 k1 w v xs ys) : RepS w (fun k => k < w.heap.size) (.rc [.ints k0 xs, .ints k1 ys]) v := by
 obtain ⟨_, _, _, o, cp, rfl, hl, _, h0, hc⟩ := h
 simp only [RepS]
 refine ⟨o, cp, rfl, fun q => absurd q hg, hl, h0, fun i j c hi hj => ?_⟩
 have := hc i hi
 match j, hj with
 | 0, hj => simp at hj; subst hj; exact ⟨_, this.1, rfl⟩
 | 1, hj => simp at hj; subst hj; exact ⟨_, this.2, rfl⟩
theorem wf_i64 {n : Int} (h : (Lit.int .i64 n).wf = true) : -9223372036854775808 ≤ n ∧ n < 9223372036854775808 := by
 simp [Lit.wf, IntKind.has, IntKind.min, IntKind.max, IntKind.signed, IntKind.bits] at h; omega
end Go.Dam
end

section
namespace Go.Dam
open Go Go.RowKit
variable [Glo]
/-! Long rows of numbers in a contract. -/
def D.isK (k : IntKind) : D → Bool
 | .v (.int k' _) => decide (k' = k)
 | _ => false
end Go.Dam
end

section
namespace Go.Dam
open Go Go.RowKit Go.ChangeShapes Go.WideShapes
/-! Values of numbers and truth values alone, however they are nested. -/
inductive CK where
 | int (k : IntKind)
 | bool
 deriving DecidableEq
def CK.ok : CK → Value → Prop
 | .int k, v => ∃ n, v = .int k n ∧ (Lit.int k n).wf = true
 | .bool, v => ∃ b, v = .bool b
def flatF (g : TypeId → Option (List CK)) : Nat → List Field → Option (List CK)
 | _, [] => some []
 | off, f :: fs => match g f.type with
  | some ks => match flatF g (off + ks.length) fs with
   | some r => if f.offset = off then some (ks ++ r) else none
   | none => none
  | none => none
def flatT (P : Program) : Nat → TypeId → Option (List CK)
 | 0, _ => none
 | n + 1, t => match P.underlying t with
  | some .bool => if 1 = P.cellsOf t then some [.bool] else none
  | some (.int k) => if 1 = P.cellsOf t then some [.int k] else none
  | some (.struct fs) => match flatF (flatT P n) 0 fs.toList with
   | some ks => if ks.length = P.cellsOf t then some ks else none
   | none => none
  | some (.array len e) => match flatT P n e with
   | some ks => if len * ks.length = P.cellsOf t then some (List.replicate len ks).flatten else none
   | none => none
  | _ => none
def Fits : List CK → List Value → Prop
 | [], [] => True
 | k :: ks, v :: vs => k.ok v ∧ Fits ks vs
 | _, _ => False
theorem Fits.app : ∀ {ks : List CK} {cs : List Value} {ks' : List CK}, Fits ks (cs.take ks.length) → Fits ks' (cs.drop ks.length) → Fits (ks ++ ks') cs
 | [], cs, ks', _, h => by simpa using h
 | k :: ks, [], ks', h, _ => by simp [Fits] at h
 | k :: ks, c :: cs, ks', h, h' => by
  simp only [List.length_cons, List.take_succ_cons, Fits, List.drop_succ_cons, List.cons_append] at h h' ⊢
  exact ⟨h.1, Fits.app h.2 h'⟩
theorem Fits.length : ∀ {ks : List CK} {cs : List Value}, Fits ks cs → ks.length = cs.length
 | [], [], _ => rfl
 | [], _ :: _, h => by simp [Fits] at h
 | _ :: _, [], h => by simp [Fits] at h
 | _ :: _, _ :: _, h => by simp only [Fits] at h; simp [Fits.length h.2]
section
variable {H : Type} {enc : TypeId × Value → H} {P : Program} {w : World} {spare : Nat → Bool}
theorem flatT_length : ∀ {n : Nat} {t : TypeId} {ks : List CK}, flatT P n t = some ks → ks.length = P.cellsOf t
 | 0, _, _, h => by simp [flatT] at h
 | n + 1, t, ks, h => by
  unfold flatT at h
  split at h
  ·split at h
   next e => simp at h; subst h; simpa using e
   ·cases h
  ·split at h
   next e => simp at h; subst h; simpa using e
   ·cases h
  ·split at h
   ·split at h
    next e => simp at h; subst h; exact e
    ·cases h
   ·cases h
  ·split at h
   ·split at h
    next e => simp at h; subst h; simpa using e
    ·cases h
   ·cases h
  ·cases h
theorem flatF_fits {g : TypeId → Option (List CK)} {cs : List Value} (hg : ∀ t ks, g t = some ks → ks.length = P.cellsOf t) : ∀ (fs : List Field) (off : Nat) (r : List CK), flatF g off fs = some r →
  (∀ f ∈ fs, ∀ ks, g f.type = some ks → Fits ks ((cs.drop f.offset).take (P.cellsOf f.type))) → cs.length = off + r.length → Fits r (cs.drop off)
 | [], off, r, h, _, hl => by
  simp [flatF] at h; subst h
  rw [List.drop_of_length_le (by simp at hl; omega)]; trivial
 | f :: fs, off, r, h, hf, hl => by
  simp only [flatF] at h
  split at h
  next ks hks =>
   split at h
   next r' hr' =>
    split at h
    next ho =>
     simp at h; subst h
     have h1 := hf f (by simp) ks hks
     rw [← hg _ _ hks, ho] at h1
     refine Fits.app h1 ?_
     rw [List.drop_drop]
     exact flatF_fits hg fs _ r' hr' (fun f' hm => hf f' (by simp [hm])) (by simp at hl; omega)
    ·cases h
   ·cases h
  ·cases h
theorem rep_fits {cs : List Value} {ks : List CK} : ∀ (len i : Nat), cs.length = (i + len) * ks.length → (∀ j, i ≤ j → j < i + len → Fits ks ((cs.drop (j * ks.length)).take ks.length)) → Fits (List.replicate len ks).flatten (cs.drop (i * ks.length))
 | 0, i, hl, _ => by
  rw [List.drop_of_length_le (by simp at hl; omega)]; simp [Fits]
 | len + 1, i, hl, h => by
  rw [List.replicate_succ, List.flatten_cons]
  refine Fits.app (h i (Nat.le_refl _) (by omega)) ?_
  rw [List.drop_drop, ← Nat.succ_mul]
  exact rep_fits len (i + 1) (by rw [hl]; congr 1; omega) fun j h1 h2 => h j (by omega) (by omega)
theorem flat_trod : ∀ {n : Nat} {t : TypeId} {ks : List CK} {fuel : Nat} {cs : List Value} {x : DataW H × List MemPlace}, flatT P n t = some ks → DataW.trod enc P w 0 spare true fuel t cs = some x → Fits ks cs
 | 0, _, _, _, _, _, h, _ => by simp [flatT] at h
 | n + 1, t, ks, fuel, cs, x, h, hx => by
  unfold flatT at h
  split at h
  next hu =>
   split at h
   next e =>
    simp at h; subst h
    obtain ⟨b, rfl, _⟩ := DataW.trod_bool hu hx
    exact ⟨⟨b, rfl⟩, trivial⟩
   ·cases h
  next k hu =>
   split at h
   next e =>
    simp at h; subst h
    obtain ⟨a, rfl, _, hw⟩ := DataW.trod_int hu hx
    exact ⟨⟨a, rfl, hw⟩, trivial⟩
   ·cases h
  next fs hu =>
   split at h
   next ks' hks =>
    split at h
    next e =>
     simp at h; subst h
     obtain ⟨xs, m, _, _, hl, hlen, hf⟩ := DataW.trod_struct hu hx
     have := flatF_fits (P := P) (cs := cs) (fun t ks h => flatT_length h) fs.toList 0 ks' hks (fun f hm ks hk => by
      obtain ⟨i, hi⟩ := List.getElem?_of_mem hm
      have hi' : fs[i]? = some f := by simpa using hi
      have h1 := hf i f hi'
      have hlt : i < xs.length := by rw [hlen]; exact (Array.getElem?_eq_some_iff.1 hi').1
      rw [List.getElem?_eq_getElem hlt] at h1
      exact flat_trod hk h1) (by omega)
     simpa using this
    ·cases h
   ·cases h
  next len e hu =>
   split at h
   next ks' hks =>
    split at h
    next he =>
     simp at h; subst h
     obtain ⟨xs, m, _, _, hl, hlen, hf⟩ := DataW.trod_array hu hx
     have hc := flatT_length hks
     have := rep_fits (cs := cs) (ks := ks') len 0 (by rw [hl, ← he]; simp) (fun j _ hj => by
      have h1 := hf j (by omega)
      rw [List.getElem?_eq_getElem (by omega), ← hc] at h1
      exact flat_trod hks h1)
     simpa using this
    ·cases h
   ·cases h
  ·cases h
end
variable [Glo]
end Go.Dam
end

section
namespace Go.Dam
open Go Go.RowKit
variable [Glo]
/-! Rows of many columns of numbers in a contract. -/
def Col.isK (k : IntKind) : Col → Bool
 | .ints k' _ => decide (k' = k)
 | _ => false
def mkC : List IntKind → (Nat → List Int) → List Col
 | [], _ => []
 | k :: ks, f => .ints k (f 0) :: mkC ks (fun i => f (i + 1))
end Go.Dam
end

section
namespace Go.Dam
open Go Go.RowKit
variable [Glo]
/-! Rounds, counted. -/
/-- Every round goes on. -/
theorem scan_all {P : Program} {F : FuncId → List D → D → Prop} {b : Code} (T : Nat → Cs) (n : Nat) (ok : Nat → Prop)
  (h : ∀ i, i < n → ok i → ∀ (σ : St) (e : Ex), Runs P F (.rounds b) (T (i + 1)).abs e σ → Runs P F (.rounds b) (T i).abs e σ)
  {σ : St} {e : Ex} (hend : Runs P F (.rounds b) (T n).abs e σ) : ∀ (d i : Nat), i + d = n → (∀ j, i ≤ j → j < n → ok j) → Runs P F (.rounds b) (T i).abs e σ
 | 0, i, hd, _ => by rw [show i = n by omega]; exact hend
 | d + 1, i, hd, ha => h i (by omega) (ha i (Nat.le_refl _) (by omega)) _ _ (scan_all T n ok h hend d (i + 1) (by omega) fun j h1 h2 => ha j (by omega) h2)
/-- Up to the first round that does not. -/
theorem scan_first {P : Program} {F : FuncId → List D → D → Prop} {b : Code} (T : Nat → Cs) (n : Nat) (ok : Nat → Prop)
  (h : ∀ i, i < n → ok i → ∀ (σ : St) (e : Ex), Runs P F (.rounds b) (T (i + 1)).abs e σ → Runs P F (.rounds b) (T i).abs e σ) : ∀ (d i : Nat), i + d = n → (∃ j, i ≤ j ∧ j < n ∧ ¬ ok j) →
   ∃ j, i ≤ j ∧ j < n ∧ ¬ ok j ∧ (∀ k, i ≤ k → k < j → ok k) ∧ ∀ (σ : St) (e : Ex), Runs P F (.rounds b) (T j).abs e σ → Runs P F (.rounds b) (T i).abs e σ
 | 0, i, hd, ⟨j, h1, h2, _⟩ => by omega
 | d + 1, i, hd, ⟨j, h1, h2, h3⟩ => by
  by_cases c : ok i
  ·have hj : i + 1 ≤ j := by
    rcases Nat.lt_or_ge i j with a | a
    ·exact a
    ·rw [show j = i by omega] at h3; exact absurd c h3
   obtain ⟨k, k1, k2, k3, k4, k5⟩ := scan_first T n ok h d (i + 1) (by omega) ⟨j, hj, h2, h3⟩
   refine ⟨k, by omega, k2, k3, fun m m1 m2 => ?_, fun σ e r => h i (by omega) c _ _ (k5 _ _ r)⟩
   rcases Nat.eq_or_lt_of_le m1 with q | q
   ·rw [← q]; exact c
   ·exact k4 m q m2
  ·exact ⟨i, Nat.le_refl _, by omega, c, fun k a b => by omega, fun _ _ r => r⟩
end Go.Dam
end

section
namespace Go.Dam
open Go Go.RowKit Go.ChangeShapes Go.WideShapes
/-- Rows of numbers alone. -/
def IsRows (ks : List IntKind) (w : World) (v : Value) (a : Nat → List Int) : Prop :=
 (∀ i j k, i < (a 0).length → ks[j]? = some k → (Lit.int k ((a j).getD i 0)).wf = true) ∧
  ∃ o cp, v = .slice o (a 0).length cp ∧ (a 0).length ≤ cp ∧ ((a 0).length ≠ 0 → ∃ ad, o = some ad ∧ ad.spot = none ∧ ad.block < w.heap.size) ∧
   ∀ i j k, i < (a 0).length → ks[j]? = some k → w.cell? (plusOff (o.getD default) (i * ks.length + j)) = some (.int k ((a j).getD i 0))
section
variable {H : Type} {enc : TypeId × Value → H} {P : Program} {w : World} {spare : Nat → Bool}
end
theorem wf_u32 {n : Int} (h : (Lit.int .u32 n).wf = true) : 0 ≤ n ∧ n < 4294967296 := by
 simp [Lit.wf, IntKind.has, IntKind.min, IntKind.max, IntKind.signed, IntKind.bits] at h; omega
variable [Glo]
theorem mkC_get : ∀ {ks : List IntKind} {a : Nat → List Int} {j : Nat} {c : Col}, (mkC ks a)[j]? = some c → ∃ k, ks[j]? = some k ∧ c = .ints k (a j)
 | [], _, _, _, h => by simp [mkC] at h
 | k' :: ks, a, 0, c, h => by simp [mkC] at h; subst h; exact ⟨k', rfl, rfl⟩
 | k' :: ks, a, j + 1, c, h => by
  simp only [mkC, List.getElem?_cons_succ] at h ⊢
  exact mkC_get h
theorem mkC_length : ∀ (ks : List IntKind) (a : Nat → List Int), (mkC ks a).length = ks.length
 | [], _ => rfl
 | k :: ks, a => by simp [mkC, mkC_length ks]
theorem IsRows.rep (hg : ¬ Live) {k0 : IntKind} {ks : List IntKind} {w : World} {v : Value} {a : Nat → List Int} (h : IsRows (k0 :: ks) w v a) : RepS w (fun k => k < w.heap.size) (.rc (mkC (k0 :: ks) a)) v := by
 obtain ⟨_, o, cp, rfl, hl, h0, hc⟩ := h
 have e : rowLen (mkC (k0 :: ks) a) = (a 0).length := rfl
 simp only [RepS]
 refine ⟨o, cp, by rw [e], fun q => absurd q hg, by rw [e]; exact hl, by rw [e]; exact h0, fun i j c hi hj => ?_⟩
 rw [e] at hi
 obtain ⟨k, hk, rfl⟩ := mkC_get hj
 rw [mkC_length]
 exact ⟨_, hc i j k hi hk, rfl⟩
end Go.Dam
end

section
namespace Go.Dam
open Go Go.RowKit
/-! A function that asks whether a row is nil. -/
@[reducible] def GL : Glo := ⟨fun _ => [], fun k => Nat.beq k liveId⟩
theorem repAt_v {G G' : Glo} {w : World} {A : Nat → Prop} : ∀ (cs : List D) (ad : Addr), (∀ d ∈ cs, ∃ x, d = .v x) → @RepAt G w A cs ad → @RepAt G' w A cs ad
 | [], _, _, _ => by simp [RepAt]
 | d :: ds, ad, h, hr => by
  obtain ⟨x, rfl⟩ := h d (by simp)
  simp only [RepAt] at hr ⊢
  obtain ⟨⟨u, h1, h2⟩, h3⟩ := hr
  refine ⟨⟨u, h1, ?_⟩, repAt_v ds _ (fun d hd => h d (by simp [hd])) h3⟩
  simp only [RepS] at h2 ⊢
  exact h2
theorem calls_live {G : Glo} {P : Program} {f : FuncId} {cols : List Col0}
  (h0 : ∀ cp : Nat, @CallsD G P f [.v (.slice none 0 cp)] (.v (.slice none 0 0)))
  (h1 : @CallsD GL P f [.rc (cols.map Col0.up)] (.oc cols)) : @CallsD G P f [.rc (cols.map Col0.up)] (.oc cols) := by
 intro w A vs hv low glo
 simp only [RepL] at hv
 obtain ⟨u, xs, rfl, hu, rfl⟩ := hv
 simp only [RepS] at hu
 obtain ⟨o, cp, rfl, hl, hn, hx, hc⟩ := hu
 cases o with
 | none =>
  have hz : rowLen (cols.map Col0.up) = 0 := by
   by_cases e : rowLen (cols.map Col0.up) = 0
   ·exact e
   ·obtain ⟨ad, h, _⟩ := hx e; cases h
  rw [hz]
  refine (h0 cp w A [_] ⟨_, _, rfl, rfl, rfl⟩ low glo).mono ?_
  rintro e w' ⟨v, A', bl, rfl, hr, _, h2, h3, h4, h5⟩
  simp only [RepO, RepS] at hr
  obtain ⟨rfl, rfl⟩ := hr
  refine ⟨_, A', [none], rfl, ?_, ⟨fun ad h => by simp at h, by simp⟩, h2, h3, h4, h5⟩
  rw [rowLen_up] at hz
  simp only [RepO]
  refine ⟨none, 0, by rw [hz], .inl ⟨hz, rfl, ?_, trivial⟩⟩
  apply List.length_eq_zero_iff.1
  rw [rowCells0_length, hz]; simp
 | some ad =>
  refine (h1 w A [_] ?_ low ?_).mono ?_
  ·refine ⟨_, _, rfl, ?_, rfl⟩
   simp only [RepS]
   refine ⟨some ad, cp, rfl, fun _ h => absurd h (by simp), hn, hx, fun i j c hi hj => ?_⟩
   obtain ⟨x, k1, k2⟩ := hc i j c hi hj
   refine ⟨x, k1, ?_⟩
   rw [List.getElem?_map, Option.map_eq_some_iff] at hj
   obtain ⟨c0, _, rfl⟩ := hj
   cases c0 <;> exact k2
  ·intro g hg; exact absurd rfl hg
  ·rintro e w' ⟨v, A', bl, rfl, hr, h1, h2, h3, h4, h5⟩
   refine ⟨v, A', bl, rfl, ?_, h1, h2, h3, h4, h5⟩
   simp only [RepO] at hr ⊢
   obtain ⟨o, c, hu, hr⟩ := hr
   refine ⟨o, c, hu, ?_⟩
   rcases hr with h | ⟨a1, ad2, a2, a3, a4, a5, a6⟩
   ·exact .inl h
   ·exact .inr ⟨a1, ad2, a2, a3, a4, a5, repAt_v _ _ (fun d hd => @rowCells0_v G _ _ hd) a6⟩
end Go.Dam
end
