/- The engine, part XG: an abstract machine for the program's functions, proved right against the model. No condition. -/
import Derived.Test.YtpbngkempchamaaDamXF
set_option linter.unusedSectionVars false
set_option linter.unusedVariables false
set_option linter.unusedSimpArgs false
namespace Go.Dam
open Go Go.RowKit
set_option linter.unusedSectionVars false
variable [Glo]
set_option linter.unusedSimpArgs false
set_option linter.unusedVariables false
noncomputable section

/-! ### The machine, run on terms -/

/-- Why it stands still: a decision that is not told, .. -/
def NeedB (d : D) : Prop := False
def NeedL (x : Code) (c : Cs) : Prop := False
def StuckO (o : Oper) (c : Cs) : Prop := False
def StuckC (o : Oper) (f : FuncId) (as : List D) (c : Cs) : Prop := False
def StuckR (R : Array Oper) (c : Cs) : Prop := False
def StuckT (why : Nat) (c : Cs) : Prop := False
def Within (f : FuncId) : Prop := False

/-- The truth value that an operation waits for. -/
def guardB (R : Array Oper) (o : Oper) (c : Cf) : D :=
  match o.guard with
  | none => .undef
  | some (j, _) => match (R[j]?).bind (·.dst) with
    | none => .undef
    | some t => c.get t

def stopId : Nat := 1000000007
def stopX (c : Cf) (p : Prop) : Option (Ex × Cf) := some (.exit stopId, { c with cds := p :: c.cds })

def Ex.done : Ex → Bool
  | .normal | .ret => true
  | .exit _ => false

abbrev RunX := Job → Cf → Option (Ex × Cf)

def inlineX (P : Program) (ih : RunX) (R : Array Oper) (l : List Oper) (o : Oper) (f : FuncId) (fn : Func) (e : Ex) (c1 : Cf) : Option (Ex × Cf) :=
  match e.done, resD P c1.abs fn.results.toList, c1.stk with
  | true, some ds, f0 :: stk => bif loopFits c1.loop stk.length then ih (.ops R l) (Cf.put { tm := f0.1, nt := f0.2, stk := stk, bk := c1.bk, loop := c1.loop, gen := c1.gen, todo := c1.todo, cds := c1.cds } o.dst (resOut ds)) else stopX c1 (StuckT 1 c1.toCs)
  | _, _, _ => stopX c1 (Within f)

def callF (P : Program) (X : Contracts) (ih : RunX) (dep : Nat) (R : Array Oper) (l : List Oper) (o : Oper) (c : Cf) (f : FuncId) (caps as : List D) : Option (Ex × Cf) :=
  match bodyOf P f with
  | none => match caps, D.plains as with
    | [], some vs => match extX P X f vs with
      | some (u, ps) => ih (.ops R l) ((c.put o.dst (D.ofV u)).owe ps)
      | none => stopX c (StuckC o f as c.toCs)
    | _, _ => stopX c (StuckC o f as c.toCs)
  | some (fn, body) => match callOf X f with
    | some g => match callX g c o.dst (site dep o.dst) (as ++ caps) with
      | some c' => ih (.ops R l) c'
      | none => stopX c (StuckC o f (as ++ caps) c.toCs)
    | none => match ih (.code body) (c.enter (as ++ caps) fn.ntmps) with
      | some (e, c1) => inlineX P ih R l o f fn e c1
      | none => none

def yieldOn (ih : RunX) (o : Oper) (c : Cf) (args : List Operand) (L : LoopSt) (f0 : TT × Nat) (m : Nat) : Option Cf :=
  bif L.state.ready? && (Nat.beq (m + 2) L.depth && (Nat.beq args.length L.ps.size && (noRange L.assign && noRange L.body))) then
    match ih (.code L.assign) (c.round f0 (L.ps.toList.zip (args.map (evalC c.toCs)))) with
    | some (.normal, c1) => match c1.loop with
      | some L1 => bif L1.state.ready? && Nat.beq L1.depth L.depth then
          match ih (.code L.body) { c1 with loop := some { L1 with state := .busy } } with
          | some (e, c2) => match c2.loop, c2.stk with
            | some L2, fI :: stk' => bif L2.state.busy? && Nat.beq L2.depth L.depth then some (Cf.put { tm := fI.1, nt := fI.2, stk := stk', bk := c2.bk, loop := some { L2 with state := e.round }, gen := c2.gen, todo := c2.todo, cds := c2.cds } o.dst (.v (.bool e.goes))) else none
            | _, _ => none
          | none => none
        else none
      | none => none
    | _ => none
  else none

def yieldC (ih : RunX) (o : Oper) (c : Cf) (args : List Operand) : Option Cf :=
  match c.loop, c.stk with
  | some L, f0 :: _ :: stk => yieldOn ih o c args L f0 stk.length
  | _, _ => none

def rangedC (P : Program) (ih : RunX) (c : Cf) (g : Operand) (ps : Array Tmp) (assign body : Code) : Option (Ex × Cf) :=
  match c.loop with
  | some _ => stopX c (StuckT 2 c.toCs)
  | none => match evalC (c.forget yldId).toCs g with
    | .fn f caps => match bodyOf P f with
      | some (fn, b) => match fn.results.toList with
        | [] => match ih (.code b) (c.ranged ps assign body caps fn.ntmps) with
          | some (e1, c1) => bif e1.done then match c1.loop, c1.stk with
            | some L1, fr :: _ :: stk => bif Nat.beq L1.depth (c.stk.length + 2) then match L1.state.leaves with
                | some e => some (e, { tm := fr.1, nt := fr.2, stk := stk, bk := c1.bk, loop := none, gen := c1.gen, todo := c1.todo, cds := c1.cds })
                | none => stopX c1 (StuckT 3 c1.toCs)
              else stopX c1 (StuckT 4 c1.toCs)
            | _, _ => stopX c1 (StuckT 5 c1.toCs)
            else stopX c1 (Within f)
          | none => none
        | _ => stopX c (StuckT 6 c.toCs)
      | none => stopX c (StuckT 7 c.toCs)
    | _ => stopX c (StuckT 8 c.toCs)

def opsCall (P : Program) (X : Contracts) (ih : RunX) (R : Array Oper) (l : List Oper) (o : Oper) (c : Cf) (p : Operand × Array Operand) : Option (Ex × Cf) :=
  match evalC c.toCs p.1 with
  | .fn f caps => callF P X ih (depOf c) R l o c f caps (p.2.toList.map (evalC c.toCs))
  | .yld => match yieldC ih o c p.2.toList with
    | some c' => ih (.ops R l) c'
    | none => stopX c (StuckO o c.toCs)
  | _ => stopX c (StuckO o c.toCs)

def opsPlain (P : Program) (ih : RunX) (R : Array Oper) (l : List Oper) (o : Oper) (c : Cf) : Option (Ex × Cf) :=
  match opX P c.look (evalC c.toCs) o.type o.op with
  | none => stopX c (StuckO o c.toCs)
  | some (e, ps) => match stepC c o.dst (site (depOf c) o.dst) e with
    | none => stopX c (StuckO o c.toCs)
    | some c' => ih (.ops R l) (c'.owe ps)

def opsWanted (P : Program) (X : Contracts) (ih : RunX) (R : Array Oper) (l : List Oper) (o : Oper) (c : Cf) : Option (Ex × Cf) :=
  match callParts o.op with
  | none => opsPlain P ih R l o c
  | some p => opsCall P X ih R l o c p

def opsF (P : Program) (X : Contracts) (ih : RunX) (R : Array Oper) (l : List Oper) (c : Cf) : Option (Ex × Cf) :=
  match l with
  | [] => some (.normal, c)
  | o :: l => match wantedX R o c with
    | none => stopX c (NeedB (guardB R o c))
    | some (false, c1) => ih (.ops R l) (c1.put o.dst (.v undef))
    | some (true, c1) => opsWanted P X ih R l o c1

def roundsF (ih : RunX) (b : Code) (c : Cf) : Option (Ex × Cf) :=
  match ih (.code b) c with
  | none => none
  | some (.normal, c') => ih (.rounds b) c'
  | some (e, c') => some (e, c')

def drawnF (P : Program) (X : Contracts) (ih : RunX) (R : Array Oper) (c : Cf) : Option (Ex × Cf) :=
  bif P.follows .mixedOrders && calmB P R then
    match drawsGo P X (fun l c' => ih (.ops R l) c') R (depOf c) (tgtsOf P R (fun l c' => ih (.ops R l) c') (wipeS (makersOf R (depOf c)) c)) 0 R.toList (wipeS (makersOf R (depOf c)) c) with
    | none => stopX c (StuckR R c.toCs)
    | some c' => some (.normal, c')
  else stopX c (StuckT 9 c.toCs)

def regionF (P : Program) (X : Contracts) (ih : RunX) (R : Array Oper) (d : Bool) (c : Cf) : Option (Ex × Cf) :=
  match d with
  | false => ih (.ops R R.toList) c
  | true => drawnF P X ih R c

def seqF (ih : RunX) (x y : Code) (c : Cf) : Option (Ex × Cf) :=
  match ih (.code x) c with
  | none => none
  | some (.normal, c') => ih (.code y) c'
  | some (e, c') => some (e, c')

def condF (ih : RunX) (t : Operand) (x y : Code) (c : Cf) : Option (Ex × Cf) :=
  match t with
  | .tmp k => match c.get k with
    | .v (.bool b) => match decideX c k b with
      | some (v, c') => bif v then ih (.code x) c' else ih (.code y) c'
      | none => stopX c (NeedB (c.get k))
    | _ => stopX c (StuckT 10 c.toCs)
  | .const (.bool b) => bif b then ih (.code x) c else ih (.code y) c
  | _ => stopX c (StuckT 12 c.toCs)

def blockF (ih : RunX) (id : Nat) (x : Code) (c : Cf) : Option (Ex × Cf) :=
  match ih (.code x) c with
  | none => none
  | some (.exit i, c') => bif Nat.beq i id then some (.normal, c') else some (.exit i, c')
  | some (e, c') => some (e, c')

def loopF (P : Program) (ih : RunX) (x : Code) (c : Cf) : Option (Ex × Cf) :=
  match c.todo with
  | .u :: p => ih (.rounds x) { c with todo := p }
  | .l keep ren c0 e c1 :: p => bif okRen ren then some (e, { c1 with todo := p, cds := (c.toCs.norm keep ren = c0) :: Runs P (CallsD P) (.code (.loop x)) c0.abs e c1.abs :: c.cds }) else stopX c (StuckT 11 c.toCs)
  | _ => stopX c (NeedL x c.toCs)

def codeF (P : Program) (X : Contracts) (ih : RunX) (c : Cf) : Code → Option (Ex × Cf)
  | .region _ R d => regionF P X ih R d c
  | .skip => some (.normal, c)
  | .ret => some (.ret, c)
  | .exit id => some (.exit id, c)
  | .seq x y => seqF ih x y c
  | .cond t x y => condF ih t x y c
  | .block id x => blockF ih id x c
  | .loop x => loopF P ih x c
  | .rangeFunc g ps assign body => rangedC P ih c g ps assign body
  | _ => none

def jobF (P : Program) (X : Contracts) (ih : RunX) (j : Job) (c : Cf) : Option (Ex × Cf) :=
  match j with
  | .ops R l => opsF P X ih R l c
  | .rounds b => roundsF ih b c
  | .code x => codeF P X ih c x
  | .draws _ _ _ _ => none

/-- THE MACHINE, RUN. -/
def evX (P : Program) (X : Contracts) (n : Nat) : RunX := Nat.rec (motive := fun _ => RunX) (fun _ _ => none) (fun _ ih => jobF P X ih) n

theorem evX_succ (P : Program) (X : Contracts) (n : Nat) : evX P X (n + 1) = jobF P X (evX P X n) := rfl

/-- What a run comes to is right. -/
def Right (P : Program) (E : RunX) : Prop := ∀ j c e c', E j c = some (e, c') → AllP c'.cds → AllP c.cds ∧ Runs P (CallsD P) j c.abs e c'.abs ∧ (∀ R l, j = .ops R l → e = .normal)

section
variable {P : Program} {X : Contracts} (hX : ConOK P X)

theorem stopX_no {c : Cf} {p : Prop} {e : Ex} {c' : Cf} (hp : ¬ p) (h : stopX c p = some (e, c')) (hl : AllP c'.cds) : False := by
  simp only [stopX, Option.some.injEq, Prod.mk.injEq] at h
  obtain ⟨_, rfl⟩ := h
  exact hp hl.1

theorem Right.ops {E : RunX} (ih : Right P E) {R : Array Oper} {l : List Oper} {c : Cf} {e : Ex} {c' : Cf} (h : E (.ops R l) c = some (e, c')) (hl : AllP c'.cds) : AllP c.cds ∧ e = .normal ∧ Runs P (CallsD P) (.ops R l) c.abs .normal c'.abs := by
  obtain ⟨h1, h2, h3⟩ := ih _ _ _ _ h hl
  have := h3 R l rfl
  subst this
  exact ⟨h1, rfl, h2⟩

theorem yieldC_right {E : RunX} (ih : Right P E) {R : Array Oper} {o : Oper} {l : List Oper} {c c1 c' : Cf} {fo : Operand} {args : Array Operand} {e : Ex}
    (hp : callParts o.op = some (fo, args)) (hf : evalD c.abs fo = .yld) (hy : yieldC E o c args.toList = some c1) (h : E (.ops R l) c1 = some (e, c')) (hl : AllP c'.cds) :
    AllP c.cds ∧ e = .normal ∧ (wantedD R o c.abs = some true → Runs P (CallsD P) (.ops R (o :: l)) c.abs .normal c'.abs) := by
  obtain ⟨k1, rfl, hr⟩ := ih.ops h hl
  unfold yieldC at hy
  split at hy
  next L f0 gh stk hL hstk =>
    unfold yieldOn at hy
    simp only [cond_eq_ite] at hy
    split at hy
    next hc =>
      simp only [Bool.and_eq_true] at hc
      obtain ⟨h1, h2, h3, h4, h5⟩ := hc
      split at hy
      next ca ha =>
        split at hy
        next L1 hL1 =>
          split at hy
          next hc1 =>
            simp only [Bool.and_eq_true] at hc1
            split at hy
            next e2 c2 hb =>
              split at hy
              next L2 fI stk' hL2 hstk2 =>
                split at hy
                next hc2 =>
                  simp only [Bool.and_eq_true] at hc2
                  simp only [Option.some.injEq] at hy; subst hy
                  rw [cds_put] at k1
                  obtain ⟨j1, rb, _⟩ := ih _ _ _ _ hb k1
                  obtain ⟨j2, ra, _⟩ := ih _ _ _ _ ha j1
                  rw [abs_round, evalC_abs] at ra
                  rw [abs_put] at hr
                  refine ⟨j2, rfl, fun hw => ?_⟩
                  exact .yield (L := L) (L1 := L1) (L2 := L2) (fr0 := frOf f0) (gh := frOf gh) (frI := frOf fI) (stk := stk.map frOf) (stk' := stk'.map frOf) hw hp hf hL h1 (by simp [Cf.abs, Cs.abs, hstk]) (by have := Nat.eq_of_beq_eq_true h2; simpa using this)
                    (by have := Nat.eq_of_beq_eq_true h3; simpa using this) h4 h5 ra hL1 hc1.1 (Nat.eq_of_beq_eq_true hc1.2) rb hL2 hc2.1 (Nat.eq_of_beq_eq_true hc2.2) (by simp [Cf.abs, Cs.abs, hstk2]) hr
                · cases hy
              · cases hy
            · cases hy
          · cases hy
        · cases hy
      · cases hy
    · cases hy
  · cases hy

theorem rangedC_right {E : RunX} (ih : Right P E) {c c' : Cf} {g : Operand} {ps : Array Tmp} {assign body : Code} {e : Ex}
    (h : rangedC P E c g ps assign body = some (e, c')) (hl : AllP c'.cds) : AllP c.cds ∧ Runs P (CallsD P) (.code (.rangeFunc g ps assign body)) c.abs e c'.abs := by
  unfold rangedC at h
  split at h
  · exact (stopX_no (by simp [StuckT]) h hl).elim
  next hlp =>
    split at h
    next f caps hg =>
      split at h
      next fn b hb =>
        split at h
        next hres =>
          split at h
          next e1 c1 h1 =>
            simp only [cond_eq_ite] at h
            split at h
            next hdone =>
              split at h
              next L1 fr gh stk hL1 hstk =>
                split at h
                next hdep =>
                  split at h
                  next e' hlv =>
                    simp only [Option.some.injEq, Prod.mk.injEq] at h
                    obtain ⟨rfl, rfl⟩ := h
                    obtain ⟨j1, r1, _⟩ := ih _ _ _ _ h1 hl
                    rw [abs_ranged] at r1
                    refine ⟨j1, ?_⟩
                    exact .ranged (L1 := L1) (fr := frOf fr) (gh := frOf gh) (stk := stk.map frOf) hlp (by rw [← abs_forget, ← evalC_abs]; exact hg) hb r1 (by cases e1 <;> simp [Ex.done] at hdone <;> simp) hres hL1 hlv
                      (by have := Nat.eq_of_beq_eq_true hdep; simpa [Cf.abs, Cs.abs] using this) (by simp [Cf.abs, Cs.abs, hstk])
                  · exact (stopX_no (by simp [StuckT]) h hl).elim
                · exact (stopX_no (by simp [StuckT]) h hl).elim
              · exact (stopX_no (by simp [StuckT]) h hl).elim
            · exact (stopX_no (by simp [Within]) h hl).elim
          · cases h
        · exact (stopX_no (by simp [StuckT]) h hl).elim
      · exact (stopX_no (by simp [StuckT]) h hl).elim
    · exact (stopX_no (by simp [StuckT]) h hl).elim

include hX in
theorem callF_right {E : RunX} (ih : Right P E) {dep : Nat} {R : Array Oper} {l : List Oper} {o : Oper} {c : Cf} {f : FuncId} {caps : List D} {fo : Operand} {args : Array Operand} (hp : callParts o.op = some (fo, args))
    (hf : evalD c.abs fo = .fn f caps) {e : Ex} {c' : Cf} (h : callF P X E dep R l o c f caps (args.toList.map (evalC c.toCs)) = some (e, c')) (hl : AllP c'.cds) :
    AllP c.cds ∧ e = .normal ∧ (wantedD R o c.abs = some true → Runs P (CallsD P) (.ops R (o :: l)) c.abs .normal c'.abs) := by
  unfold callF at h
  split at h
  next hbody =>
    split at h
    next vs hpl =>
      split at h
      next u ps hrun =>
        obtain ⟨k1, rfl, k2⟩ := ih.ops h hl
        rw [cds_owe, cds_put, AllP_append] at k1
        rw [abs_owe, abs_put] at k2
        exact ⟨k1.2, rfl, fun hw => .step hw (.ext hp hf (by rw [← evalC_abs]; exact hpl) (extX_spec hX hrun k1.1)) k2⟩
      · exact (stopX_no (by simp [StuckC]) h hl).elim
    · exact (stopX_no (by simp [StuckC]) h hl).elim
  next fn body hbody =>
    split at h
    next g hg =>
      split at h
      next c1 hc =>
        obtain ⟨k1, rfl, k2⟩ := ih.ops h hl
        obtain ⟨j1, j2⟩ := callX_spec (fun args res l h hl => hX.call f g (callOf_spec hg) args res l h hl) hc k1
        exact ⟨j1, rfl, fun hw => .step hw (.call hp hf (by rw [hbody]; rfl) (by rw [← evalC_abs]; exact j2)) k2⟩
      · exact (stopX_no (by simp [StuckC]) h hl).elim
    next =>
      split at h
      next e1 c1 hev =>
        unfold inlineX at h
        split at h
        next ds f0 stk hdone hres hstk =>
          simp only [cond_eq_ite] at h
          split at h
          next hfit =>
            obtain ⟨k1, rfl, k2⟩ := ih.ops h hl
            rw [cds_put] at k1
            obtain ⟨j1, j2, _⟩ := ih _ _ _ _ hev k1
            rw [abs_enter] at j2
            rw [abs_put] at k2
            refine ⟨j1, rfl, fun hw => .inline (fr := frOf f0) (stk := stk.map frOf) hw hp hf hbody (by rw [← evalC_abs]; exact j2) ?_ hres (by simp [Cf.abs, Cs.abs, hstk]) (by simpa [Cf.abs, Cs.abs] using hfit) k2⟩
            cases e1 <;> simp [Ex.done] at hdone <;> simp
          · exact (stopX_no (by simp [StuckT]) h hl).elim
        · exact (stopX_no (by simp [Within]) h hl).elim
      · cases h

include hX in
theorem opsF_right {E : RunX} (ih : Right P E) {R : Array Oper} {l : List Oper} {c c' : Cf} {e : Ex} (h : opsF P X E R l c = some (e, c')) (hl : AllP c'.cds) : AllP c.cds ∧ e = .normal ∧ Runs P (CallsD P) (.ops R l) c.abs .normal c'.abs := by
  unfold opsF at h
  split at h
  next => simp only [Option.some.injEq, Prod.mk.injEq] at h; obtain ⟨rfl, rfl⟩ := h; exact ⟨hl, rfl, .nil⟩
  next o l =>
    split at h
    · exact (stopX_no (by simp [NeedB]) h hl).elim
    next c1 hw =>
      obtain ⟨k1, rfl, k2⟩ := ih.ops h hl
      rw [cds_put] at k1
      obtain ⟨j1, j2, j3⟩ := wantedX_spec hw k1
      rw [abs_put, j2] at k2
      exact ⟨j1, rfl, .skipped j3 k2⟩
    next c1 hw =>
      have step : AllP c1.cds ∧ e = .normal ∧ (wantedD R o c1.abs = some true → Runs P (CallsD P) (.ops R (o :: l)) c1.abs .normal c'.abs) := by
        unfold opsWanted at h
        split at h
        next hcp =>
          unfold opsPlain at h
          split at h
          · exact (stopX_no (by simp [StuckO]) h hl).elim
          next eff ps hop =>
            split at h
            · exact (stopX_no (by simp [StuckO]) h hl).elim
            next c2 hst =>
              obtain ⟨k1, rfl, k2⟩ := ih.ops h hl
              rw [cds_owe, AllP_append] at k1
              obtain ⟨s1, s2⟩ := stepC_abs hst
              have hopd := opX_spec hop k1.1
              rw [evalC_abs, look_abs] at hopd
              exact ⟨s2 ▸ k1.2, rfl, fun hw' => .step hw' (.op hopd s1) k2⟩
        next p hcp =>
          obtain ⟨fo, args⟩ := p
          unfold opsCall at h
          split at h
          next f caps hfo => exact callF_right hX ih hcp (by rw [← evalC_abs]; exact hfo) h hl
          next hfo =>
            split at h
            next c2 hy => exact yieldC_right ih hcp (by rw [← evalC_abs]; exact hfo) hy h hl
            · exact (stopX_no (by simp [StuckO]) h hl).elim
          · exact (stopX_no (by simp [StuckO]) h hl).elim
      obtain ⟨j1, j2, j3⟩ := wantedX_spec hw step.1
      rw [j2] at step
      exact ⟨j1, step.2.1, step.2.2 j3⟩

include hX in
theorem codeF_right {E : RunX} (ih : Right P E) {x : Code} {c c' : Cf} {e : Ex} (h : codeF P X E c x = some (e, c')) (hl : AllP c'.cds) : AllP c.cds ∧ Runs P (CallsD P) (.code x) c.abs e c'.abs := by
  cases x with
  | region id R d =>
    simp only [codeF] at h
    cases d with
    | false =>
      simp only [regionF] at h
      obtain ⟨k1, rfl, k2⟩ := ih.ops h hl
      exact ⟨k1, .region k2⟩
    | true =>
      simp only [regionF] at h
      unfold drawnF at h
      simp only [cond_eq_ite] at h
      split at h
      next hb =>
        simp only [Bool.and_eq_true] at hb
        split at h
        · exact (stopX_no (by simp [StuckR]) h hl).elim
        next c1 hd =>
          simp only [Option.some.injEq, Prod.mk.injEq] at h
          obtain ⟨rfl, rfl⟩ := h
          have hE : ∀ l c0 c0', (fun l c' => E (.ops R l) c') l c0 = some (.normal, c0') → AllP c0'.cds → AllP c0.cds ∧ Runs P (CallsD P) (.ops R l) c0.abs .normal c0'.abs := fun l c0 c0' he hl' => by
            obtain ⟨k1, _, k2⟩ := ih.ops he hl'
            exact ⟨k1, k2⟩
          obtain ⟨k1, k2⟩ := drawsGo_runs hX hE (plan_ok (depOf c) (tgtsOf P R (fun l c' => E (.ops R l) c') (wipeS (makersOf R (depOf c)) c)) hb.2) R.toList 0 _ _ (fun j => by simp) hd hl
          rw [cds_wipeS] at k1
          exact ⟨k1, wipeS_start rfl (.drawn hb.1 (plan_ok _ _ hb.2) (unused_makers c) (k2 fun m _ => unused_makers c m))⟩
      · exact (stopX_no (by simp [StuckT]) h hl).elim
  | skip => simp only [codeF, Option.some.injEq, Prod.mk.injEq] at h; obtain ⟨rfl, rfl⟩ := h; exact ⟨hl, .skip⟩
  | ret => simp only [codeF, Option.some.injEq, Prod.mk.injEq] at h; obtain ⟨rfl, rfl⟩ := h; exact ⟨hl, .ret⟩
  | exit id => simp only [codeF, Option.some.injEq, Prod.mk.injEq] at h; obtain ⟨rfl, rfl⟩ := h; exact ⟨hl, .exit⟩
  | seq x y =>
    simp only [codeF, seqF] at h
    split at h
    · cases h
    next c1 h1 =>
      obtain ⟨k1, k2, _⟩ := ih _ _ _ _ h hl
      obtain ⟨j1, j2, _⟩ := ih _ _ _ _ h1 k1
      exact ⟨j1, .seq j2 k2⟩
    next e1 c1 hne h1 =>
      simp only [Option.some.injEq, Prod.mk.injEq] at h
      obtain ⟨rfl, rfl⟩ := h
      obtain ⟨j1, j2, _⟩ := ih _ _ _ _ h1 hl
      exact ⟨j1, .leave j2 (fun he => hne he)⟩
  | cond t x y =>
    simp only [codeF, condF] at h
    split at h
    next k =>
      split at h
      next b hb =>
        split at h
        next v c1 hd =>
          have key : ∀ z, E (.code z) c1 = some (e, c') → z = (if v then x else y) → AllP c.cds ∧ Runs P (CallsD P) (.code (.cond (.tmp k) x y)) c.abs e c'.abs := by
            intro z hz ez
            obtain ⟨k1, k2, _⟩ := ih _ _ _ _ hz hl
            obtain ⟨j1, j2, j3⟩ := decideX_spec hb hd k1
            rw [j3, ez, ← j1] at k2
            exact ⟨j2, .cond (b := b) (by show c.get k = _; exact hb) k2⟩
          cases v with
          | true => exact key x h rfl
          | false => exact key y h rfl
        · exact (stopX_no (by simp [NeedB]) h hl).elim
      · exact (stopX_no (by simp [StuckT]) h hl).elim
    next b =>
      have key : ∀ z, E (.code z) c = some (e, c') → z = (if b then x else y) → AllP c.cds ∧ Runs P (CallsD P) (.code (.cond (.const (.bool b)) x y)) c.abs e c'.abs := by
        intro z hz ez
        obtain ⟨k1, k2, _⟩ := ih _ _ _ _ hz hl
        rw [ez] at k2
        exact ⟨k1, .cond (b := b) rfl k2⟩
      cases b with
      | true => exact key x h rfl
      | false => exact key y h rfl
    · exact (stopX_no (by simp [StuckT]) h hl).elim
  | block id x =>
    simp only [codeF, blockF] at h
    split at h
    · cases h
    next i c1 h1 =>
      simp only [cond_eq_ite] at h
      split at h
      next hi =>
        simp only [Option.some.injEq, Prod.mk.injEq] at h
        obtain ⟨rfl, rfl⟩ := h
        have hi' : i = id := Nat.eq_of_beq_eq_true hi
        subst hi'
        obtain ⟨j1, j2, _⟩ := ih _ _ _ _ h1 hl
        have := Runs.block (id := i) j2
        rw [if_pos rfl] at this
        exact ⟨j1, this⟩
      next hi =>
        simp only [Option.some.injEq, Prod.mk.injEq] at h
        obtain ⟨rfl, rfl⟩ := h
        have hne : ¬ (Ex.exit i = Ex.exit id) := fun he => by
          cases he; rw [beq_yes] at hi; exact hi rfl
        obtain ⟨j1, j2, _⟩ := ih _ _ _ _ h1 hl
        have := Runs.block (id := id) j2
        rw [if_neg hne] at this
        exact ⟨j1, this⟩
    next e1 c1 hne h1 =>
      simp only [Option.some.injEq, Prod.mk.injEq] at h
      obtain ⟨rfl, rfl⟩ := h
      obtain ⟨j1, j2, _⟩ := ih _ _ _ _ h1 hl
      have := Runs.block (id := id) j2
      rw [if_neg (fun he => hne id he)] at this
      exact ⟨j1, this⟩
  | loop x =>
    simp only [codeF, loopF] at h
    split at h
    next p hp =>
      obtain ⟨k1, k2, _⟩ := ih _ _ _ _ h hl
      exact ⟨k1, .loop k2⟩
    next keep ren c0 e0 c1 p hp =>
      simp only [cond_eq_ite] at h
      split at h
      next ho =>
        simp only [Option.some.injEq, Prod.mk.injEq] at h
        obtain ⟨rfl, rfl⟩ := h
        obtain ⟨h1, h2, h3⟩ := hl
        subst h1
        exact ⟨h3, .weak rfl (norm_weaker c.toCs keep ho) h2⟩
      · exact (stopX_no (by simp [StuckT]) h hl).elim
    · exact (stopX_no (by simp [NeedL]) h hl).elim
  | rangeFunc g ps assign body => simp only [codeF] at h; exact rangedC_right ih h hl
  | _ => simp [codeF] at h

include hX in
theorem evX_right : ∀ n, Right P (evX P X n)
  | 0 => fun j c e c' h => by cases h
  | n + 1 => fun j c e c' h hl => by
    rw [evX_succ] at h
    have ih := evX_right n
    cases j with
    | ops R l =>
      simp only [jobF] at h
      obtain ⟨k1, rfl, k2⟩ := opsF_right hX ih h hl
      exact ⟨k1, k2, fun _ _ _ => rfl⟩
    | rounds b =>
      simp only [jobF, roundsF] at h
      split at h
      · cases h
      next c1 h1 =>
        obtain ⟨k1, k2, _⟩ := ih _ _ _ _ h hl
        obtain ⟨j1, j2, _⟩ := ih _ _ _ _ h1 k1
        exact ⟨j1, .round j2 k2, fun _ _ h => by cases h⟩
      next e1 c1 hne h1 =>
        simp only [Option.some.injEq, Prod.mk.injEq] at h
        obtain ⟨rfl, rfl⟩ := h
        obtain ⟨j1, j2, _⟩ := ih _ _ _ _ h1 hl
        exact ⟨j1, .last j2 (fun he => hne he), fun _ _ h => by cases h⟩
    | code x =>
      simp only [jobF] at h
      obtain ⟨k1, k2⟩ := codeF_right hX ih h hl
      exact ⟨k1, k2, fun _ _ h => by cases h⟩
    | draws => simp [jobF] at h
end

end
end Go.Dam
