/- The engine, part QB: an abstract machine for the program's functions, proved right against the model. No condition. -/
import Derived.Test.YtpbngkempchamaaDamAE
set_option linter.unusedSectionVars false
set_option linter.unusedVariables false
set_option linter.unusedSimpArgs false
namespace Go.Dam
open Go Go.RowKit
set_option linter.unusedSectionVars false
variable [Glo]
set_option linter.unusedSimpArgs false
set_option linter.unusedVariables false

/-- Code without a loop over a function. -/
def noRange : Code → Bool
  | .seq a b => noRange a && noRange b
  | .cond _ a b => noRange a && noRange b
  | .block _ a => noRange a
  | .loop a => noRange a
  | .rangeFunc .. => false
  | _ => true

/-- How a loop over a function is left. -/
def LSt.leaves : LSt → Option Ex
  | .ready => some .normal
  | .done .ret => some .ret
  | .done (.exit id) => some (.exit id)
  | _ => none

def LSt.ready? : LSt → Bool
  | .ready => true
  | _ => false
def LSt.busy? : LSt → Bool
  | .busy => true
  | _ => false

/-- How a round is left. -/
def Ex.round : Ex → LSt
  | .normal => .ready
  | .ret => .done .ret
  | .exit id => .done (.exit id)

def Ex.goes : Ex → Bool
  | .normal => true
  | _ => false

def loopFits : Option LoopSt → Nat → Bool
  | none, _ => true
  | some L, n => Nat.ble L.depth n

def ghost : Fr := { nt := 1, tm := fun _ => .undef }

/-- The iterator begins. -/
def St.ranged (σ : St) (ps : Array Tmp) (assign body : Code) (caps : List D) (nt : Nat) : St :=
  { fr := { nt := (.yld :: caps).length + (nt - (.yld :: caps).length), tm := fun t => ((.yld :: caps) ++ List.replicate (nt - (.yld :: caps).length) (D.v undef)).getD t .undef },
    stk := (σ.forget yldId).fr :: ghost :: (σ.forget yldId).stk, bk := (σ.forget yldId).bk,
    loop := some { ps := ps, assign := assign, body := body, depth := σ.stk.length + 2, state := .ready } }

def Fr.puts (f : Fr) : List (Tmp × D) → Fr
  | [] => f
  | (t, d) :: l => (f.put t d).puts l

/-- A round begins. -/
def St.round (σ : St) (f : Fr) (ps : List (Tmp × D)) : St := { fr := f.puts ps, stk := σ.fr :: σ.stk, bk := σ.bk, loop := σ.loop }

def St.at (σ : St) (L : LoopSt) (s : LSt) : St := { σ with loop := some { L with state := s } }

inductive Job where
  | code (c : Code)
  | rounds (c : Code)
  | ops (R : Array Oper) (l : List Oper)
  | draws (R : Array Oper) (p : Plan) (k : Nat) (l : List Oper)

def Job.plain : Job → Bool
  | .draws _ _ _ _ => false
  | _ => true

/-- WHAT THE ABSTRACT MACHINE DOES. -/
inductive Runs (P : Program) (F : FuncId → List D → D → Prop) : Job → St → Ex → St → Prop
  | nil {R : Array Oper} {σ : St} : Runs P F (.ops R []) σ .normal σ
  | skipped {R : Array Oper} {o : Oper} {l : List Oper} {σ σ' : St} : wantedD R o σ = some false → Runs P F (.ops R l) (σ.put o.dst (.v undef)) .normal σ' → Runs P F (.ops R (o :: l)) σ .normal σ'
  | step {R : Array Oper} {o : Oper} {l : List Oper} {σ σ1 σ' : St} : wantedD R o σ = some true → OpStep P F o σ σ1 → Runs P F (.ops R l) σ1 .normal σ' → Runs P F (.ops R (o :: l)) σ .normal σ'
  | inline {R : Array Oper} {o : Oper} {l : List Oper} {σ σ1 σ' : St} {fo : Operand} {args : Array Operand} {f : FuncId} {caps : List D} {fn : Func} {c : Code} {e : Ex} {ds : List D} {fr : Fr} {stk : List Fr} :
      wantedD R o σ = some true → callParts o.op = some (fo, args) → evalD σ fo = .fn f caps → bodyOf P f = some (fn, c) →
      Runs P F (.code c) (σ.enter (args.toList.map (evalD σ) ++ caps) fn.ntmps) e σ1 → e = .normal ∨ e = .ret → resD P σ1 fn.results.toList = some ds → σ1.stk = fr :: stk → loopFits σ1.loop stk.length = true →
      Runs P F (.ops R l) (St.put { fr := fr, stk := stk, bk := σ1.bk, loop := σ1.loop } o.dst (resOut ds)) .normal σ' → Runs P F (.ops R (o :: l)) σ .normal σ'
  | yield {R : Array Oper} {o : Oper} {l : List Oper} {σ σ1 σ2 σ' : St} {fo : Operand} {args : Array Operand} {L L1 L2 : LoopSt} {e : Ex} {fr0 gh frI : Fr} {stk stk' : List Fr} :
      wantedD R o σ = some true → callParts o.op = some (fo, args) → evalD σ fo = .yld → σ.loop = some L → L.state.ready? = true → σ.stk = fr0 :: gh :: stk → stk.length + 2 = L.depth → args.size = L.ps.size → noRange L.assign = true → noRange L.body = true →
      Runs P F (.code L.assign) (σ.round fr0 (L.ps.toList.zip (args.toList.map (evalD σ)))) .normal σ1 → σ1.loop = some L1 → L1.state.ready? = true → L1.depth = L.depth →
      Runs P F (.code L.body) (σ1.at L1 .busy) e σ2 → σ2.loop = some L2 → L2.state.busy? = true → L2.depth = L.depth → σ2.stk = frI :: stk' →
      Runs P F (.ops R l) (St.put { fr := frI, stk := stk', bk := σ2.bk, loop := some { L2 with state := e.round } } o.dst (.v (.bool e.goes))) .normal σ' → Runs P F (.ops R (o :: l)) σ .normal σ'
  | ranged {g : Operand} {ps : Array Tmp} {assign body : Code} {f : FuncId} {caps : List D} {fn : Func} {c : Code} {σ σ1 : St} {e1 e : Ex} {L1 : LoopSt} {fr gh : Fr} {stk : List Fr} :
      σ.loop = none → evalD (σ.forget yldId) g = .fn f caps → bodyOf P f = some (fn, c) → Runs P F (.code c) (σ.ranged ps assign body caps fn.ntmps) e1 σ1 → e1 = .normal ∨ e1 = .ret → fn.results.toList = [] →
      σ1.loop = some L1 → L1.state.leaves = some e → L1.depth = σ.stk.length + 2 → σ1.stk = fr :: gh :: stk → Runs P F (.code (.rangeFunc g ps assign body)) σ e { fr := fr, stk := stk, bk := σ1.bk }
  | region {id : Nat} {R : Array Oper} {σ σ' : St} : Runs P F (.ops R R.toList) σ .normal σ' → Runs P F (.code (.region id R false)) σ .normal σ'
  | skip {σ : St} : Runs P F (.code .skip) σ .normal σ
  | ret {σ : St} : Runs P F (.code .ret) σ .ret σ
  | exit {id : Nat} {σ : St} : Runs P F (.code (.exit id)) σ (.exit id) σ
  | seq {x y : Code} {σ σ1 σ' : St} {e : Ex} : Runs P F (.code x) σ .normal σ1 → Runs P F (.code y) σ1 e σ' → Runs P F (.code (.seq x y)) σ e σ'
  | leave {x y : Code} {σ σ' : St} {e : Ex} : Runs P F (.code x) σ e σ' → e ≠ .normal → Runs P F (.code (.seq x y)) σ e σ'
  | cond {c : Operand} {x y : Code} {b : Bool} {σ σ' : St} {e : Ex} : evalD σ c = .v (.bool b) → Runs P F (.code (if b then x else y)) σ e σ' → Runs P F (.code (.cond c x y)) σ e σ'
  | block {id : Nat} {c : Code} {σ σ' : St} {e : Ex} : Runs P F (.code c) σ e σ' → Runs P F (.code (.block id c)) σ (if e = .exit id then .normal else e) σ'
  | loop {c : Code} {σ σ' : St} {e : Ex} : Runs P F (.rounds c) σ e σ' → Runs P F (.code (.loop c)) σ e σ'
  | round {c : Code} {σ σ1 σ' : St} {e : Ex} : Runs P F (.code c) σ .normal σ1 → Runs P F (.rounds c) σ1 e σ' → Runs P F (.rounds c) σ e σ'
  | last {c : Code} {σ σ' : St} {e : Ex} : Runs P F (.code c) σ e σ' → e ≠ .normal → Runs P F (.rounds c) σ e σ'
  | weak {j : Job} {σ σ1 σ' : St} {e : Ex} : j.plain = true → Weaker σ σ1 → Runs P F j σ1 e σ' → Runs P F j σ e σ'
  | late {j : Job} {σ σ1 σ' : St} {e : Ex} : j.plain = true → Runs P F j σ e σ1 → Weaker σ1 σ' → Runs P F j σ e σ'
  | wipe {j : Job} {q : Nat → Bool} {σ σ' : St} {e : Ex} : j.plain = true → Runs P F j (σ.wipe q) e σ' → Runs P F j σ e σ'
  | after {R : Array Oper} {l : List Oper} {q : Nat → Bool} {σ σ' : St} : Runs P F (.ops R l) σ .normal σ' → Runs P F (.ops R l) σ .normal (σ'.wipe q)
  | dnil {R : Array Oper} {p : Plan} {k : Nat} {σ : St} : Runs P F (.draws R p k []) σ .normal σ
  | dstep {R : Array Oper} {p : Plan} {k : Nat} {o : Oper} {l : List Oper} {σ σ1 σ' : St} : QStep P F (fun _ _ _ => False) R p k o σ σ1 → Runs P F (.draws R p (k + 1) l) σ1 .normal σ' → Runs P F (.draws R p k (o :: l)) σ .normal σ'
  | dother {R : Array Oper} {p : Plan} {k : Nat} {o : Oper} {l : List Oper} {σ σ1 σ' : St} : p.T k = true → Runs P F (.ops R [o]) σ .normal σ1 → (∀ l, p.W k l = true → ∀ id ∈ p.zs l, Unused id σ1) → Runs P F (.draws R p (k + 1) l) σ1 .normal σ' → Runs P F (.draws R p k (o :: l)) σ .normal σ'
  | drawn {id : Nat} {R : Array Oper} {p : Plan} {σ σ' : St} : P.follows .mixedOrders = true → PlanOK P R p → (∀ k, ∀ id ∈ p.zs k, Unused id σ) → Runs P F (.draws R p 0 R.toList) σ .normal σ' → Runs P F (.code (.region id R true)) σ .normal σ'

end Go.Dam
