/- The engine, part UB: an abstract machine for the program's functions, proved right against the model. No condition. -/
import Derived.Test.YtoagadalegkloaaGreatDamU
namespace Go.Dam
open Go Go.RowKit
set_option linter.unusedSectionVars false
variable [Glo]
set_option linter.unusedSimpArgs false
set_option linter.unusedVariables false
noncomputable section

/-! ### The same machine, laid out in small parts: the kernel runs it faster -/

def opBin (P : Program) (bop : BinOp) (t : TypeId) (x y : Operand) (a b : D) : Option Eff :=
  match a.plain, b.plain with
  | some u, some v => pureD P (do eqGuard bop t x y u v; binOp bop t u v)
  | _, _ => binFall P bop t a b

def opUn (P : Program) (uop : UnOp) (a : D) : Option Eff :=
  match a.plain with
  | some u => pureD P (Op.unary uop u)
  | none => (symUn uop a).map .val

def opConv (P : Program) (src dst : TypeId) (a : D) : Option Eff :=
  match a.plain with
  | some u => pureD P (convert src dst u)
  | none => (symConv P src dst a).map .val

def opPick (c a b : D) : Option Eff :=
  match c with
  | .v (.bool c) => some (.val (bif c then a else b))
  | .y (.b s) => (symPick s a b).map .val
  | _ => none

def opNil : D → Option Eff
  | .ptr id off => some (.val (.ptr id off))
  | .shp cs off => some (.val (.shp cs off))
  | .fn f cs => some (.val (.fn f cs))
  | _ => none

def opFunc (ρ : Operand → D) (f : Fn) (first captured : Array Operand) : Option Eff :=
  match f with
  | .func f => if first.size = 0 then some (.val (.fn f (captured.toList.map ρ))) else none
  | _ => none

def opSlice (P : Program) (bk : Nat → Option Blk) (ρ : Operand → D) (t : TypeId) (x : Operand) (lo hi mx : Option Operand) : Option Eff :=
  match mx with
  | none => sliceD P bk t (ρ x) (lo.map ρ) (hi.map ρ)
  | some m => slice3D P t (ρ x) (lo.map ρ) (hi.map ρ) (ρ m)

def opLen (P : Program) (ρ : Operand → D) (args : List Operand) (ts : List TypeId) : Option Eff :=
  match args, ts with
  | [x], [t] => lenD P t (ρ x)
  | _, _ => none

def opAppend (P : Program) (bk : Nat → Option Blk) (ρ : Operand → D) (args : List Operand) (ts : Array TypeId) : Option Eff :=
  match args with
  | [s, x] => appendD P bk ts (ρ s) (ρ x)
  | _ => none

def opCopy (P : Program) (bk : Nat → Option Blk) (ρ : Operand → D) (args : List Operand) (ts : Array TypeId) : Option Eff :=
  match args with
  | [d, x] => copyD P bk ts (ρ d) (ρ x)
  | _ => none

def opClear (P : Program) (ρ : Operand → D) (args : List Operand) (ts : Array TypeId) : Option Eff :=
  match args with
  | [d] => clearD P ts (ρ d)
  | _ => none

def opMax (P : Program) (ρ : Operand → D) (ty : TypeId) (xs : List Operand) (ts : Array TypeId) : Option Eff :=
  match D.plains (xs.map ρ) with
  | some vs => pureD P (Builtin.max_ ts ty vs.toArray)
  | none => none

def opMin (P : Program) (ρ : Operand → D) (ty : TypeId) (xs : List Operand) (ts : Array TypeId) : Option Eff :=
  match D.plains (xs.map ρ) with
  | some vs => pureD P (Builtin.min_ ts ty vs.toArray)
  | none => none

def opBuiltin (P : Program) (bk : Nat → Option Blk) (ρ : Operand → D) (ty : TypeId) (args : Array Operand) (ts : Array TypeId) : Builtin → Option Eff
  | .len => opLen P ρ args.toList ts.toList
  | .append => opAppend P bk ρ args.toList ts
  | .copy => opCopy P bk ρ args.toList ts
  | .clear => opClear P ρ args.toList ts
  | .max => opMax P ρ ty args.toList ts
  | .min => opMin P ρ ty args.toList ts
  | _ => none

def opCall (P : Program) (bk : Nat → Option Blk) (ρ : Operand → D) (ty : TypeId) (c : Call) : Option Eff :=
  match c.callee with
  | .builtin b => opBuiltin P bk ρ ty c.args c.argTypes b
  | _ => none

def valOf (d : D) : Option Eff := some (.val d)
def boxOf (d : D) : Option Eff := d.cells.map .box
def buildF (P : Program) (ρ : Operand → D) (t : TypeId) (parts : Array (Nat × Operand)) : Option Eff := buildD P t (parts.toList.map fun p => (p.1, ρ p.2))
def buildSliceF (P : Program) (ρ : Operand → D) (t : TypeId) (len : Nat) (parts : Array (Nat × Operand)) : Option Eff := buildSliceD P t len (parts.toList.map fun p => (p.1, ρ p.2))

def opF (P : Program) (bk : Nat → Option Blk) (ρ : Operand → D) (ty : TypeId) : Op → Option Eff
  | .move x => valOf (ρ x)
  | .assign x => valOf (ρ x)
  | .pick c a b => opPick (ρ c) (ρ a) (ρ b)
  | .alloc t => (zeroD P t).map .box
  | .box _ x => boxOf (ρ x)
  | .build t parts => buildF P ρ t parts
  | .buildSlice t len parts => buildSliceF P ρ t len parts
  | .load t a => loadD P bk t (ρ a)
  | .store t a x => storeD P t (ρ a) (ρ x)
  | .nilCheck x => opNil (ρ x)
  | .binOp op t x y _ => opBin P op t x y (ρ x) (ρ y)
  | .unOp op _ x => opUn P op (ρ x)
  | .convert src dst x => opConv P src dst (ρ x)
  | .makeFunc f first captured => opFunc ρ f first captured
  | .makeSlice t l c => makeSliceD P t (ρ l) (ρ c)
  | .slice t x lo hi mx => opSlice P bk ρ t x lo hi mx
  | .fieldAddr t x f => fieldAddrD P t (ρ x) f
  | .field t x f => fieldD P t (ρ x) f
  | .indexAddr t x ix => indexAddrD P t (ρ x) (ρ ix)
  | .index t x ix => indexD P t (ρ x) (ρ ix)
  | .extract x i => extractD (ρ x) i
  | .call c => opCall P bk ρ ty c
  | _ => none

theorem opF_eq (P : Program) (bk : Nat → Option Blk) (ρ : Operand → D) (ty : TypeId) (op : Op) : opF P bk ρ ty op = opD P bk ρ ty op := by
  cases op with
  | makeFunc f a b => cases f <;> rfl
  | slice t x lo hi mx => cases mx <;> rfl
  | call c =>
    obtain ⟨callee, args, ts⟩ := c
    obtain ⟨args⟩ := args
    cases callee with
    | value g => rfl
    | invoke r m => rfl
    | builtin b =>
      cases b <;> first | rfl | skip
      all_goals (obtain ⟨ts⟩ := ts; rcases args with _ | ⟨x, _ | ⟨y, _ | ⟨z, l⟩⟩⟩ <;> rcases ts with _ | ⟨t, _ | ⟨u, m⟩⟩ <;> rfl)
  | _ => rfl

/-- A call, by what 'ih' does with a body, or by what the function is told to do. -/
def callF (P : Program) (F : FuncId → List D → Option D) (ih : Job → Cf → Option (Ex × Cf)) (dep : Nat) (R : Array Oper) (l : List Oper) (o : Oper) (c : Cf) (f : FuncId) (caps as : List D) : Option (Ex × Cf) :=
  match bodyOf P f with
  | none => match caps, D.plains as with
    | [], some vs => match pureRun P (callFunc f vs.toArray) with
      | some (.value u) => ih (.ops R l) (c.put o.dst (D.ofV u))
      | _ => none
    | _, _ => none
  | some (fn, body) =>
    bif Glo.walked f || D.deepL (as ++ caps) then
      match ih (.code body) (c.enter (as ++ caps) fn.ntmps) with
      | none => none
      | some (e, c1) => match e.done, resC P c1 fn.results.toList, c1.stk with
        | true, some ds, f :: stk => bif loopFits c1.loop stk.length then ih (.ops R l) (Cf.put ⟨f.1, f.2, stk, c1.bk, c1.loop, c1.gen⟩ o.dst (resOut ds)) else none
        | _, _, _ => none
    else match callC F c o.dst (site dep o.dst) f (as ++ caps) with
      | none => none
      | some c' => ih (.ops R l) c'

def opsCall (P : Program) (F : FuncId → List D → Option D) (ih : Job → Cf → Option (Ex × Cf)) (R : Array Oper) (l : List Oper) (o : Oper) (c : Cf) (p : Operand × Array Operand) : Option (Ex × Cf) :=
  match evalC c p.1 with
  | .fn f caps => callF P F ih (depOf c) R l o c f caps (p.2.toList.map (evalC c))
  | .yld => match yieldC ih o c p.2.toList with
    | none => none
    | some c' => ih (.ops R l) c'
  | _ => none

def opsPlain (P : Program) (ih : Job → Cf → Option (Ex × Cf)) (R : Array Oper) (l : List Oper) (o : Oper) (c : Cf) : Option (Ex × Cf) :=
  match opF P c.look (evalC c) o.type o.op with
  | none => none
  | some e => match stepC c o.dst (site (depOf c) o.dst) e with
    | none => none
    | some c' => ih (.ops R l) c'

def opsWanted (P : Program) (F : FuncId → List D → Option D) (ih : Job → Cf → Option (Ex × Cf)) (R : Array Oper) (l : List Oper) (o : Oper) (c : Cf) : Option (Ex × Cf) :=
  match callParts o.op with
  | none => opsPlain P ih R l o c
  | some p => opsCall P F ih R l o c p

def opsF (P : Program) (F : FuncId → List D → Option D) (ih : Job → Cf → Option (Ex × Cf)) (R : Array Oper) (l : List Oper) (c : Cf) : Option (Ex × Cf) :=
  match l with
  | [] => some (.normal, c)
  | o :: l => match wantedC R o c with
    | none => none
    | some false => ih (.ops R l) (c.put o.dst (.v undef))
    | some true => opsWanted P F ih R l o c

def roundsF (ih : Job → Cf → Option (Ex × Cf)) (b : Code) (c : Cf) : Option (Ex × Cf) :=
  match ih (.code b) c with
  | none => none
  | some (.normal, c') => ih (.rounds b) { c' with gen := c'.gen + 1 }
  | some (e, c') => some (e, c')

def drawnAt (P : Program) (F : FuncId → List D → Option D) (ih : Job → Cf → Option (Ex × Cf)) (R : Array Oper) (c : Cf) (dep : Nat) : Option (Ex × Cf) :=
  match drawsGo P F (fun l c' => ih (.ops R l) c') R dep (tgtsOf P R (fun l c' => ih (.ops R l) c') (wipeS (makersOf R dep) c)) 0 R.toList (wipeS (makersOf R dep) c) with
  | none => none
  | some c' => some (.normal, { c' with gen := c.gen + 1 })

def drawnF (P : Program) (F : FuncId → List D → Option D) (ih : Job → Cf → Option (Ex × Cf)) (R : Array Oper) (c : Cf) : Option (Ex × Cf) :=
  bif P.follows .mixedOrders && calmB P R then drawnAt P F ih R c (regionDep c R) else none

def regionF (P : Program) (F : FuncId → List D → Option D) (ih : Job → Cf → Option (Ex × Cf)) (R : Array Oper) (d : Bool) (c : Cf) : Option (Ex × Cf) :=
  match d with
  | false => ih (.ops R R.toList) c
  | true => drawnF P F ih R c

def seqF (ih : Job → Cf → Option (Ex × Cf)) (x y : Code) (c : Cf) : Option (Ex × Cf) :=
  match ih (.code x) c with
  | none => none
  | some (.normal, c') => ih (.code y) c'
  | some (e, c') => some (e, c')

def condF (ih : Job → Cf → Option (Ex × Cf)) (t : Operand) (x y : Code) (c : Cf) : Option (Ex × Cf) :=
  match evalC c t with
  | .v (.bool b) => bif b then ih (.code x) c else ih (.code y) c
  | _ => none

def blockF (ih : Job → Cf → Option (Ex × Cf)) (id : Nat) (x : Code) (c : Cf) : Option (Ex × Cf) :=
  match ih (.code x) c with
  | none => none
  | some (.exit i, c') => bif Nat.beq i id then some (.normal, c') else some (.exit i, c')
  | some (e, c') => some (e, c')

def codeF (P : Program) (F : FuncId → List D → Option D) (ih : Job → Cf → Option (Ex × Cf)) (c : Cf) : Code → Option (Ex × Cf)
  | .region _ R d => regionF P F ih R d c
  | .skip => some (.normal, c)
  | .ret => some (.ret, c)
  | .exit id => some (.exit id, c)
  | .seq x y => seqF ih x y c
  | .cond t x y => condF ih t x y c
  | .block id x => blockF ih id x c
  | .loop x => ih (.rounds x) c
  | .rangeFunc g ps assign body => rangedC P ih c g ps assign body
  | _ => none

def jobF (P : Program) (F : FuncId → List D → Option D) (ih : Job → Cf → Option (Ex × Cf)) (j : Job) (c : Cf) : Option (Ex × Cf) :=
  match j with
  | .ops R l => opsF P F ih R l c
  | .rounds b => roundsF ih b c
  | .code x => codeF P F ih c x
  | .draws _ _ _ _ => none

def evN (P : Program) (F : FuncId → List D → Option D) (n : Nat) : Job → Cf → Option (Ex × Cf) :=
  Nat.rec (motive := fun _ => Job → Cf → Option (Ex × Cf)) (fun _ _ => none) (fun _ ih => jobF P F ih) n

theorem ev_jobF (P : Program) (F : FuncId → List D → Option D) (n : Nat) (j : Job) (c : Cf) : ev P F (n + 1) j c = jobF P F (ev P F n) j c := by
  cases j with
  | ops R l =>
    cases l with
    | nil => rfl
    | cons o l =>
      simp only [ev, jobF, opsF, opsWanted, opsPlain, opF_eq, opsCall, callF]
      cases wantedC R o c with
      | none => rfl
      | some b =>
        cases b with
        | false => rfl
        | true =>
          simp only []
          cases callParts o.op with
          | none => rfl
          | some p => rfl
  | rounds b => rfl
  | code x =>
    cases x with
    | region id R d => cases d <;> rfl
    | _ => rfl
  | draws => rfl

theorem evN_eq (P : Program) (F : FuncId → List D → Option D) : ∀ n, evN P F n = ev P F n
  | 0 => by funext j c; rfl
  | n + 1 => by
    funext j c
    rw [ev_jobF, ← evN_eq P F n]
    rfl

end
end Go.Dam
namespace Go.Dam
open Go
variable [Glo]
noncomputable section

/-- A function, run (fast). -/
def evFF (P : Program) (F : FuncId → List D → Option D) (fuel : Nat) (f : FuncId) (args : List D) : Option D :=
  match bodyOf P f with
  | none => none
  | some (fn, c) => match evN P F fuel (.code c) (Cf.start args fn.ntmps) with
    | none => none
    | some (e, c') => match e.done, resC P c' fn.results.toList with
      | true, some ds => finish c'.look (resOut ds)
      | _, _ => none

theorem evFF_eq (P : Program) (F : FuncId → List D → Option D) (fuel : Nat) (f : FuncId) (args : List D) : evFF P F fuel f args = evF P F fuel f args := by
  unfold evFF evF; rw [evN_eq]; rfl

def FTstep (P : Program) (X : FuncId → Option (List D → Option D)) (fuel : Nat) (ih : FuncId → List D → Option D) (f : FuncId) (args : List D) : Option D :=
  match X f with
  | some g => g args
  | none => evFF P ih fuel f args

def FN (P : Program) (X : FuncId → Option (List D → Option D)) (fuel : Nat) (n : Nat) : FuncId → List D → Option D :=
  Nat.rec (motive := fun _ => FuncId → List D → Option D) (fun _ _ => none) (fun _ ih => FTstep P X fuel ih) n

theorem FN_eq (P : Program) (X : FuncId → Option (List D → Option D)) (fuel : Nat) : ∀ n, FN P X fuel n = FT P X fuel n
  | 0 => by funext f args; rfl
  | n + 1 => by
    funext f args
    show FTstep P X fuel (FN P X fuel n) f args = FT P X fuel (n + 1) f args
    rw [FN_eq P X fuel n]
    simp only [FTstep, FT]
    cases X f with
    | none => exact evFF_eq _ _ _ _ _
    | some g => rfl

theorem FN_calls {P : Program} {X : FuncId → Option (List D → Option D)} (hX : ∀ f g, X f = some g → ∀ args res, g args = some res → CallsD P f args res) (fuel n : Nat) (f : FuncId) (args : List D) (res : D) (h : FN P X fuel n f args = some res) : CallsD P f args res := by
  rw [FN_eq] at h; exact FT_calls hX fuel n f args res h

end
end Go.Dam
