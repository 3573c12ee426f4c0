/- The engine, part V: an abstract machine for the program's functions, proved right against the model. No condition. -/
import Derived.Test.YtpbngkempchamaaDamQ
import Derived.Still
set_option linter.unusedSectionVars false
set_option linter.unusedVariables false
set_option linter.unusedSimpArgs false
namespace Go.Dam
open Go Go.RowKit
set_option linter.unusedSectionVars false
variable [Glo]
set_option linter.unusedSimpArgs false
set_option linter.unusedVariables false

/-! ### A region that draws its order -/

/-- Nothing speaks of the block 'id', and it is not there. -/
structure Unused (id : Nat) (σ : St) : Prop where
  fr : ∀ t, (σ.fr.tm t).has id = false
  stk : ∀ f ∈ σ.stk, ∀ t, (f.tm t).has id = false
  no : σ.bk id = none
  bk : ∀ i b, σ.bk i = some b → D.hasL id b.cells = false
  lp : id = yldId → σ.loop = none

theorem unused_forget (id : Nat) (σ : St) : Unused id (σ.forget id) where
  fr := fun t => D.has_forget id _
  stk := fun f hf t => by
    simp only [St.forget, List.mem_map] at hf
    obtain ⟨g, _, rfl⟩ := hf
    exact D.has_forget id _
  no := by simp [St.forget]
  lp := fun e => by simp [St.forget, e]
  bk := fun i b hb => by
    simp only [St.forget] at hb
    split at hb
    · cases hb
    · simp only [Option.map_eq_some_iff] at hb
      obtain ⟨b0, _, rfl⟩ := hb
      simp only [Blk.forget]
      rw [Bool.eq_false_iff]
      intro h
      exact (D.hasL_forget_of h).2 rfl

theorem has_forget_false {id j : Nat} {d : D} (h : d.has id = false) : (d.forget j).has id = false := by
  rw [Bool.eq_false_iff]; intro e; rw [(D.has_forget_of e).1] at h; cases h

theorem Unused.forget {id : Nat} {σ : St} (h : Unused id σ) (j : Nat) : Unused id (σ.forget j) where
  fr := fun t => has_forget_false (h.fr t)
  stk := fun f hf t => by
    simp only [St.forget, List.mem_map] at hf
    obtain ⟨g, hg, rfl⟩ := hf
    exact has_forget_false (h.stk g hg t)
  no := by simp only [St.forget]; split; rfl; rw [h.no]; rfl
  lp := fun e => by simp only [St.forget]; split; rfl; exact h.lp e
  bk := fun i b hb => by
    simp only [St.forget] at hb
    split at hb
    · cases hb
    · simp only [Option.map_eq_some_iff] at hb
      obtain ⟨b0, hb0, rfl⟩ := hb
      simp only [Blk.forget]
      rw [Bool.eq_false_iff]
      intro e
      have := h.bk i b0 hb0
      rw [(D.hasL_forget_of e).1] at this
      cases this

/-- A step of a region: a value; new blocks; blocks that are read-only from here on. -/
structure QR where
  d : D
  new : List (Nat × List D)
  ro : List Nat
  told : List Nat

def newB (i : Nat) : List (Nat × List D) → Option Blk
  | [] => none
  | (j, cs) :: l => if j = i then some ⟨cs, false⟩ else newB i l

def qbk (bk : Nat → Option Blk) (r : QR) : Nat → Option Blk := fun i =>
  match newB i r.new with
  | some b => some b
  | none => if i ∈ r.ro then (bk i).map fun b => { b with ro := true } else bk i

def St.q (σ : St) (dst : Option Tmp) (r : QR) : St := St.put { σ with bk := qbk σ.bk r } dst r.d

/-- The kinds of operations: 0: neither reads nor writes memory; 1: reads, or makes memory, or calls; 2: stores; 3: all else. -/
def kindOf (P : Program) : Op → Nat
  | .move _ | .assign _ | .pick _ _ _ | .build _ _ | .nilCheck _ | .binOp _ _ _ _ _ | .unOp _ _ _ | .convert _ _ _ | .makeFunc _ _ _ | .fieldAddr _ _ _ | .field _ _ _ | .indexAddr _ _ _ | .index _ _ _ | .extract _ _ => 0
  | .slice _ _ _ _ (some _) => 0
  | .call ⟨.builtin .len, _, _⟩ | .call ⟨.builtin .max, _, _⟩ | .call ⟨.builtin .min, _, _⟩ => 0
  | .load _ _ | .alloc _ | .box _ _ | .buildSlice _ _ _ | .makeSlice _ _ _ | .slice _ _ _ _ none | .call ⟨.value _, _, _⟩ | .call ⟨.builtin .append, _, _⟩ => 1
  | .store _ _ _ => 2
  | .call ⟨.builtin .copy, _, _⟩ => 4
  | _ => 3

/-- A step that turns nothing that is there. -/
inductive QOp (P : Program) (F : FuncId → List D → D → Prop) (o : Oper) (ρ : Operand → D) (bk : Nat → Option Blk) : QR → Prop
  | val {d : D} : kindOf P o.op ≤ 1 → opD P bk ρ o.type o.op = some (.val d) → QOp P F o ρ bk ⟨d, [], [], []⟩
  | box {cs : List D} {id : Nat} : kindOf P o.op ≤ 1 → opD P bk ρ o.type o.op = some (.box cs) → QOp P F o ρ bk ⟨.ptr id 0, [(id, cs)], [], []⟩
  | row {cs : List D} {n sz id : Nat} : kindOf P o.op ≤ 1 → opD P bk ρ o.type o.op = some (.row cs n sz) → QOp P F o ρ bk ⟨.sl id 0 n ⟨sz, 0⟩, [(id, cs)], [], []⟩
  | app0 {s : D} {sz m id : Nat} {ds : List D} : kindOf P o.op ≤ 1 → opD P bk ρ o.type o.op = some (.app s sz m ds) → (s = .emp ∨ ∃ u, s = .v u) → QOp P F o ρ bk ⟨.sl id 0 m ⟨sz, 0⟩, [(id, ds)], [], []⟩
  | row0 : kindOf P o.op ≤ 1 → opD P bk ρ o.type o.op = some .row0 → QOp P F o ρ bk ⟨.emp, [], [], []⟩
  | ext {fo : Operand} {args : Array Operand} {f : FuncId} {vs : List Value} {u : Value} : callParts o.op = some (fo, args) → ρ fo = .fn f [] → D.plains (args.toList.map ρ) = some vs →
      pureRun P (callFunc f vs.toArray) = some (.value u) → QOp P F o ρ bk ⟨D.ofV u, [], [], []⟩
  | call {fo : Operand} {args : Array Operand} {f : FuncId} {caps as : List D} {passed : List Nat} {res : D} {id : Nat} : callParts o.op = some (fo, args) → ρ fo = .fn f caps → (bodyOf P f).isSome = true →
      shareAll (share bk depth) (args.toList.map ρ ++ caps) = some (as, passed) → F f as res →
      QOp P F o ρ bk ⟨(thaw id res).1, (thaw id res).2.zipIdx.map fun (cs, k) => (id + k, cs), if flat res then [] else passed, passed⟩

/-- What a step reads is apart from a block. -/
def Sep (ρ : Operand → D) (o : Oper) (t : Nat) (r : QR) : Prop := (∀ y ∈ o.op.operands, (ρ y).has t = false) ∧ t ∉ r.told

/-- How a region is laid out: the blocks that are each operation's to make; 'W k l': operation 'l' may come behind operation 'k'; 'T': ordered against all the others; 'S': the stores that may come on either side. -/
structure Plan where
  zs : Nat → List Nat
  W : Nat → Nat → Bool
  T : Nat → Bool
  S : Nat → List Nat
  U : Nat → Bool
  tgt : Nat → Nat

/-- It speaks of no block that is another operation's to make. -/
def NoMen (p : Plan) (k : Nat) (d : D) : Prop := ∀ l, p.W k l = true → ∀ id ∈ p.zs l, d.has id = false

/-- Operation number 'k' of a region. -/
inductive QStep (P : Program) (F : FuncId → List D → D → Prop) (O : Oper → St → St → Prop) (R : Array Oper) (p : Plan) (k : Nat) (o : Oper) (σ : St) : St → Prop
  | skip : wantedD R o σ = some false → QStep P F O R p k o σ (σ.q o.dst ⟨.v undef, [], [], []⟩)
  | op {r : QR} : wantedD R o σ = some true → QOp P F o (evalD σ) σ.bk r → (∀ i cs, (i, cs) ∈ r.new → i ∈ p.zs k ∧ Unused i σ ∧ ∀ j cs', (j, cs') ∈ r.new → D.hasL i cs' = false) → (r.new.map (·.1)).Nodup →
      NoMen p k r.d → (∀ i cs, (i, cs) ∈ r.new → ∀ d ∈ cs, NoMen p k d) → (kindOf P o.op = 0 ∨ ∀ j ∈ p.S k, Sep (evalD σ) o (p.tgt j) r) → QStep P F O R p k o σ (σ.q o.dst r)
  | sto {id off : Nat} {ds cells : List D} : wantedD R o σ = some true → kindOf P o.op = 2 → opD P σ.bk (evalD σ) o.type o.op = some (.sto id off ds) → σ.bk id = some ⟨cells, false⟩ → off + ds.length ≤ cells.length →
      (∀ d ∈ ds, NoMen p k d) → (p.U k = true → id = p.tgt k) → QStep P F O R p k o σ ((σ.setB id ⟨splice cells off ds, false⟩).put o.dst (.v undef))
  | cpy {id off : Nat} {k' : Value} {ds cells : List D} : wantedD R o σ = some true → kindOf P o.op = 4 → opD P σ.bk (evalD σ) o.type o.op = some (.cpy id off ds k') → σ.bk id = some ⟨cells, false⟩ → off + ds.length ≤ cells.length →
      (∀ d ∈ ds, NoMen p k d) → QStep P F O R p k o σ ((σ.setB id ⟨splice cells off ds, false⟩).put o.dst (D.ofV k'))
  | oth {σ' : St} : p.T k = true → O o σ σ' → (∀ l, p.W k l = true → ∀ id ∈ p.zs l, Unused id σ') → QStep P F O R p k o σ σ'

end Go.Dam
