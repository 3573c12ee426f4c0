/- The functions of the folder meter and what they reach: what they compute. No condition. -/
import Derived.Test.YtkbdboclckpmgaaMetQ
set_option linter.unusedSectionVars false
set_option linter.unusedVariables false
set_option linter.unusedSimpArgs false
namespace MeterS
open Go Go.Dam Go.Proofs
set_option maxRecDepth 1000000
set_option linter.unusedVariables false
set_option linter.unusedSectionVars false
set_option linter.unusedSimpArgs false
variable [Glo]
theorem alive_p0  : fnX Try.prog X10 100000 [.c 1, PE.u, .c 54, PE.u, .c 0, PE.u, .c 6, PE.u, .c 22] 28 [] = some (D.v (Value.bool true), [(0 : Int) = (0 : Int),
  (0 : Int) ≤ opI BinOp.sub IntKind.u64 (0 : Int) (0 : Int),
  opI BinOp.sub IntKind.u64 (0 : Int) (0 : Int) < (18446744073709551616 : Int),
  (0 : Int) = (0 : Int),
  (0 : Int) ≤ opI BinOp.sub IntKind.u64 (0 : Int) (0 : Int),
  opI BinOp.sub IntKind.u64 (0 : Int) (0 : Int) < (18446744073709551616 : Int),
  (0 : Int) = (0 : Int),
  (0 : Int) ≤ opI BinOp.sub IntKind.u64 (0 : Int) (0 : Int),
  opI BinOp.sub IntKind.u64 (0 : Int) (0 : Int) < (18446744073709551616 : Int),
  (0 : Int) ≤ (4 : Int),
  (4 : Int) < (18446744073709551616 : Int),
  (0 : Int) ≤ (4 : Int),
  (4 : Int) < (18446744073709551616 : Int),
  (0 : Int) ≤ (4 : Int),
  (4 : Int) < (18446744073709551616 : Int),
  (0 : Int) ≤ (7 : Int),
  (7 : Int) < (18446744073709551616 : Int)]) := by kernel_rfl
theorem alive_calls  (res : D)
  (h0 : (((0 : Int) ≤ opI BinOp.sub IntKind.u64 (0 : Int) (0 : Int)) ∧ (opI BinOp.sub IntKind.u64 (0 : Int) (0 : Int) < (18446744073709551616 : Int)) ∧ ((0 : Int) ≤ opI BinOp.sub IntKind.u64 (0 : Int) (0 : Int)) ∧ (opI BinOp.sub IntKind.u64 (0 : Int) (0 : Int) < (18446744073709551616 : Int)) ∧ ((0 : Int) ≤ opI BinOp.sub IntKind.u64 (0 : Int) (0 : Int)) ∧ (opI BinOp.sub IntKind.u64 (0 : Int) (0 : Int) < (18446744073709551616 : Int)) ∧ ((0 : Int) ≤ (4 : Int)) ∧ ((4 : Int) < (18446744073709551616 : Int)) ∧ ((0 : Int) ≤ (4 : Int)) ∧ ((4 : Int) < (18446744073709551616 : Int)) ∧ ((0 : Int) ≤ (4 : Int)) ∧ ((4 : Int) < (18446744073709551616 : Int)) ∧ ((0 : Int) ≤ (7 : Int)) ∧ ((7 : Int) < (18446744073709551616 : Int)) ∧ True) ∧ res = D.v (Value.bool true)) :
  CallsD Try.prog 28 [] res := by
  exact of_path hX10 (alive_p0 ) ⟨rfl, (h0).1.1, (h0).1.2.1, rfl, (h0).1.2.2.1, (h0).1.2.2.2.1, rfl, (h0).1.2.2.2.2.1, (h0).1.2.2.2.2.2.1, (h0).1.2.2.2.2.2.2.1, (h0).1.2.2.2.2.2.2.2.1, (h0).1.2.2.2.2.2.2.2.2.1, (h0).1.2.2.2.2.2.2.2.2.2.1, (h0).1.2.2.2.2.2.2.2.2.2.2.1, (h0).1.2.2.2.2.2.2.2.2.2.2.2.1, (h0).1.2.2.2.2.2.2.2.2.2.2.2.2.1, (h0).1.2.2.2.2.2.2.2.2.2.2.2.2.2.1, trivial⟩ (h0).2
theorem alive_ok : CallsD Try.prog 28 [] (.v (.bool true)) := by
  refine alive_calls _ ?_
  exact ⟨by decide, rfl⟩
def aliveC : List D → Option (D × List Prop)
  | [] => some (.v (.bool true), [])
  | _ => none
theorem aliveC_ok (args res l) (h : aliveC args = some (res, l)) (hl : AllP l) : CallsD Try.prog 28 args res := by
  unfold aliveC at h; split at h
  · simp only [Option.some.injEq, Prod.mk.injEq] at h
    obtain ⟨rfl, rfl⟩ := h
    exact alive_ok
  · cases h
def X12 : Contracts := addCon 28 (.call aliveC) X11
theorem hX12 : ConOK Try.prog X12 := addCall_ok aliveC_ok hX11
end MeterS
