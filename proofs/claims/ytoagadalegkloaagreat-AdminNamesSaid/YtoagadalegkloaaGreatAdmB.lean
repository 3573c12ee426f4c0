/- AdminNames, part 2: what its calls answer, told. No condition. -/
import Derived.Test.YtoagadalegkloaaGreatAdmA
namespace Go.Proofs.YtoagadalegkloaaGreat.adminNames
open Go.ChangeShapes Go.WideShapes Go.ChangeAt Go.RowKit Go.Dam
set_option linter.unusedVariables false
set_option maxRecDepth 1000000
noncomputable section
theorem alive : Go.Dam.CallsD Tryz.prog 10 [] (Go.Dam.D.v (.bool true)) := FN_calls hX2 100000 20 10 [] _ (by kernel_rfl)

/-- The parts of the tenants below k; tenant 1 has revoked these. -/
def cellsD (rev : D) : Nat → List D
  | 0 => []
  | k + 1 => cellsD rev k ++ partD k (bif Nat.beq k 1 then rev else .v (.slice Option.none 0 0))
def srvD (p : D) : D := .agg ([u64 0] ++ (List.replicate 32 (u8 0) ++ (List.replicate 16 (u32 0) ++ [p])))
def regD (rev : D) (k : Nat) : D := match k with
  | 0 => .v (.slice Option.none 0 0)
  | k + 1 => .sh (k + 1) (cellsD rev (k + 1))
def createD (t : Int) : D := .agg ([u8 1, u32 t, u32 0, i64 4, i64 1, i64 1, i64 3, i64 1, i64 1, i64 2, i64 1, i64 1, u8 2, u8 2, u64 0] ++ List.replicate 32 (u8 0))
def revokeD (u : Int) : D := .agg ([u8 5, u32 1, u32 u, i64 0, i64 0, i64 0, i64 0, i64 0, i64 0, i64 0, i64 0, i64 0, u8 0, u8 0, u64 0] ++ List.replicate 32 (u8 0))
def doneD (rev : D) (k : Nat) : D := .tup [srvD (.ow k 42 (cellsD rev k)), u8 4, i64 0]
def revD (j : Nat) : D := match j with
  | 0 => .v (.slice Option.none 0 0)
  | j + 1 => .sh (j + 1) ((List.range (j + 1)).map fun (i : Nat) => u32 (i : Int))

def cellsE : Nat → List D
  | 0 => []
  | k + 1 => cellsE k ++ partD k .emp
def spentD (p : D) : D := .agg ([u64 0] ++ (List.replicate 32 (u8 0) ++ ([u32 0, u32 0, u32 0, u32 1000000] ++ (List.replicate 12 (u32 0) ++ [p]))))
def doD (op t : Int) : D := .agg ([u8 op, u32 t, u32 0, i64 0, i64 0, i64 0, i64 0, i64 0, i64 0, i64 0, i64 0, i64 0, u8 0, u8 0, u64 0] ++ List.replicate 32 (u8 0))


end
end Go.Proofs.YtoagadalegkloaaGreat.adminNames
