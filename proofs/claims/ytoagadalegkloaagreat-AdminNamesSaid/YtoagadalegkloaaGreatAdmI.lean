/- AdminNames, part 9: what its calls answer, told. No condition. -/
import Derived.Test.YtoagadalegkloaaGreatAdmB
namespace Go.Proofs.YtoagadalegkloaaGreat.adminNames
open Go.ChangeShapes Go.WideShapes Go.ChangeAt Go.RowKit Go.Dam
set_option linter.unusedVariables false
set_option maxRecDepth 1000000
noncomputable section
theorem full8 : Go.Dam.CallsD Tryz.prog 5 [srvD (regD (.v (.slice Option.none 0 0)) 8), createD 8] (.tup [srvD (.sh 8 (cellsD (.v (.slice Option.none 0 0)) 8)), u8 5, i64 0]) := FN_calls hX2 100000 20 5 _ _ (by kernel_rfl)

theorem spent2 : Go.Dam.CallsD Tryz.prog 5 [spentD (.sh 8 (cellsE 8)), doD 2 3] (.tup [spentD (.ow 8 42 (cellsE 8)), u8 8, i64 0]) := FN_calls hX2 100000 20 5 _ _ (by kernel_rfl)


end
end Go.Proofs.YtoagadalegkloaaGreat.adminNames
