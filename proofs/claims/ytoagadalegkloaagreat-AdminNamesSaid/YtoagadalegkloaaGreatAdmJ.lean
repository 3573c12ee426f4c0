/- AdminNames, part 10: what its calls answer, told. No condition. -/
import Derived.Test.YtoagadalegkloaaGreatAdmB
namespace Go.Proofs.YtoagadalegkloaaGreat.adminNames
open Go.ChangeShapes Go.WideShapes Go.ChangeAt Go.RowKit Go.Dam
set_option linter.unusedVariables false
set_option maxRecDepth 1000000
noncomputable section
theorem spent4 : Go.Dam.CallsD Tryz.prog 5 [spentD (.sh 8 (cellsE 8)), doD 4 3] (.tup [spentD (.ow 8 42 (cellsE 8)), u8 8, i64 0]) := FN_calls hX2 100000 20 5 _ _ (by kernel_rfl)

theorem again8 : Go.Dam.CallsD Tryz.prog 5 [srvD (regD (revD 8) 8), revokeD 8] (.tup [srvD (.ow 8 42 (cellsD (revD 8) 8)), u8 5, i64 0]) := FN_calls hX2 100000 20 5 _ _ (by kernel_rfl)


end
end Go.Proofs.YtoagadalegkloaaGreat.adminNames
