/- AdminNames, part 8: what its calls answer, told. No condition. -/
import Derived.Test.YtoagadalegkloaaGreatAdmB
namespace Go.Proofs.YtoagadalegkloaaGreat.adminNames
open Go.ChangeShapes Go.WideShapes Go.ChangeAt Go.RowKit Go.Dam
set_option linter.unusedVariables false
set_option maxRecDepth 1000000
noncomputable section
theorem revoked6 : Go.Dam.CallsD Tryz.prog 5 [srvD (regD (revD 6) 8), revokeD 6] (doneD (revD 7) 8) := FN_calls hX2 100000 20 5 _ _ (by kernel_rfl)

theorem revoked7 : Go.Dam.CallsD Tryz.prog 5 [srvD (regD (revD 7) 8), revokeD 7] (doneD (revD 8) 8) := FN_calls hX2 100000 20 5 _ _ (by kernel_rfl)


end
end Go.Proofs.YtoagadalegkloaaGreat.adminNames
