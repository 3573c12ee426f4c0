/- AdminNames, part 7: what its calls answer, told. No condition. -/
import Derived.Test.YtoagadalegkloaaGreatAdmB
namespace Go.Proofs.YtoagadalegkloaaGreat.adminNames
open Go.ChangeShapes Go.WideShapes Go.ChangeAt Go.RowKit Go.Dam
set_option linter.unusedVariables false
set_option maxRecDepth 1000000
noncomputable section
theorem revoked4 : Go.Dam.CallsD Tryz.prog 5 [srvD (regD (revD 4) 8), revokeD 4] (doneD (revD 5) 8) := FN_calls hX2 100000 20 5 _ _ (by kernel_rfl)

theorem revoked5 : Go.Dam.CallsD Tryz.prog 5 [srvD (regD (revD 5) 8), revokeD 5] (doneD (revD 6) 8) := FN_calls hX2 100000 20 5 _ _ (by kernel_rfl)


end
end Go.Proofs.YtoagadalegkloaaGreat.adminNames
