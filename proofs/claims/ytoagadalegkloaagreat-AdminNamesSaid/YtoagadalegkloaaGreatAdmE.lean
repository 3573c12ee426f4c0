/- AdminNames, part 5: what its calls answer, told. No condition. -/
import Derived.Test.YtoagadalegkloaaGreatAdmB
namespace Go.Proofs.YtoagadalegkloaaGreat.adminNames
open Go.ChangeShapes Go.WideShapes Go.ChangeAt Go.RowKit Go.Dam
set_option linter.unusedVariables false
set_option maxRecDepth 1000000
noncomputable section
theorem revoked0 : Go.Dam.CallsD Tryz.prog 5 [srvD (regD (revD 0) 8), revokeD 0] (doneD (revD 1) 8) := FN_calls hX2 100000 20 5 _ _ (by kernel_rfl)

theorem revoked1 : Go.Dam.CallsD Tryz.prog 5 [srvD (regD (revD 1) 8), revokeD 1] (doneD (revD 2) 8) := FN_calls hX2 100000 20 5 _ _ (by kernel_rfl)


end
end Go.Proofs.YtoagadalegkloaaGreat.adminNames
