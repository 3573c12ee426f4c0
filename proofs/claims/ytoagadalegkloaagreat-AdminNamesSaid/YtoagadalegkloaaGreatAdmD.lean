/- AdminNames, part 4: what its calls answer, told. No condition. -/
import Derived.Test.YtoagadalegkloaaGreatAdmB
namespace Go.Proofs.YtoagadalegkloaaGreat.adminNames
open Go.ChangeShapes Go.WideShapes Go.ChangeAt Go.RowKit Go.Dam
set_option linter.unusedVariables false
set_option maxRecDepth 1000000
noncomputable section
theorem made6 : Go.Dam.CallsD Tryz.prog 5 [srvD (regD (.v (.slice Option.none 0 0)) 6), createD 6] (doneD (.v (.slice Option.none 0 0)) 7) := FN_calls hX2 100000 20 5 _ _ (by kernel_rfl)

theorem made7 : Go.Dam.CallsD Tryz.prog 5 [srvD (regD (.v (.slice Option.none 0 0)) 7), createD 7] (doneD (.v (.slice Option.none 0 0)) 8) := FN_calls hX2 100000 20 5 _ _ (by kernel_rfl)


end
end Go.Proofs.YtoagadalegkloaaGreat.adminNames
