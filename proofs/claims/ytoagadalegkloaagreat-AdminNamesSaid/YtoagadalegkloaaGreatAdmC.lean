/- AdminNames, part 3: what its calls answer, told. No condition. -/
import Derived.Test.YtoagadalegkloaaGreatAdmB
namespace Go.Proofs.YtoagadalegkloaaGreat.adminNames
open Go.ChangeShapes Go.WideShapes Go.ChangeAt Go.RowKit Go.Dam
set_option linter.unusedVariables false
set_option maxRecDepth 1000000
noncomputable section
theorem made0 : Go.Dam.CallsD Tryz.prog 5 [srvD (regD (.v (.slice Option.none 0 0)) 0), createD 0] (doneD (.v (.slice Option.none 0 0)) 1) := FN_calls hX2 100000 20 5 _ _ (by kernel_rfl)

theorem made1 : Go.Dam.CallsD Tryz.prog 5 [srvD (regD (.v (.slice Option.none 0 0)) 1), createD 1] (doneD (.v (.slice Option.none 0 0)) 2) := FN_calls hX2 100000 20 5 _ _ (by kernel_rfl)

theorem made2 : Go.Dam.CallsD Tryz.prog 5 [srvD (regD (.v (.slice Option.none 0 0)) 2), createD 2] (doneD (.v (.slice Option.none 0 0)) 3) := FN_calls hX2 100000 20 5 _ _ (by kernel_rfl)

theorem made3 : Go.Dam.CallsD Tryz.prog 5 [srvD (regD (.v (.slice Option.none 0 0)) 3), createD 3] (doneD (.v (.slice Option.none 0 0)) 4) := FN_calls hX2 100000 20 5 _ _ (by kernel_rfl)

theorem made4 : Go.Dam.CallsD Tryz.prog 5 [srvD (regD (.v (.slice Option.none 0 0)) 4), createD 4] (doneD (.v (.slice Option.none 0 0)) 5) := FN_calls hX2 100000 20 5 _ _ (by kernel_rfl)

theorem made5 : Go.Dam.CallsD Tryz.prog 5 [srvD (regD (.v (.slice Option.none 0 0)) 5), createD 5] (doneD (.v (.slice Option.none 0 0)) 6) := FN_calls hX2 100000 20 5 _ _ (by kernel_rfl)


end
end Go.Proofs.YtoagadalegkloaaGreat.adminNames
