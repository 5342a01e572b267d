/- One call of a probe, by the kernel. Printed by wip/tools/awake.py. -/
import Derived.Test.YtjojemebfojpnaaGreatDoorBhAwS
set_option maxRecDepth 100000
set_option linter.unusedVariables false
namespace Go.Dv.A
open Go Go.Proofs Go.Dv
theorem Aw_c1 : callD EA2 3999 false 0 0 15 [(.ref 2 0), (.int .i64 2), (.str [102, 105, 114, 115, 116])] Aw1 = some ((.tup [(.ref 3 0), (.str [102, 105, 114, 115, 116]), .nils, (.int .i64 0)]), Aw2, .eff) := by kernel_rfl
end Go.Dv.A
