/- One call of a probe, by the kernel. Printed by wip/tools/awake.py. -/
import Derived.Test.YtjojemebfojpnaaGreatDoorBhAwS
set_option maxRecDepth 100000
set_option linter.unusedVariables false
namespace Go.Dv.A
open Go Go.Proofs Go.Dv
theorem Aw_c6 : callD EA2 3999 false 0 0 15 [(.ref 2 0), (.int .i64 6), (.str [])] Aw6 = some ((.tup [.nilp, (.str []), .nils, (.int .i64 2)]), Aw6, .eff) := by kernel_rfl
end Go.Dv.A
