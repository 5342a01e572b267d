/- One call of a probe, by the kernel. Printed by wip/tools/awake.py. -/
import Derived.Test.YtjojemebfojpnaaGreatDoorBhAwS
set_option maxRecDepth 100000
set_option linter.unusedVariables false
namespace Go.Dv.A
open Go Go.Proofs Go.Dv
theorem Aw_c0 : callD EA2 3999 false 0 0 18 [(.int .i64 12)] [] = some ((.tup [(.ref 2 0), (.int .i64 0)]), Aw1, .eff) := by kernel_rfl
end Go.Dv.A
