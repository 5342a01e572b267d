/- One call of a probe, by the kernel. Printed by wip/tools/awake.py. -/
import Derived.Test.YtjojemebfojpnaaGreatDoorBhAwS
set_option maxRecDepth 100000
set_option linter.unusedVariables false
namespace Go.Dv.A
open Go Go.Proofs Go.Dv
theorem Aw_c3 : callD EA2 3999 false 0 0 9 [(.ref 3 0), (.str [115, 101, 99, 111, 110, 100])] Aw3 = some ((.int .i64 0), Aw4, .eff) := by kernel_rfl
end Go.Dv.A
