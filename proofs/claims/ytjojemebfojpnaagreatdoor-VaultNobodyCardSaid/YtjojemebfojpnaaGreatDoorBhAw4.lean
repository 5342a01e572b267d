/- One call of a probe, by the kernel. Printed by wip/tools/awake.py. -/
import Derived.Test.YtjojemebfojpnaaGreatDoorBhAwS
set_option maxRecDepth 100000
set_option linter.unusedVariables false
namespace Go.Dv.A
open Go Go.Proofs Go.Dv
theorem Aw_c4 : callD EA2 3999 false 0 0 8 [(.ref 3 0), (.str [116, 119, 111])] Aw4 = some ((.int .i64 0), Aw5, .eff) := by kernel_rfl
end Go.Dv.A
