/- The kernel looks at the ways of a turn of code.Check, part 2. -/
import Derived.Test.YtfnekjeicdhihaaVmG
namespace Go.Proofs.Ytfnekjeicdhihaa
open Go.SX
theorem okK_13 : okK 13 (outK (.c 13) []) = true := by kernel_rfl
theorem okK_14 : okK 14 (outK (.c 14) []) = true := by kernel_rfl
theorem okK_15 : okK 15 (outK (.c 15) []) = true := by kernel_rfl
theorem okK_16 : okK 16 (outK (.c 16) []) = true := by kernel_rfl
theorem okK_17 : okK 17 (outK (.c 17) []) = true := by kernel_rfl
theorem okK_18 : okK 18 (outK (.c 18) []) = true := by kernel_rfl
theorem okK_19 : okK 19 (outK (.c 19) []) = true := by kernel_rfl
theorem okK_20 : okK 20 (outK (.c 20) []) = true := by kernel_rfl
theorem okK_21 : okK 21 (outK (.c 21) []) = true := by kernel_rfl
theorem okK_22 : okK 22 (outK (.c 22) []) = true := by kernel_rfl
theorem okK_23 : okK 23 (outK (.c 23) []) = true := by kernel_rfl
theorem okK_24 : okK 24 (outK (.c 24) []) = true := by kernel_rfl
end Go.Proofs.Ytfnekjeicdhihaa
