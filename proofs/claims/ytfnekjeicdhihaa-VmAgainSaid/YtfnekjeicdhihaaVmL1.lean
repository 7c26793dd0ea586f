/- The kernel looks at the ways of a turn of code.Check, part 1. -/
import Derived.Test.YtfnekjeicdhihaaVmG
namespace Go.Proofs.Ytfnekjeicdhihaa
open Go.SX
theorem okK_1 : okK 1 (outK (.c 1) []) = true := by kernel_rfl
theorem okK_2 : okK 2 (outK (.c 2) []) = true := by kernel_rfl
theorem okK_3 : okK 3 (outK (.c 3) []) = true := by kernel_rfl
theorem okK_4 : okK 4 (outK (.c 4) []) = true := by kernel_rfl
theorem okK_5 : okK 5 (outK (.c 5) []) = true := by kernel_rfl
theorem okK_6 : okK 6 (outK (.c 6) []) = true := by kernel_rfl
theorem okK_7 : okK 7 (outK (.c 7) []) = true := by kernel_rfl
theorem okK_8 : okK 8 (outK (.c 8) []) = true := by kernel_rfl
theorem okK_9 : okK 9 (outK (.c 9) []) = true := by kernel_rfl
theorem okK_10 : okK 10 (outK (.c 10) []) = true := by kernel_rfl
theorem okK_11 : okK 11 (outK (.c 11) []) = true := by kernel_rfl
theorem okK_12 : okK 12 (outK (.c 12) []) = true := by kernel_rfl
theorem okBad_lo : okBad (outK (.v 30) [.bi .lt (.v 30) (.c 1)]) = true := by kernel_rfl
theorem okBad_hi : okBad (outK (.v 30) [.bi .lt (.c 24) (.v 30), .bi .le (.c 1) (.v 30)]) = true := by kernel_rfl
end Go.Proofs.Ytfnekjeicdhihaa
