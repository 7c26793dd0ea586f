/- The kernel looks at the ways of a turn, part 1. -/
import Derived.Test.YtfnekjeicdhihaaVmA
namespace Go.Proofs.Ytfnekjeicdhihaa
open Go.SX
theorem okA_false : okA false (outA false) = true := by kernel_rfl
theorem okB_false_4 : okB false 4 (outB false 4) = true := by kernel_rfl
theorem okB_false_8 : okB false 8 (outB false 8) = true := by kernel_rfl
theorem okB_false_12 : okB false 12 (outB false 12) = true := by kernel_rfl
theorem okB_false_16 : okB false 16 (outB false 16) = true := by kernel_rfl
theorem okB_false_20 : okB false 20 (outB false 20) = true := by kernel_rfl
theorem okB_false_24 : okB false 24 (outB false 24) = true := by kernel_rfl
theorem okB_true_3 : okB true 3 (outB true 3) = true := by kernel_rfl
theorem okB_true_7 : okB true 7 (outB true 7) = true := by kernel_rfl
theorem okB_true_11 : okB true 11 (outB true 11) = true := by kernel_rfl
theorem okB_true_15 : okB true 15 (outB true 15) = true := by kernel_rfl
theorem okB_true_19 : okB true 19 (outB true 19) = true := by kernel_rfl
theorem okB_true_23 : okB true 23 (outB true 23) = true := by kernel_rfl
end Go.Proofs.Ytfnekjeicdhihaa
