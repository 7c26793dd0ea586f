/- The kernel looks at the ways of a turn, part 2. -/
import Derived.Test.YtfnekjeicdhihaaVmA
namespace Go.Proofs.Ytfnekjeicdhihaa
open Go.SX
theorem okB_false_1 : okB false 1 (outB false 1) = true := by kernel_rfl
theorem okB_false_5 : okB false 5 (outB false 5) = true := by kernel_rfl
theorem okB_false_9 : okB false 9 (outB false 9) = true := by kernel_rfl
theorem okB_false_13 : okB false 13 (outB false 13) = true := by kernel_rfl
theorem okB_false_17 : okB false 17 (outB false 17) = true := by kernel_rfl
theorem okB_false_21 : okB false 21 (outB false 21) = true := by kernel_rfl
theorem okA_true : okA true (outA true) = true := by kernel_rfl
theorem okB_true_4 : okB true 4 (outB true 4) = true := by kernel_rfl
theorem okB_true_8 : okB true 8 (outB true 8) = true := by kernel_rfl
theorem okB_true_12 : okB true 12 (outB true 12) = true := by kernel_rfl
theorem okB_true_16 : okB true 16 (outB true 16) = true := by kernel_rfl
theorem okB_true_20 : okB true 20 (outB true 20) = true := by kernel_rfl
theorem okB_true_24 : okB true 24 (outB true 24) = true := by kernel_rfl
end Go.Proofs.Ytfnekjeicdhihaa
