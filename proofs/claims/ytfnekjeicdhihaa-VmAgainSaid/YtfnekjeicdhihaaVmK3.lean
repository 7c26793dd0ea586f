/- The kernel looks at the ways of a turn, part 3. -/
import Derived.Test.YtfnekjeicdhihaaVmA
namespace Go.Proofs.Ytfnekjeicdhihaa
open Go.SX
theorem okB_false_2 : okB false 2 (outB false 2) = true := by kernel_rfl
theorem okB_false_6 : okB false 6 (outB false 6) = true := by kernel_rfl
theorem okB_false_10 : okB false 10 (outB false 10) = true := by kernel_rfl
theorem okB_false_14 : okB false 14 (outB false 14) = true := by kernel_rfl
theorem okB_false_18 : okB false 18 (outB false 18) = true := by kernel_rfl
theorem okB_false_22 : okB false 22 (outB false 22) = true := by kernel_rfl
theorem okB_true_1 : okB true 1 (outB true 1) = true := by kernel_rfl
theorem okB_true_5 : okB true 5 (outB true 5) = true := by kernel_rfl
theorem okB_true_9 : okB true 9 (outB true 9) = true := by kernel_rfl
theorem okB_true_13 : okB true 13 (outB true 13) = true := by kernel_rfl
theorem okB_true_17 : okB true 17 (outB true 17) = true := by kernel_rfl
theorem okB_true_21 : okB true 21 (outB true 21) = true := by kernel_rfl
end Go.Proofs.Ytfnekjeicdhihaa
