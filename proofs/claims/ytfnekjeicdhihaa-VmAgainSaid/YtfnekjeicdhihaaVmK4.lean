/- The kernel looks at the ways of a turn, part 4. -/
import Derived.Test.YtfnekjeicdhihaaVmA
namespace Go.Proofs.Ytfnekjeicdhihaa
open Go.SX
theorem okB_false_3 : okB false 3 (outB false 3) = true := by kernel_rfl
theorem okB_false_7 : okB false 7 (outB false 7) = true := by kernel_rfl
theorem okB_false_11 : okB false 11 (outB false 11) = true := by kernel_rfl
theorem okB_false_15 : okB false 15 (outB false 15) = true := by kernel_rfl
theorem okB_false_19 : okB false 19 (outB false 19) = true := by kernel_rfl
theorem okB_false_23 : okB false 23 (outB false 23) = true := by kernel_rfl
theorem okB_true_2 : okB true 2 (outB true 2) = true := by kernel_rfl
theorem okB_true_6 : okB true 6 (outB true 6) = true := by kernel_rfl
theorem okB_true_10 : okB true 10 (outB true 10) = true := by kernel_rfl
theorem okB_true_14 : okB true 14 (outB true 14) = true := by kernel_rfl
theorem okB_true_18 : okB true 18 (outB true 18) = true := by kernel_rfl
theorem okB_true_22 : okB true 22 (outB true 22) = true := by kernel_rfl
end Go.Proofs.Ytfnekjeicdhihaa
