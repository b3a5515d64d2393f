/- The closed call that a body makes first, run by the kernel. Conditions: none. -/
import Derived.Test.YtaplnebenndkgaaGreatDoorT15
import Derived.KernelRfl
set_option linter.all false
namespace Go.RI.Rw
theorem r7 : rowRun base0 1000 48 11 138 3 w7 = true := by kernel_rfl
theorem r10 : rowRun base0 1000 48 11 138 3 w10 = true := by kernel_rfl
theorem r13 : rowRun base0 1000 48 11 138 3 w13 = true := by kernel_rfl
theorem r17 : rowRun base0 1000 48 11 138 3 w17 = true := by kernel_rfl
theorem r22 : rowRun base0 1000 48 11 138 3 w22 = true := by kernel_rfl
theorem r25 : rowRun base0 1000 48 11 138 3 w25 = true := by kernel_rfl
theorem r30 : rowRun base0 1000 48 11 138 3 w30 = true := by kernel_rfl
theorem r34 : rowRun base0 1000 48 11 138 3 w34 = true := by kernel_rfl
theorem r37 : rowRun base0 1000 48 11 138 3 w37 = true := by kernel_rfl
theorem r43 : rowRun base0 1000 48 11 138 3 w43 = true := by kernel_rfl
theorem r44 : rowRun base0 1000 48 11 138 3 w44 = true := by kernel_rfl
theorem r48 : rowRun base0 1000 48 11 138 3 w48 = true := by kernel_rfl
theorem r55 : rowRun base0 1000 48 11 138 3 w55 = true := by kernel_rfl
end Go.RI.Rw
