/- The closed call that a body makes first, run by the kernel. Conditions: none. -/
import Derived.Test.YtaplnebenndkgaaGreatDoorT15
import Derived.KernelRfl
set_option linter.all false
namespace Go.RI.Rw
theorem r1 : rowRun base0 1000 48 11 138 3 w1 = true := by kernel_rfl
theorem r6 : rowRun base0 1000 48 11 138 3 w6 = true := by kernel_rfl
theorem r11 : rowRun base0 1000 48 11 138 3 w11 = true := by kernel_rfl
theorem r12 : rowRun base0 1000 48 11 138 3 w12 = true := by kernel_rfl
theorem r16 : rowRun base0 1000 48 11 138 3 w16 = true := by kernel_rfl
theorem r23 : rowRun base0 1000 48 11 138 3 w23 = true := by kernel_rfl
theorem r26 : rowRun base0 1000 48 11 138 3 w26 = true := by kernel_rfl
theorem r29 : rowRun base0 1000 48 11 138 3 w29 = true := by kernel_rfl
theorem r33 : rowRun base0 1000 48 11 138 3 w33 = true := by kernel_rfl
theorem r38 : rowRun base0 1000 48 11 138 3 w38 = true := by kernel_rfl
theorem r41 : rowRun base0 1000 48 11 138 3 w41 = true := by kernel_rfl
theorem r46 : rowRun base0 1000 48 11 138 3 w46 = true := by kernel_rfl
theorem r50 : rowRun base0 1000 48 11 138 3 w50 = true := by kernel_rfl
theorem r53 : rowRun base0 1000 48 11 138 3 w53 = true := by kernel_rfl
end Go.RI.Rw
