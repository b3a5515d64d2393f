/- The closed call that a body makes first, run by the kernel. Conditions: none. -/
import Derived.Test.YtaplnebenndkgaaGreatDoorT15
import Derived.KernelRfl
set_option linter.all false
namespace Go.RI.Rw
theorem r3 : rowRun base0 1000 48 11 138 3 w3 = true := by kernel_rfl
theorem r4 : rowRun base0 1000 48 11 138 3 w4 = true := by kernel_rfl
theorem r8 : rowRun base0 1000 48 11 138 3 w8 = true := by kernel_rfl
theorem r15 : rowRun base0 1000 48 11 138 3 w15 = true := by kernel_rfl
theorem r18 : rowRun base0 1000 48 11 138 3 w18 = true := by kernel_rfl
theorem r21 : rowRun base0 1000 48 11 138 3 w21 = true := by kernel_rfl
theorem r27 : rowRun base0 1000 48 11 138 3 w27 = true := by kernel_rfl
theorem r28 : rowRun base0 1000 48 11 138 3 w28 = true := by kernel_rfl
theorem r32 : rowRun base0 1000 48 11 138 3 w32 = true := by kernel_rfl
theorem r39 : rowRun base0 1000 48 11 138 3 w39 = true := by kernel_rfl
theorem r42 : rowRun base0 1000 48 11 138 3 w42 = true := by kernel_rfl
theorem r45 : rowRun base0 1000 48 11 138 3 w45 = true := by kernel_rfl
theorem r49 : rowRun base0 1000 48 11 138 3 w49 = true := by kernel_rfl
theorem r54 : rowRun base0 1000 48 11 138 3 w54 = true := by kernel_rfl
end Go.RI.Rw
