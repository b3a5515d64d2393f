/- The closed call that a body makes first, run by the kernel. Conditions: none. -/
import Derived.Test.YtaplnebenndkgaaGreatDoorT15
import Derived.KernelRfl
set_option linter.all false
namespace Go.RI.Rw
theorem r2 : rowRun base0 1000 48 11 138 3 w2 = true := by kernel_rfl
theorem r5 : rowRun base0 1000 48 11 138 3 w5 = true := by kernel_rfl
theorem r9 : rowRun base0 1000 48 11 138 3 w9 = true := by kernel_rfl
theorem r14 : rowRun base0 1000 48 11 138 3 w14 = true := by kernel_rfl
theorem r19 : rowRun base0 1000 48 11 138 3 w19 = true := by kernel_rfl
theorem r20 : rowRun base0 1000 48 11 138 3 w20 = true := by kernel_rfl
theorem r24 : rowRun base0 1000 48 11 138 3 w24 = true := by kernel_rfl
theorem r31 : rowRun base0 1000 48 11 138 3 w31 = true := by kernel_rfl
theorem r35 : rowRun base0 1000 48 11 138 3 w35 = true := by kernel_rfl
theorem r36 : rowRun base0 1000 48 11 138 3 w36 = true := by kernel_rfl
theorem r40 : rowRun base0 1000 48 11 138 3 w40 = true := by kernel_rfl
theorem r47 : rowRun base0 1000 48 11 138 3 w47 = true := by kernel_rfl
theorem r51 : rowRun base0 1000 48 11 138 3 w51 = true := by kernel_rfl
theorem r52 : rowRun base0 1000 48 11 138 3 w52 = true := by kernel_rfl
end Go.RI.Rw
