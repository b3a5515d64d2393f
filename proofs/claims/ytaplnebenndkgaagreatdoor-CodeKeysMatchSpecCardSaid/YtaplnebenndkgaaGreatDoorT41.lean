/- Closed facts that the row and its card ask of the program. Conditions: none. -/
import Derived.Test.YtaplnebenndkgaaGreatDoorT36
set_option linter.all false
namespace Go.Proofs.YtaplnebenndkgaaGreatDoor
open Go.RowKit
theorem goesB : (Tryz.prog.funcs.toList.any Func.goes) = false := by kernel_rfl
end Go.Proofs.YtaplnebenndkgaaGreatDoor
