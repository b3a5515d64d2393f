/- Closed facts that the row and its card ask of the program. Conditions: none. -/
import Derived.Test.YtaplnebenndkgaaGreatDoorT36
set_option linter.all false
namespace Go.Proofs.YtaplnebenndkgaaGreatDoor
open Go.RowKit
theorem goesA : ((Tryz.prog.closure 3).any fun g => (Tryz.prog.funcs[g]?).any Func.goes) = false := by kernel_rfl
end Go.Proofs.YtaplnebenndkgaaGreatDoor
