/- Closed facts that the row and its card ask of the program. Conditions: none. -/
import Derived.Test.YtaplnebenndkgaaGreatDoorT36
set_option linter.all false
namespace Go.Proofs.YtaplnebenndkgaaGreatDoor
open Go.RowKit
theorem wft : Rows.codeKeysMatchSpecRow.wfByText (OpenSpec.ofChange Rows.codeKeysMatchSpecSpec) = true := by kernel_rfl
theorem named3 : Tryz.prog.funcNamed "fetterlock/fetterlocklaw10.CodeKeysMatchSpec" = some 3 := by kernel_rfl
theorem mainIs3 : Tryz.prog.mainIs = some (true, "75ebbc17af54d71afe4cfda5e5333bbf454079ad061f9de7628eccf2c9215684".toList) := by kernel_rfl
theorem looks3 : false = Tryz.prog.looks [] := by kernel_rfl
theorem stand3 : ([27].all fun u => !Tryz.prog.wantsStandIn u) = true := by kernel_rfl
end Go.Proofs.YtaplnebenndkgaaGreatDoor
