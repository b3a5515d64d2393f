/- Closed facts that the row and its card ask of the program. Conditions: none. -/
import Derived.Test.YtaplnebenndkgaaGreatDoorT36
set_option linter.all false
namespace Go.Proofs.YtaplnebenndkgaaGreatDoor
open Go.RowKit
theorem fact0 : (Rows.codeKeysMatchSpecRow.wf (OpenSpec.ofChange Rows.codeKeysMatchSpecSpec)) = true := by kernel_rfl
theorem fact11 : ((Rows.codeKeysMatchSpecRow.recurses == Tryz.prog.recurses 3)) = true := by kernel_rfl
theorem fact12 : ((Rows.codeKeysMatchSpecRow.named == Tryz.prog.varsNamed 3)) = true := by kernel_rfl
theorem fact13 : ((Rows.codeKeysMatchSpecRow.maps == (Tryz.f3.params.toList ++ Rows.codeKeysMatchSpecSpec.plain.varTypes Tryz.prog).any (Tryz.prog.mapsRec ·))) = true := by kernel_rfl
theorem fact14 : ((Rows.codeKeysMatchSpecRow.ifaces == (Tryz.f3.params.toList ++ Rows.codeKeysMatchSpecSpec.plain.varTypes Tryz.prog).any (Tryz.prog.ifacesRec ·))) = true := by kernel_rfl
theorem fact15 : ((Rows.codeKeysMatchSpecRow.mapsOut == Tryz.prog.mapsAmong Tryz.f3.resultTypes.toList)) = true := by kernel_rfl
theorem fact16 : ((Rows.codeKeysMatchSpecRow.loops == (Tryz.f3.params.toList ++ Rows.codeKeysMatchSpecSpec.plain.varTypes Tryz.prog).any (Tryz.prog.loopsFrom ·))) = true := by kernel_rfl
theorem fact17 : ((Rows.codeKeysMatchSpecRow.wideKeys == (Tryz.f3.params.toList ++ Rows.codeKeysMatchSpecSpec.plain.varTypes Tryz.prog ++ Tryz.f3.resultTypes.toList).any (Tryz.prog.wideKeysFrom ·))) = true := by kernel_rfl
theorem fact18 : (Rows.codeKeysMatchSpecSpec.vars.all (Tryz.prog.varReadable ·)) = true := by kernel_rfl
theorem fact19 : (Tryz.f3.resultTypes.all (fun t => Tryz.prog.readableRec t && decide (t < Tryz.prog.types.size))) = true := by kernel_rfl
theorem fact20 : ((Rows.codeKeysMatchSpecRow.ifacesOut == Tryz.f3.resultTypes.toList.any (Tryz.prog.ifacesRec ·))) = true := by kernel_rfl
theorem fact21 : ((Rows.codeKeysMatchSpecRow.loopsOut == Tryz.f3.resultTypes.toList.any (Tryz.prog.loopsFrom ·))) = true := by kernel_rfl
theorem fact22 : ((Rows.codeKeysMatchSpecRow.plainKeys == Tryz.prog.plainKeys)) = true := by kernel_rfl
theorem fact23 : (Rows.codeKeysMatchSpecRow.shortTexts.isNone) = true := by kernel_rfl
theorem fact24 : (Tryz.prog.stopsHeard) = true := by kernel_rfl
theorem fact25 : (Tryz.prog.mayEnter) = true := by kernel_rfl
theorem fact26 : ((Rows.codeKeysMatchSpecRow.lifted == Tryz.prog.liftsFinal)) = true := by kernel_rfl
theorem fact27 : ((Tryz.prog.make == some Rows.codeKeysMatchSpecRow.make)) = true := by kernel_rfl
theorem fact29 : ((Rows.codeKeysMatchSpecRow.pinned == Rows.codeKeysMatchSpecRow.pinnedBy)) = true := by kernel_rfl
theorem fact30 : ((Rows.codeKeysMatchSpecRow.veiled == (Tryz.f3.params.toList ++ Rows.codeKeysMatchSpecSpec.plain.varTypes Tryz.prog ++ Tryz.f3.resultTypes.toList).any (Tryz.prog.veiledRec ·))) = true := by kernel_rfl
theorem fact31 : (Rows.codeKeysMatchSpecRow.veiledFits Tryz.prog Tryz.f3.params.toList (Tryz.f3.params.toList ++ Rows.codeKeysMatchSpecSpec.plain.varTypes Tryz.prog ++ Tryz.f3.resultTypes.toList)) = true := by kernel_rfl
end Go.Proofs.YtaplnebenndkgaaGreatDoor
