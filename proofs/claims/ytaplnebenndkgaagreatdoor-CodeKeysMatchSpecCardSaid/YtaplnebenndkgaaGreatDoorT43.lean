/- The law codeKeysMatchSpec: the row and its tied card hold, for all worlds in which the listed variables read as listed. Conditions: those of the row alone. -/
import Derived.Test.YtaplnebenndkgaaGreatDoorT37
import Derived.Test.YtaplnebenndkgaaGreatDoorT38
import Derived.Test.YtaplnebenndkgaaGreatDoorT39
import Derived.Test.YtaplnebenndkgaaGreatDoorT40
import Derived.Test.YtaplnebenndkgaaGreatDoorT41
import Derived.Test.YtaplnebenndkgaaGreatDoorT42
set_option linter.all false
namespace Go.Proofs.YtaplnebenndkgaaGreatDoor
open Go.ChangeShapes Go.WideShapes Go.ChangeAt Go.RowKit
theorem facts : joinedFacts Tryz.prog 3 Tryz.f3 Rows.codeKeysMatchSpecSpec Rows.codeKeysMatchSpecRow = true := by
  unfold joinedFacts
  rw [fact0, fact1, fact2, fact3, fact4, fact5, fact6, fact7, fact8, fact9, fact10, fact11, fact12, fact13, fact14, fact15, fact16, fact17, fact18, fact19, fact20, fact21, fact22, fact23, fact24, fact25, fact26, fact27, fact29, fact30, fact31]
  kernel_rfl
theorem goes3 : false = Rows.codeKeysMatchSpecRow.goesBy Tryz.prog := by
  have e : Tryz.prog.goesFrom "fetterlock/fetterlocklaw10.CodeKeysMatchSpec" = false := by
    unfold Program.goesFrom
    rw [named3, Option.any_some]
    unfold Program.goes
    rw [goesA, ← Array.any_toList, goesB, Bool.and_false, Bool.or_false]
  exact (show Rows.codeKeysMatchSpecRow.goesBy Tryz.prog = (Tryz.prog.goesFrom "fetterlock/fetterlocklaw10.CodeKeysMatchSpec" || false) from rfl).trans (by rw [e]; rfl) |>.symm
theorem f_holds : Rows.CodeKeysMatchSpecSaid :=
  OpenClaim.holds_of_wide 3 Tryz.f3 rfl rfl rfl rfl rfl rfl rfl ⟨rfl, rfl, rfl, rfl, rfl⟩ rfl rfl rfl rfl rfl (by kernel_rfl) Tryz.func3 facts
    (of_decide_eq_true (by kernel_rfl)) (by unfold Func.isWrapper; first | (rw [if_pos (by decide +kernel)]; kernel_rfl) | (rw [if_neg (by decide +kernel)]; exact ⟨rfl, rfl⟩))
    (fun os started H enc _ => lifted os started H enc)
theorem card_holds : Rows.CodeKeysMatchSpecCardSaid :=
  Claim7.holds_tied_plain_at .later [] [.data, .data, .data, .data, .listed, .data, .data, .data, .pinned] true (true, "75ebbc17af54d71afe4cfda5e5333bbf454079ad061f9de7628eccf2c9215684") false f_holds (fun _ h => by cases h) wft (fun _ h => by cases h) codeKeysMatchSpec_row_tie rfl ⟨rfl, rfl⟩ mainIs3 rfl
    (fun f fn hf hfn => by
      obtain rfl : f = 3 := Option.some.inj (named3.symm.trans hf) |>.symm
      obtain rfl : fn = Tryz.f3 := (Option.some.inj (Tryz.func3.symm.trans hfn)).symm
      exact ⟨looks3, fun j t ht => by
        rw [Tryz.params3] at ht
        have hm : t ∈ [27] := by simpa using Array.mem_of_getElem? ht
        exact (show Tryz.prog.wantsStandIn t = false by simpa using List.all_eq_true.1 stand3 t hm)⟩)
    goes3
end Go.Proofs.YtaplnebenndkgaaGreatDoor
