/- Rules for runs of the small language over a partly known heap, and what the functions on the way of the law compute. Conditions: none. The compiled bodies are those of the program. Conditions: none. -/
import Derived.Test.YtaplnebenndkgaaGreatDoorT03
import Derived.Test.YtaplnebenndkgaaGreatDoorT15
import Derived.Test.YtaplnebenndkgaaGreatDoorProg
set_option linter.all false
namespace Go.RI
def tiOf (P : Program) (t : Nat) : Option TI :=
  match P.info? t, P.underlying t with
  | some i, some u => match i.zero with
    | some z => match avOf z with
      | some a => match Nat.beq a.cells.length i.size with
        | true => some { und := u, size := i.size, bytes := i.bytes, zero := a, within := [], plain := !P.stoodInHeld t && !P.eqGuardType P.depth t }
        | false => none
      | none => none
    | none => none
  | _, _ => none
theorem ttOk (P : Program) : TTok P (tiOf P) := by
  intro t i h
  unfold tiOf at h
  split at h
  · rename_i info u h1 h2
    split at h
    · rename_i z h3
      split at h
      · rename_i a h4
        split at h
        · rename_i h5
          cases h
          refine ⟨h2, ⟨info, h1, rfl, rfl, z, h3, avOf_rel h4⟩, Nat.eq_of_beq_eq_true h5, fun hp => ?_, fun hp => ?_⟩
          · simp only [Bool.and_eq_true, Bool.not_eq_true'] at hp; exact hp.1
          · simp only [Bool.and_eq_true, Bool.not_eq_true'] at hp; exact hp.2
        · cases h
      · cases h
    · cases h
  · cases h
end Go.RI
namespace Go.RI.Fk
open Go.Proofs
def Is (g : Nat) (fn : AFn) : Prop := ∃ f, Tryz.prog.funcs[g]? = some f ∧ compFn 4 (tiOf Tryz.prog) f = some fn ∧ (f.name == "runtime.NumGoroutine") = false
end Go.RI.Fk
