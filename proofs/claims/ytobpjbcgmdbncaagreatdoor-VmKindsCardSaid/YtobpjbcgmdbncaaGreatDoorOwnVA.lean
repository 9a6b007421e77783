/- A part of the proof (own lemmas, no condition beyond those that each theorem states): facts on the functions that the statements of this seat reach. -/
import Derived.Test.YtobpjbcgmdbncaaGreatDoorFx
import Derived.Test.YtobpjbcgmdbncaaGreatDoorLiftXE
set_option maxRecDepth 1000000
set_option linter.unusedVariables false
set_option linter.unusedSectionVars false
set_option linter.unusedSimpArgs false
namespace Go.Proofs.YtobpjbcgmdbncaaGreatDoor
open Go Go.Lift Go.RowKit

instance : Glob := ⟨fun _ => none⟩
theorem tabFree : TabFree := fun g x h => by cases h
theorem mixed : Tryz.prog.follows .mixedOrders = true := by kernel_rfl

theorem heads_run : runF (lookL fxl) ty 100000 9 [] = some (.bool true) := by kernel_rfl
/-- What must come at any rate. -/
theorem c9 (h : Heap) : ACalls Tryz.prog 9 [] h fun r h' => r = .bool true ∧ h' = h :=
  ACalls.of_run tyOK mixed tabFree (lookL_ok fxall) 100000 heads_run rfl rfl h
end Go.Proofs.YtobpjbcgmdbncaaGreatDoor
