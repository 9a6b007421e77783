/- A part of the proof (own lemmas, no condition beyond those that each theorem states): facts on the functions that the statements of this seat reach. -/
import Derived.Test.YtdgnciclfeojnaaGreatDoorOwnE5
set_option maxRecDepth 100000
set_option linter.unusedVariables false
set_option linter.unusedSectionVars false
set_option linter.unusedSimpArgs false
namespace Go.Proofs.YtdgnciclfeojnaaGreatDoor
open Go Go.Lift Go.RowKit

theorem c14_3 (h : Heap) : ACalls Tryz.prog 14 [.str [51]] h fun r h' => r = .tuple [limbs [3] .full, .int .i64 0] ∧ h' = h := by
  refine ACalls.of_body tyOK (fun _ => false) Tryz.func14 rfl (by kernel_rfl) (Nat.le_of_ble_eq_true rfl) ?_
  conv => whnf
  refine (c25 [51] (by decide) _).mono ?_
  rintro r h' ⟨rfl, rfl⟩
  conv => whnf
  refine ACode.rounds 2 ?_
  refine ARounds.step tyOK (fun _ => false) ?_
  conv => whnf
  refine ⟨by decide, ?_⟩
  conv => whnf
  refine ⟨by decide, ?_⟩
  conv => whnf
  refine ACode.rounds 2 ?_
  refine ARounds.step tyOK (fun _ => false) ?_
  conv => whnf
  refine ⟨by decide, ?_⟩
  conv => whnf
  refine ⟨byteA 51, rfl, ?_⟩
  conv => whnf
  refine ARounds.step tyOK (fun _ => false) ?_
  conv => whnf
  refine ⟨by decide, fun t ht => ?_⟩
  conv => whnf
  refine ⟨by decide, ?_⟩
  conv => whnf
  refine ARounds.step tyOK (fun _ => false) ?_
  conv => whnf
  refine ACalls.at (args' := [limbs [3] (.own t)]) (by rfl) ((c30 [3] (.own t) (by decide) _).mono ?_)
  rintro r h2 ⟨rfl, rfl⟩
  conv => whnf
  exact ⟨_, _, Weak.le (hle_new ht), rfl, rfl⟩

end Go.Proofs.YtdgnciclfeojnaaGreatDoor
