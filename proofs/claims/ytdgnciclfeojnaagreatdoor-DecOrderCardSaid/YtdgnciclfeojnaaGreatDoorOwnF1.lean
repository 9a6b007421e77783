/- A part of the proof (own lemmas, no condition beyond those that each theorem states): facts on the functions that the statements of this seat reach. -/
import Derived.Test.YtdgnciclfeojnaaGreatDoorOwnE9
set_option maxRecDepth 100000
set_option linter.unusedVariables false
set_option linter.unusedSectionVars false
set_option linter.unusedSimpArgs false
namespace Go.Proofs.YtdgnciclfeojnaaGreatDoor
open Go Go.Lift Go.RowKit

/-- The law DecCompares. -/
theorem law3 (a b : Dec) (ha : a.dig.length ≤ 9223372036854775807) (hb : b.dig.length ≤ 9223372036854775807) (h : Heap) : ACalls Tryz.prog 3 [encD a, encD b] h fun r h' => r = .bool true ∧ h' = h := by
  refine ACalls.of_body tyOK (fun s => false) Tryz.func3 rfl (by kernel_rfl) (Nat.le_of_ble_eq_true rfl) ?_
  conv => whnf
  refine (c7 a b ha hb _).mono ?_
  rintro r h' ⟨rfl, rfl⟩
  rw [cmp_same]
  conv => whnf
  refine (c8 a b ha hb _).mono ?_
  rintro r h' ⟨rfl, rfl⟩
  conv => whnf
  refine branch_of (fun h1 => ?_) (fun h1 => ?_)
  · conv => whnf
    refine branch_of (fun h2 => ?_) (fun h2 => ?_)
    · conv => whnf
      refine (c9 _).mono ?_
      rintro r h' ⟨rfl, rfl⟩
      conv => whnf
      exact ⟨_, _, Weak.refl _ _, rfl, rfl⟩
    · exact absurd (show ((cmp2 a b).2 == (cmp2 a b).2) = false from h2) (by simp)
  · exact absurd (show ((cmp2 a b).1 == (cmp2 a b).1) = false from h1) (by simp)

end Go.Proofs.YtdgnciclfeojnaaGreatDoor
