/- A part of the proof (own lemmas, no condition beyond those that each theorem states): facts on the functions that the statements of this seat reach. -/
import Derived.Test.YtobpjbcgmdbncaaGreatDoorOwnVE
set_option maxRecDepth 1000000
set_option linter.unusedVariables false
set_option linter.unusedSectionVars false
set_option linter.unusedSimpArgs false
namespace Go.Proofs.YtobpjbcgmdbncaaGreatDoor
open Go Go.Lift Go.RowKit

theorem c8 (n : Nat) (k : Int) (d : Dec) (t : List UInt8) (els : List AV) (keys : List (List UInt8)) (ok : OkV n d t els keys) (h : Heap) : ACalls Tryz.prog 8 [encV k d t els keys] h fun r h' => (∃ m : Int, r = .int .i64 m) ∧ h' = h := by
  refine ACalls.of_body tyOK (fun _ => false) Tryz.func8 rfl (by kernel_rfl) (Nat.le_of_ble_eq_true rfl) ?_
  conv => whnf
  refine (c21 n k d t els keys ok _ _).mono ?_
  rintro r h' ⟨⟨b, rfl, _⟩, rfl⟩
  conv => whnf
  refine branch_of (fun hb => ?_) (fun hb => ?_) <;> conv => whnf
  · exact ⟨_, _, Weak.refl _ _, ⟨_, rfl⟩, rfl⟩
  · exact ⟨_, _, Weak.refl _ _, ⟨_, rfl⟩, rfl⟩

/-- The law VmKinds. -/
theorem law5 (n : Nat) (k : Int) (d : Dec) (t : List UInt8) (els : List AV) (keys : List (List UInt8)) (ok : OkV n d t els keys) (h : Heap) : ACalls Tryz.prog 5 [encV k d t els keys] h fun x h' => x = .bool true ∧ h' = h := by
  refine ACalls.of_body tyOK (fun _ => false) Tryz.func5 rfl (by kernel_rfl) (Nat.le_of_ble_eq_true rfl) ?_
  conv => whnf
  refine ACode.draw tyOK mixed (fun _ => false) [(true, 0), (false, 1), (true, 2), (true, 3), (false, 4), (true, 5), (true, 6), (true, 7), (true, 9), (false, 8), (false, 10), (true, 11), (true, 12), (false, 13), (true, 14), (true, 15), (true, 16)] (by kernel_rfl) (by kernel_rfl) ?_
  conv => whnf
  refine (c8 n k d t els keys ok _).mono ?_
  rintro x h' ⟨⟨m, rfl⟩, rfl⟩
  conv => whnf
  repeat' (first
    | exact ⟨_, _, Weak.refl _ _, rfl, rfl⟩
    | (refine (c9 _).mono ?_; rintro x h' ⟨rfl, rfl⟩; conv => whnf)
    | (refine (c11 k d t els keys ok.od _).mono ?_; rintro x h' ⟨rfl, rfl⟩; conv => whnf)
    | (refine (c15 k d t els keys ok.od _).mono ?_; rintro x h' ⟨rfl, rfl⟩; conv => whnf)
    | (refine branch_of (fun h1 => ?_) (fun h1 => ?_) <;> conv => whnf)
    | (exact absurd (show (kindsV k d == kindsV k d) = false from h1) (by simp)))

/-- This seat's proofs count on no table. -/
theorem tabs_of {W : World} {l : List (String × DataW Unit)} (h : laidMetH Tryz.prog l W) : ∀ g x, Glob.tab g = some x → Rel W.cell? rho0 x (.pointer (some ⟨g, 0, none⟩)) := fun g x hx => by cases hx

/-- A value, as an argument. -/
theorem law5s (n : Nat) (a : AV) (sh : Shp Tryz.prog n 28 a) (h : Heap) : ACalls Tryz.prog 5 [a] h fun x h' => x = .bool true ∧ h' = h := by
  obtain ⟨m, k, d, t, els, keys, _, rfl, ok⟩ := shp_val sh
  exact law5 m k d t els keys ok h
end Go.Proofs.YtobpjbcgmdbncaaGreatDoor
