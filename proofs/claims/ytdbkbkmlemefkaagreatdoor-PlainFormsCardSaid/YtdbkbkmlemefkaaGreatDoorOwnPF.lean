/- A part of the proof (own lemmas, no condition beyond those that each theorem states): facts on the functions that the statements of this seat reach. -/
import Derived.Test.YtdbkbkmlemefkaaGreatDoorFx
import Derived.Test.YtdbkbkmlemefkaaGreatDoorLiftXE
set_option maxRecDepth 1000000
set_option linter.unusedVariables false
set_option linter.unusedSimpArgs false
namespace Go.Proofs.YtdbkbkmlemefkaaGreatDoor
open Go Go.Lift Go.RowKit

instance : Glob := ⟨fun _ => none⟩
theorem tabFree : TabFree := fun g x h => by cases h
theorem mixed : Tryz.prog.follows .mixedOrders = true := by kernel_rfl

theorem heads_run : runF (lookL fxl) ty 100000 15 [] = some (.bool true) := by kernel_rfl
/-- What must come at any rate. -/
theorem c15 (h : Heap) : ACalls Tryz.prog 15 [] h fun r h' => r = .bool true ∧ h' = h :=
  ACalls.of_run tyOK mixed tabFree (lookL_ok fxall) 100000 heads_run rfl rfl h

def yesV (b : Bool) (n : Nat) : Bool := !b && ((n : Int) == 0)
theorem c16 (b : Bool) (r : Int) (k : Nat) (g : Bool) (els : List AV) (c : Cap) (h : Heap) : ACalls Tryz.prog 16 [.agg [.bool b, .int .i64 r, .sl k g els c]] h fun x h' => x = .bool (yesV b els.length) ∧ h' = h := by
  refine ACalls.of_body tyOK (fun _ => false) Tryz.func16 rfl (by kernel_rfl) (Nat.le_of_ble_eq_true rfl) ?_
  cases b
  all_goals
    conv => whnf
    exact ⟨_, _, Weak.refl _ _, rfl, rfl⟩
theorem c17 (b : Bool) (r : Int) (k : Nat) (g : Bool) (els : List AV) (c : Cap) (h : Heap) : ACalls Tryz.prog 17 [.agg [.bool b, .int .i64 r, .sl k g els c]] h fun x h' => x = .bool (yesV b els.length) ∧ h' = h := by
  refine ACalls.of_body tyOK (fun _ => false) Tryz.func17 rfl (by kernel_rfl) (Nat.le_of_ble_eq_true rfl) ?_
  cases b
  all_goals
    conv => whnf
    exact ⟨_, _, Weak.refl _ _, rfl, rfl⟩

/-- The law PlainForms. -/
theorem law4 (b : Bool) (r : Int) (k : Nat) (g : Bool) (els : List AV) (c : Cap) (h : Heap) : ACalls Tryz.prog 4 [.agg [.bool b, .int .i64 r, .sl k g els c]] h fun x h' => x = .bool true ∧ h' = h := by
  refine ACalls.of_body tyOK (fun _ => false) Tryz.func4 rfl (by kernel_rfl) (Nat.le_of_ble_eq_true rfl) ?_
  conv => whnf
  refine ACode.draw tyOK mixed (fun _ => false) [(true, 0), (true, 2), (false, 1), (false, 3), (true, 4), (true, 5), (false, 6), (true, 7), (true, 8)] (by kernel_rfl) (by kernel_rfl) ?_
  conv => whnf
  refine (c16 b r k g els c _).mono ?_
  rintro x h' ⟨rfl, rfl⟩
  conv => whnf
  refine (c17 b r k g els c _).mono ?_
  rintro x h' ⟨rfl, rfl⟩
  conv => whnf
  refine branch_of (fun h1 => ?_) (fun h1 => ?_)
  · conv => whnf
    refine (c15 _).mono ?_
    rintro x h' ⟨rfl, rfl⟩
    conv => whnf
    exact ⟨_, _, Weak.refl _ _, rfl, rfl⟩
  · exact absurd (show (yesV b els.length == yesV b els.length) = false from h1) (by simp)

/-- This seat's proofs count on no table. -/
theorem tabs_of {W : World} {l : List (String × DataW Unit)} (h : laidMetH Tryz.prog l W) : ∀ g x, Glob.tab g = some x → Rel W.cell? rho0 x (.pointer (some ⟨g, 0, none⟩)) := fun g x hx => by cases hx

/-- A form, as an argument. -/
theorem law4s (n : Nat) (a : AV) (sh : Shp Tryz.prog n 41 a) (h : Heap) : ACalls Tryz.prog 4 [a] h fun x h' => x = .bool true ∧ h' = h := by
  cases n with
  | zero => exact sh.elim
  | succ n =>
    unfold Shp at sh
    rw [Tryz.underlying41] at sh
    obtain ⟨avs, rfl, he⟩ := sh
    match avs, he with
    | [x, y, z], ⟨hx, hy, hz, _⟩ =>
      cases n with
      | zero => exact hx.elim
      | succ n =>
        unfold Shp at hx hy hz
        rw [Tryz.underlying4] at hx
        rw [Tryz.underlying3] at hy
        rw [Tryz.underlying39] at hz
        obtain ⟨b, rfl⟩ := hx
        obtain ⟨m, rfl, _⟩ := hy
        obtain ⟨els, rfl, _⟩ := hz
        exact law4 b m _ _ els _ h

end Go.Proofs.YtdbkbkmlemefkaaGreatDoor
