/- A part of the proof (own lemmas, no condition beyond those that each theorem states): facts on the functions that the statements of this seat reach. -/
import Derived.Test.YtdgnciclfeojnaaGreatDoorOwnE8
set_option maxRecDepth 100000
set_option linter.unusedVariables false
set_option linter.unusedSectionVars false
set_option linter.unusedSimpArgs false
namespace Go.Proofs.YtdgnciclfeojnaaGreatDoor
open Go Go.Lift Go.RowKit

theorem c55_a (n : Int) (hn : n = 1 ∨ n = 10) (c cc : Cap) (h : Heap) : ACalls Tryz.prog 55 [limbs [n] c, limbs [1] cc] h fun r h' => r = .tuple [limbs [n] .full, limbs [] .full] ∧ h' = h := by
  refine ACalls.of_body tyOK (fun s => Nat.beq s 53) Tryz.func55 rfl (by kernel_rfl) (Nat.le_of_ble_eq_true rfl) ?_
  conv => whnf
  refine (c67 [n] [1] c cc (Nat.le_of_ble_eq_true rfl) (Nat.le_of_ble_eq_true rfl) _).mono ?_
  rintro r h' ⟨rfl, rfl⟩
  have hc : cmpN [n] [1] < 0 → False := by rcases hn with rfl | rfl <;> decide
  conv => whnf
  refine branch_of (fun h1 => ?_) (fun h1 => ?_)
  · exact absurd (of_decide_eq_true (show decide (cmpN [n] [1] < 0) = true from h1)) hc
  conv => whnf
  refine ⟨by show (0 : Int) ≤ 0 ∧ (0 : Int) < ((1 : Nat) : Int); decide, ?_⟩
  conv => whnf
  refine ⟨U 1, rfl, ?_⟩
  conv => whnf
  refine (c69_one n 1 c (by omega) (by omega) (by omega) (by omega) _).mono ?_
  rintro r h' ⟨rfl, rfl⟩
  conv => whnf
  refine ⟨_, _, Weak.refl _ _, ?_, rfl⟩
  rcases hn with rfl | rfl <;> rfl

theorem c55_b (c cc : Cap) (h : Heap) : ACalls Tryz.prog 55 [limbs [] c, limbs [1] cc] h fun r h' => r = .tuple [.sl 1 false [] .full, limbs [] .no] ∧ h' = h := by
  refine ACalls.of_body tyOK (fun s => Nat.beq s 53) Tryz.func55 rfl (by kernel_rfl) (Nat.le_of_ble_eq_true rfl) ?_
  conv => whnf
  refine (c67 [] [1] c cc (Nat.le_of_ble_eq_true rfl) (Nat.le_of_ble_eq_true rfl) _).mono ?_
  rintro r h' ⟨rfl, rfl⟩
  conv => whnf
  refine (c68 [] c (by decide) _).mono ?_
  rintro r h2 ⟨rfl, rfl⟩
  conv => whnf
  exact ⟨_, _, Weak.refl _ _, rfl, rfl⟩

theorem c54_a (n : Int) (hn : n = 1 ∨ n = 10) (c cc : Cap) (id : Nat) (h : Heap) (hid : h id = some (.cells [limbs [1] cc])) : ACalls Tryz.prog 54 [limbs [n] c, .ptr id 0] h fun r h' => r = limbs [] .full ∧ h' = h := by
  refine ACalls.of_body tyOK (fun s => false) Tryz.func54 rfl (by kernel_rfl) (Nat.le_of_ble_eq_true rfl) ?_
  conv => whnf
  refine ⟨_, hid, Nat.le_of_ble_eq_true rfl, ?_⟩
  conv => whnf
  refine ⟨limbs [1] cc, rfl, ?_⟩
  conv => whnf
  refine (c55_a n hn c cc _).mono ?_
  rintro r h' ⟨rfl, rfl⟩
  conv => whnf
  exact ⟨_, _, Weak.refl _ _, rfl, rfl⟩

theorem c34_h (c cc : Cap) (h : Heap) : ACalls Tryz.prog 34 [limbs [10] c, .int .i64 0, limbs [1] cc] h fun r h' => r = .tuple [limbs [] .full, .int .i64 0] ∧ h' = h := by
  refine ACalls.of_body tyOK (fun s => Nat.beq s 5) Tryz.func34 rfl (by kernel_rfl) (Nat.le_of_ble_eq_true rfl) ?_
  conv => whnf
  intro id hid
  conv => whnf
  refine ⟨_, updH_same _ _ _, Nat.le_of_ble_eq_true rfl, ?_⟩
  conv => whnf
  refine ⟨limbs [1] cc, rfl, ?_⟩
  conv => whnf
  refine (c31 [10] [1] c cc (by decide) (by decide) _).mono ?_
  rintro r h' ⟨rfl, rfl⟩
  conv => whnf
  refine ⟨_, updH_same _ _ _, Nat.le_of_ble_eq_true rfl, ?_⟩
  conv => whnf
  refine ⟨limbs [1] cc, rfl, ?_⟩
  conv => whnf
  refine (c54_a 1 (.inl rfl) .full cc id _ (updH_same _ _ _)).mono ?_
  rintro r h2 ⟨rfl, rfl⟩
  conv => whnf
  refine (c54_a 10 (.inr rfl) c cc id _ (updH_same _ _ _)).mono ?_
  rintro r h2 ⟨rfl, rfl⟩
  conv => whnf
  refine ACode.rounds 1 ?_
  refine ARounds.step tyOK (fun s => Nat.beq s 5) ?_
  conv => whnf
  exact ⟨_, _, Weak.le (hle_new hid), rfl, rfl⟩

theorem c32_h (c cc : Cap) (h : Heap) : ACalls Tryz.prog 32 [limbs [3] c, limbs [] cc] h fun r h' => r = limbs [] .full ∧ h' = h := by
  refine ACalls.of_body tyOK (fun s => Nat.beq s 17) Tryz.func32 rfl (by kernel_rfl) (Nat.le_of_ble_eq_true rfl) ?_
  conv => whnf
  refine ⟨by show (0 : Int) ≤ IntKind.i64.wrap (((1 : Nat) : Int) + ((0 : Nat) : Int)) ∧ IntKind.i64.wrap (((1 : Nat) : Int) + ((0 : Nat) : Int)) ≤ IntKind.i64.wrap (((1 : Nat) : Int) + ((0 : Nat) : Int)) ∧ ((4 : Nat) : Int) * IntKind.i64.wrap (((1 : Nat) : Int) + ((0 : Nat) : Int)) ≤ 281474976710656; decide, fun id hid => ?_⟩
  conv => whnf
  refine ACode.rounds 2 ?_
  refine ARounds.step tyOK (fun s => Nat.beq s 17) ?_
  conv => whnf
  refine ⟨by show (0 : Int) ≤ 0 ∧ (0 : Int) < ((1 : Nat) : Int); decide, ?_⟩
  conv => whnf
  refine ⟨U 3, rfl, ?_⟩
  conv => whnf
  refine ACode.rounds 1 ?_
  refine ARounds.step tyOK (fun s => Nat.beq s 17) ?_
  conv => whnf
  refine ARounds.step tyOK (fun s => Nat.beq s 17) ?_
  conv => whnf
  refine ACalls.arg 0 (Nat.le_of_ble_eq_true rfl) (weak_limbs (ns := [0]) (updH_same _ _ _) rfl rfl (Nat.le_of_ble_eq_true rfl)) ?_
  refine ACalls.at (args' := [limbs [0] .full]) rfl ((c30 [0] .full (Nat.le_of_ble_eq_true rfl) _).mono ?_)
  rintro r h2 ⟨rfl, rfl⟩
  conv => whnf
  exact ⟨_, _, Weak.le (hle_new2 hid), rfl, rfl⟩

theorem c15_h (c cc : Cap) (h : Heap) : ACalls Tryz.prog 15 [limbs [3] c, limbs [] cc] h fun r h' => r = .tuple [limbs [] .full, .int .i64 0] ∧ h' = h := by
  refine ACalls.of_body tyOK (fun s => false) Tryz.func15 rfl (by kernel_rfl) (Nat.le_of_ble_eq_true rfl) ?_
  conv => whnf
  refine (c31 [3] [] c cc (by decide) (by decide) _).mono ?_
  rintro r h' ⟨rfl, rfl⟩
  conv => whnf
  refine (c32_h c cc _).mono ?_
  rintro r h' ⟨rfl, rfl⟩
  conv => whnf
  exact ⟨_, _, Weak.refl _ _, rfl, rfl⟩

theorem c35_h (c cc : Cap) (h : Heap) : ACalls Tryz.prog 35 [limbs [] c, limbs [1] cc] h fun r h' => r = .tuple [.sl 1 false [] .full, limbs [] .no, .int .i64 0] ∧ h' = h := by
  refine ACalls.of_body tyOK (fun s => false) Tryz.func35 rfl (by kernel_rfl) (Nat.le_of_ble_eq_true rfl) ?_
  conv => whnf
  refine (c31 [] [1] c cc (by decide) (by decide) _).mono ?_
  rintro r h' ⟨rfl, rfl⟩
  conv => whnf
  refine (c55_b c cc _).mono ?_
  rintro r h' ⟨rfl, rfl⟩
  conv => whnf
  exact ⟨_, _, Weak.refl _ _, rfl, rfl⟩

theorem c17_x (h : Heap) : ACalls Tryz.prog 17 [encD ⟨false, [51], -1⟩, encD ⟨false, [49], -1⟩] h fun r h' => r = .tuple [.bool true, .int .i64 0] ∧ h' = h := by
  refine ACalls.of_body tyOK (fun s => false) Tryz.func17 rfl (by kernel_rfl) (Nat.le_of_ble_eq_true rfl) ?_
  conv => whnf
  refine (c10 ⟨false, [51], -1⟩ (by decide) _).mono ?_
  rintro r h' ⟨rfl, rfl⟩
  conv => whnf
  refine (c10 ⟨false, [49], -1⟩ (by decide) _).mono ?_
  rintro r h' ⟨rfl, rfl⟩
  conv => whnf
  refine (sign19 ⟨false, [49], -1⟩ _).mono ?_
  rintro r h' ⟨rfl, rfl⟩
  conv => whnf
  refine (sign19 ⟨false, [51], -1⟩ _).mono ?_
  rintro r h' ⟨rfl, rfl⟩
  conv => whnf
  refine (c14_3 _).mono ?_
  rintro r h' ⟨rfl, rfl⟩
  conv => whnf
  refine (c14_1 _).mono ?_
  rintro r h' ⟨rfl, rfl⟩
  conv => whnf
  refine (c34_h .full .full _).mono ?_
  rintro r h' ⟨rfl, rfl⟩
  conv => whnf
  refine (c15_h .full .full _).mono ?_
  rintro r h' ⟨rfl, rfl⟩
  conv => whnf
  refine (c35_h .full .full _).mono ?_
  rintro r h' ⟨rfl, rfl⟩
  conv => whnf
  exact ⟨_, _, Weak.refl _ _, rfl, rfl⟩

theorem c17_y (h : Heap) : ACalls Tryz.prog 17 [encD ⟨false, [51, 53], -2⟩, encD ⟨false, [49], -1⟩] h fun r h' => r = .tuple [.bool false, .int .i64 0] ∧ h' = h := by
  refine ACalls.of_body tyOK (fun s => false) Tryz.func17 rfl (by kernel_rfl) (Nat.le_of_ble_eq_true rfl) ?_
  conv => whnf
  refine (c10 ⟨false, [51, 53], -2⟩ (by decide) _).mono ?_
  rintro r h' ⟨rfl, rfl⟩
  conv => whnf
  refine (c10 ⟨false, [49], -1⟩ (by decide) _).mono ?_
  rintro r h' ⟨rfl, rfl⟩
  conv => whnf
  refine (sign19 ⟨false, [49], -1⟩ _).mono ?_
  rintro r h' ⟨rfl, rfl⟩
  conv => whnf
  refine (sign19 ⟨false, [51, 53], -2⟩ _).mono ?_
  rintro r h' ⟨rfl, rfl⟩
  conv => whnf
  exact ⟨_, _, Weak.refl _ _, rfl, rfl⟩

/-- What must come at any rate. -/
theorem c9 (h : Heap) : ACalls Tryz.prog 9 [] h fun r h' => r = .bool true ∧ h' = h := by
  refine ACalls.of_body tyOK (fun s => false) Tryz.func9 rfl (by kernel_rfl) (Nat.le_of_ble_eq_true rfl) ?_
  conv => whnf
  refine (c12 [49, 46, 53, 48, 101, 50] (by decide) _).mono ?_
  rintro r h' ⟨rfl, rfl⟩
  have p1 : parse12 [49, 46, 53, 48, 101, 50] = (⟨false, [49, 53], 1⟩, 0) := by rfl
  rw [p1]
  conv => whnf
  refine (c12 [45, 48, 46, 48, 101, 57] (by decide) _).mono ?_
  rintro r h' ⟨rfl, rfl⟩
  have p2 : parse12 [45, 48, 46, 48, 101, 57] = (dec0, 0) := by rfl
  rw [p2]
  conv => whnf
  refine (c12 [49, 101, 49, 48, 48, 48, 48, 48, 49] (by decide) _).mono ?_
  rintro r h' ⟨rfl, rfl⟩
  have p3 : parse12 [49, 101, 49, 48, 48, 48, 48, 48, 49] = (dec0, 31) := by rfl
  rw [p3]
  conv => whnf
  refine (c12 [48, 49] (by decide) _).mono ?_
  rintro r h' ⟨rfl, rfl⟩
  have p4 : parse12 [48, 49] = (dec0, 30) := by rfl
  rw [p4]
  conv => whnf
  refine (c11 ⟨false, [49, 53], 1⟩ [49] (by decide) (by decide) (fun _ _ h => c26_1 h) _).mono ?_
  rintro r h' ⟨rfl, rfl⟩
  have p5 : text11 ⟨false, [49, 53], 1⟩ [49] = ([49, 53, 101, 49], 0) := by rfl
  rw [p5]
  conv => whnf
  refine (c17_x _).mono ?_
  rintro r h' ⟨rfl, rfl⟩
  conv => whnf
  refine (c17_y _).mono ?_
  rintro r h' ⟨rfl, rfl⟩
  conv => whnf
  exact ⟨_, _, Weak.refl _ _, rfl, rfl⟩

end Go.Proofs.YtdgnciclfeojnaaGreatDoor
