/- A part of the proof (own lemmas, no condition beyond those that each theorem states): facts on the functions that the statements of this seat reach. -/
import Derived.Test.YtdgnciclfeojnaaGreatDoorTy
import Derived.Test.YtdgnciclfeojnaaGreatDoorLiftU
set_option maxRecDepth 100000
set_option linter.unusedVariables false
set_option linter.unusedSectionVars false
set_option linter.unusedSimpArgs false
namespace Go.Proofs.YtdgnciclfeojnaaGreatDoor
open Go Go.Lift

/-- The package-level tables that this seat's proofs count on. -/
def tab : Nat → Option AV
  | 0 => some (.ept (.opq (.iface 123 (.agg #[.pointer (some ⟨9, 55, none⟩)]))) 1 false 0)
  | 3 => some (.ept (.agg (([1, 10, 100, 1000, 10000, 100000, 1000000, 10000000, 100000000, 1000000000, 10000000000, 100000000000, 1000000000000, 10000000000000, 100000000000000, 1000000000000000, 10000000000000000, 100000000000000000, 1000000000000000000, 10000000000000000000] : List Int).map (AV.int .u64))) 20 true 0)
  | _ => none
instance : Glob := ⟨tab⟩

structure Dec where
  neg : Bool
  dig : List UInt8
  exp : Int
def encD (d : Dec) : AV := .agg [.bool d.neg, .str d.dig, .int .i64 d.exp]
def signD (d : Dec) : Int := if d.dig = [] then 0 else if d.neg = true then -1 else 1

theorem c36 (n : Int) (h : Heap) : ACalls Tryz.prog 36 [.int .i64 n] h fun r h' => r = .bool false ∧ h' = h := by
  refine ACalls.of_body tyOK (fun _ => false) Tryz.func36 rfl (by kernel_rfl) (Nat.le_of_ble_eq_true rfl) ?_
  conv => whnf
  exact ⟨_, _, Weak.refl _ _, by simp, rfl⟩

theorem c37 (n : List UInt8) (h : Heap) : ACalls Tryz.prog 37 [.str n] h fun r h' => r = .bool false ∧ h' = h := by
  refine ACalls.of_body tyOK (fun _ => false) Tryz.func37 rfl (by kernel_rfl) (Nat.le_of_ble_eq_true rfl) ?_
  conv => whnf
  exact ⟨_, _, Weak.refl _ _, by simp, rfl⟩

theorem c96 (n : Int) (h : Heap) : ACalls Tryz.prog 96 [.int .u32 n] h fun r h' => r = .bool false ∧ h' = h := by
  refine ACalls.of_body tyOK (fun _ => false) Tryz.func96 rfl (by kernel_rfl) (Nat.le_of_ble_eq_true rfl) ?_
  conv => whnf
  exact ⟨_, _, Weak.refl _ _, by simp, rfl⟩

def cmpI (a b : Int) : Int := if a < b then -1 else if a > b then 1 else 0

theorem c18 (x y : Int) (h : Heap) : ACalls Tryz.prog 18 [.int .i64 x, .int .i64 y] h fun r h' => r = .int .i64 (cmpI x y) ∧ h' = h := by
  refine ACalls.of_body tyOK (fun _ => false) Tryz.func18 rfl (by kernel_rfl) (Nat.le_of_ble_eq_true rfl) ?_
  conv => whnf
  refine (c36 _ _).mono ?_
  rintro r h' ⟨rfl, rfl⟩
  conv => whnf
  refine (c36 _ _).mono ?_
  rintro r h' ⟨rfl, rfl⟩
  conv => whnf
  refine branch_of (fun hb => ?_) (fun hb => ?_)
  · conv => whnf
    exact ⟨_, _, Weak.refl _ _, by simp at hb; simp [cmpI, hb], rfl⟩
  · conv => whnf
    refine branch_of (fun hc => ?_) (fun hc => ?_)
    · conv => whnf
      exact ⟨_, _, Weak.refl _ _, by simp at hb hc; simp [cmpI, hc]; omega, rfl⟩
    · conv => whnf
      exact ⟨_, _, Weak.refl _ _, by simp at hb hc; simp [cmpI]; omega, rfl⟩

def cmpS (a b : List UInt8) : Int := if Op.bytesLess a b = true then -1 else if Op.bytesLess a b = false ∧ (a == b) = false then 1 else 0

theorem c21 (x y : List UInt8) (h : Heap) : ACalls Tryz.prog 21 [.str x, .str y] h fun r h' => r = .int .i64 (cmpS x y) ∧ h' = h := by
  refine ACalls.of_body tyOK (fun _ => false) Tryz.func21 rfl (by kernel_rfl) (Nat.le_of_ble_eq_true rfl) ?_
  conv => whnf
  refine (c37 _ _).mono ?_
  rintro r h' ⟨rfl, rfl⟩
  conv => whnf
  refine (c37 _ _).mono ?_
  rintro r h' ⟨rfl, rfl⟩
  conv => whnf
  refine branch_of (fun hb => ?_) (fun hb => ?_)
  · conv => whnf
    refine ⟨_, _, Weak.refl _ _, ?_, rfl⟩
    have hb : Op.bytesLess x y = true := hb
    simp [cmpS, hb]
  · conv => whnf
    have hb : Op.bytesLess x y = false := hb
    refine branch_of (fun hc => ?_) (fun hc => ?_)
    · conv => whnf
      refine ⟨_, _, Weak.refl _ _, ?_, rfl⟩
      have hc : (!(Op.bytesLess x y || x == y)) = true := hc
      rw [hb] at hc
      simp at hc
      simp [cmpS, hb, hc]
    · conv => whnf
      refine ⟨_, _, Weak.refl _ _, ?_, rfl⟩
      have hc : (!(Op.bytesLess x y || x == y)) = false := hc
      rw [hb] at hc
      simp at hc
      subst hc
      simp [cmpS, hb]

theorem sign19 (d : Dec) (h : Heap) : ACalls Tryz.prog 19 [encD d] h fun r h' => r = .int .i64 (signD d) ∧ h' = h := by
  refine ACalls.of_body tyOK (fun _ => false) Tryz.func19 rfl (by kernel_rfl) (Nat.le_of_ble_eq_true rfl) ?_
  conv => whnf
  refine branch_of (fun hb => ?_) (fun hb => ?_)
  · conv => whnf
    have hb := eq_of_beq hb
    exact ⟨_, _, Weak.refl _ _, by simp [signD]; intro hx; exact absurd hb hx, rfl⟩
  · conv => whnf
    have hb : d.dig ≠ [] := ne_of_beq_false hb
    refine branch_of (fun hn => ?_) (fun hn => ?_)
    · conv => whnf
      exact ⟨_, _, Weak.refl _ _, by simp [signD, hn, hb], rfl⟩
    · conv => whnf
      exact ⟨_, _, Weak.refl _ _, by simp [signD, hn, hb], rfl⟩

theorem sign23 (d : Dec) (h : Heap) : ACalls Tryz.prog 23 [encD d] h fun r h' => r = .int .i64 (signD d) ∧ h' = h := by
  refine ACalls.of_body tyOK (fun _ => false) Tryz.func23 rfl (by kernel_rfl) (Nat.le_of_ble_eq_true rfl) ?_
  conv => whnf
  refine branch_of (fun hb => ?_) (fun hb => ?_)
  · conv => whnf
    have hb := eq_of_beq hb
    exact ⟨_, _, Weak.refl _ _, by simp [signD]; intro hx; exact absurd hb hx, rfl⟩
  · conv => whnf
    have hb : d.dig ≠ [] := ne_of_beq_false hb
    refine branch_of (fun hn => ?_) (fun hn => ?_)
    · conv => whnf
      exact ⟨_, _, Weak.refl _ _, by simp [signD, hn, hb], rfl⟩
    · conv => whnf
      exact ⟨_, _, Weak.refl _ _, by simp [signD, hn, hb], rfl⟩

/-- cmp.Or of two. -/
theorem c20 (x y : Int) (h : Heap) : ACalls Tryz.prog 20 [.sl 1 false [.int .i64 x, .int .i64 y] .full] h fun r h' => r = .int .i64 (if x = 0 then y else x) ∧ h' = h := by
  refine ACalls.of_body tyOK (fun _ => false) Tryz.func20 rfl (by kernel_rfl) (Nat.le_of_ble_eq_true rfl) ?_
  conv => whnf
  refine ACode.rounds 3 ?_
  refine ARounds.step tyOK (fun _ => false) ?_
  conv => whnf
  refine ⟨⟨by decide, by show (0 : Int) < ((2 : Nat) : Int); decide⟩, ?_⟩
  conv => whnf
  refine ⟨.int .i64 x, rfl, ?_⟩
  conv => whnf
  refine branch_of (fun hb => ?_) (fun hb => ?_)
  · conv => whnf
    have hb : (x != 0) = true := hb
    exact ⟨_, _, Weak.refl _ _, by simp at hb; simp [hb], rfl⟩
  · conv => whnf
    have hb : (x != 0) = false := hb
    refine ARounds.step tyOK (fun _ => false) ?_
    conv => whnf
    refine ⟨⟨by decide, by show IntKind.i64.wrap (0 + 1) < ((2 : Nat) : Int); decide⟩, ?_⟩
    conv => whnf
    refine ⟨.int .i64 y, rfl, ?_⟩
    conv => whnf
    refine branch_of (fun hc => ?_) (fun hc => ?_)
    · conv => whnf
      have hc : (y != 0) = true := hc
      exact ⟨_, _, Weak.refl _ _, by simp at hb hc; simp [hb], rfl⟩
    · conv => whnf
      have hc : (y != 0) = false := hc
      refine ARounds.step tyOK (fun _ => false) ?_
      conv => whnf
      exact ⟨_, _, Weak.refl _ _, by simp at hb hc; simp [hb, hc], rfl⟩

end Go.Proofs.YtdgnciclfeojnaaGreatDoor
