/- A part of the proof (own lemmas, no condition beyond those that each theorem states): facts on the functions that the statements of this seat reach. -/
import Derived.Test.YtdgnciclfeojnaaGreatDoorOwnD6
set_option maxRecDepth 100000
set_option linter.unusedVariables false
set_option linter.unusedSectionVars false
set_option linter.unusedSimpArgs false
namespace Go.Proofs.YtdgnciclfeojnaaGreatDoor
open Go Go.Lift

def hasP (s p : List UInt8) : Bool := decide (p.length ≤ s.length) && (s.take p.length == p)

theorem c62 (s p : List UInt8) (h : Heap) : ACalls Tryz.prog 62 [.str s, .str p] h fun r h' => r = .bool (hasP s p) ∧ h' = h := by
  refine ACalls.of_body tyOK (fun _ => false) Tryz.func62 rfl (by kernel_rfl) (Nat.le_of_ble_eq_true rfl) ?_
  conv => whnf
  refine branch_of (fun hb => ?_) (fun hb => ?_)
  · have hb : (s.length : Int) ≥ p.length := of_decide_eq_true hb
    conv => whnf
    refine ⟨by show (0 : Int) ≤ 0 ∧ (0 : Int) ≤ p.length ∧ (p.length : Int) ≤ s.length; omega, ?_⟩
    conv => whnf
    refine ⟨_, _, Weak.refl _ _, ?_, rfl⟩
    have e1 : decide (p.length ≤ s.length) = true := by simp; omega
    unfold hasP; rw [e1]; rfl
  · have hb : ¬ (s.length : Int) ≥ p.length := of_decide_eq_false hb
    conv => whnf
    refine ⟨_, _, Weak.refl _ _, ?_, rfl⟩
    have e1 : decide (p.length ≤ s.length) = false := by simp; omega
    unfold hasP; rw [e1]; rfl

theorem c49 (s p : List UInt8) (h : Heap) : ACalls Tryz.prog 49 [.str s, .str p] h fun r h' => r = .bool (hasP s p) ∧ h' = h := by
  refine ACalls.of_body tyOK (fun _ => false) Tryz.func49 rfl (by kernel_rfl) (Nat.le_of_ble_eq_true rfl) ?_
  conv => whnf
  refine (c62 s p _).mono ?_
  rintro r h' ⟨rfl, rfl⟩
  conv => whnf
  exact ⟨_, _, Weak.refl _ _, rfl, rfl⟩

def cutP (s p : List UInt8) : List UInt8 × Bool := if hasP s p then (s.drop p.length, true) else (s, false)

theorem c61 (s p : List UInt8) (h : Heap) : ACalls Tryz.prog 61 [.str s, .str p] h fun r h' => r = .tuple [.str (cutP s p).1, .bool (cutP s p).2] ∧ h' = h := by
  refine ACalls.of_body tyOK (fun _ => false) Tryz.func61 rfl (by kernel_rfl) (Nat.le_of_ble_eq_true rfl) ?_
  conv => whnf
  refine (c62 s p _).mono ?_
  rintro r h' ⟨rfl, rfl⟩
  conv => whnf
  refine branch_of (fun hb => ?_) (fun hb => ?_)
  · have hb : (!hasP s p) = true := hb
    conv => whnf
    refine ⟨_, _, Weak.refl _ _, ?_, rfl⟩
    have hb : hasP s p = false := by simpa using hb
    unfold cutP; rw [hb]; rfl
  · have hb : (!hasP s p) = false := hb
    have hb : hasP s p = true := by simpa using hb
    have hl : p.length ≤ s.length := by unfold hasP at hb; simp at hb; exact hb.1
    conv => whnf
    refine ⟨by show (0 : Int) ≤ (p.length : Int) ∧ (p.length : Int) ≤ (s.length : Int) ∧ (s.length : Int) ≤ s.length; omega, ?_⟩
    conv => whnf
    refine ⟨_, _, Weak.refl _ _, ?_, rfl⟩
    unfold cutP; rw [hb]; rfl

theorem c47 (s p : List UInt8) (h : Heap) : ACalls Tryz.prog 47 [.str s, .str p] h fun r h' => r = .tuple [.str (cutP s p).1, .bool (cutP s p).2] ∧ h' = h := by
  refine ACalls.of_body tyOK (fun _ => false) Tryz.func47 rfl (by kernel_rfl) (Nat.le_of_ble_eq_true rfl) ?_
  conv => whnf
  refine (c61 s p _).mono ?_
  rintro r h' ⟨rfl, rfl⟩
  conv => whnf
  exact ⟨_, _, Weak.refl _ _, rfl, rfl⟩

/-! ### Trims by one byte -/
theorem c39 (s : List UInt8) (b : UInt8) (hs : s.length ≤ 9223372036854775807) (h : Heap) : ACalls Tryz.prog 39 [.str s, .int .u8 b.toNat] h fun r h' => r = .str (trimL (· == b) s) ∧ h' = h := by
  refine ACalls.of_body tyOK (fun _ => false) Tryz.func39 rfl (by kernel_rfl) (Nat.le_of_ble_eq_true rfl) ?_
  conv => whnf
  refine ACode.loop tyOK (fun _ => false) (fun u : List UInt8 => trimL (· == b) u = trimL (· == b) s) (fun u => u.length) [1] [] (fun u => [(0, .str u)]) (fun _ => []) (fun _ => h) s rfl ⟨rfl, trivial⟩ trivial (HLe.refl _) (fun _ _ => rfl) (fun _ _ => rfl) ?_
  rintro u hu
  conv => whnf
  refine branch_of (fun hc => ?_) (fun hc => ?_)
  · have hc : (u.length : Int) > 0 := of_decide_eq_true hc
    conv => whnf
    refine ⟨⟨by omega, by show (0 : Int) < (u.length : Int); omega⟩, ?_⟩
    conv => whnf
    have hb0 : ((bt u 0 : Int) == (b.toNat : Int)) = (u.getD 0 0 == b) := beq_toNat (u.getD 0 0) b
    refine branch_of (fun he => ?_) (fun he => ?_)
    · have he : ((bt u 0 : Int) == (b.toNat : Int)) = true := he
      rw [hb0] at he
      conv => whnf
      refine ⟨by show (0 : Int) ≤ 1 ∧ (1 : Int) ≤ (u.length : Int) ∧ (u.length : Int) ≤ u.length; omega, ?_⟩
      conv => whnf
      refine ⟨u.drop 1, ?_, by simp; omega, ⟨⟨rfl, trivial⟩, trivial, HLe.refl _, ⟨rfl, trivial⟩, trivial⟩⟩
      show trimL (· == b) (u.drop 1) = _
      rw [← hu, trimL_cons (s := u) (by omega), he]; rfl
    · have he : ((bt u 0 : Int) == (b.toNat : Int)) = false := he
      rw [hb0] at he
      conv => whnf
      refine ⟨_, _, Weak.refl _ _, ?_, rfl⟩
      rw [← hu, trimL_cons (s := u) (by omega), he]; rfl
  · have hc : ¬ (u.length : Int) > 0 := of_decide_eq_false hc
    conv => whnf
    refine ⟨_, _, Weak.refl _ _, ?_, rfl⟩
    have : u = [] := by apply List.eq_nil_of_length_eq_zero; omega
    rw [← hu, this]; rfl

theorem c40 (s : List UInt8) (b : UInt8) (hs : s.length ≤ 9223372036854775807) (h : Heap) : ACalls Tryz.prog 40 [.str s, .int .u8 b.toNat] h fun r h' => r = .str (trimR (· == b) s) ∧ h' = h := by
  refine ACalls.of_body tyOK (fun _ => false) Tryz.func40 rfl (by kernel_rfl) (Nat.le_of_ble_eq_true rfl) ?_
  conv => whnf
  refine ACode.loop tyOK (fun _ => false) (fun u : List UInt8 => u.length ≤ s.length ∧ trimR (· == b) u = trimR (· == b) s) (fun u => u.length) [1] [] (fun u => [(0, .str u)]) (fun _ => []) (fun _ => h) s ⟨Nat.le_refl _, rfl⟩ ⟨rfl, trivial⟩ trivial (HLe.refl _) (fun _ _ => rfl) (fun _ _ => rfl) ?_
  rintro u ⟨hle, hu⟩
  conv => whnf
  refine branch_of (fun hc => ?_) (fun hc => ?_)
  · have hc : (u.length : Int) > 0 := of_decide_eq_true hc
    have hla := last_at (s := u) (by omega) (by omega)
    conv => whnf
    refine ⟨by rw [hla]; omega, ?_⟩
    conv => whnf
    have hb0 : ((bt u (IntKind.i64.wrap ((u.length : Int) - 1)) : Int) == (b.toNat : Int)) = (u.getD (u.length - 1) 0 == b) := by rw [hla]; exact beq_toNat (u.getD (u.length - 1) 0) b
    refine branch_of (fun he => ?_) (fun he => ?_)
    · have he : ((bt u (IntKind.i64.wrap ((u.length : Int) - 1)) : Int) == (b.toNat : Int)) = true := he
      rw [hb0] at he
      conv => whnf
      refine ⟨by rw [hla]; omega, ?_⟩
      conv => whnf
      have e1 : u.take (IntKind.i64.wrap ((u.length : Int) - 1)).toNat = u.take (u.length - 1) := by rw [hla]; simp
      refine ⟨u.take (u.length - 1), ⟨by simp; omega, ?_⟩, by simp; omega, ⟨⟨congrArg AV.str e1, trivial⟩, trivial, HLe.refl _, ⟨rfl, trivial⟩, trivial⟩⟩
      rw [← hu, trimR_last (s := u) (by omega), he]; rfl
    · have he : ((bt u (IntKind.i64.wrap ((u.length : Int) - 1)) : Int) == (b.toNat : Int)) = false := he
      rw [hb0] at he
      conv => whnf
      refine ⟨_, _, Weak.refl _ _, ?_, rfl⟩
      rw [← hu, trimR_last (s := u) (by omega), he]; rfl
  · have hc : ¬ (u.length : Int) > 0 := of_decide_eq_false hc
    conv => whnf
    refine ⟨_, _, Weak.refl _ _, ?_, rfl⟩
    have : u = [] := by apply List.eq_nil_of_length_eq_zero; omega
    rw [← hu, this]; rfl

def is0 : UInt8 → Bool := (· == 48)

theorem c33 (s : List UInt8) (hs : s.length ≤ 9223372036854775807) (h : Heap) : ACalls Tryz.prog 33 [.str s, .str [48]] h fun r h' => r = .str (trimL is0 s) ∧ h' = h := by
  refine ACalls.of_body tyOK (fun _ => false) Tryz.func33 rfl (by kernel_rfl) (Nat.le_of_ble_eq_true rfl) ?_
  conv => whnf
  refine branch_of (fun hb => ?_) (fun hb => ?_)
  · have hb : s = [] := eq_of_beq (show (s == []) = true from hb)
    conv => whnf
    refine ⟨_, _, Weak.refl _ _, ?_, rfl⟩
    rw [hb]; rfl
  · conv => whnf
    refine ⟨by decide, ?_⟩
    conv => whnf
    refine ⟨by decide, ?_⟩
    conv => whnf
    refine (c39 s 48 hs h).mono ?_
    rintro r h' ⟨rfl, rfl⟩
    conv => whnf
    exact ⟨_, _, Weak.refl _ _, rfl, rfl⟩

theorem c51 (s : List UInt8) (hs : s.length ≤ 9223372036854775807) (h : Heap) : ACalls Tryz.prog 51 [.str s, .str [48]] h fun r h' => r = .str (trimR is0 s) ∧ h' = h := by
  refine ACalls.of_body tyOK (fun _ => false) Tryz.func51 rfl (by kernel_rfl) (Nat.le_of_ble_eq_true rfl) ?_
  conv => whnf
  refine branch_of (fun hb => ?_) (fun hb => ?_)
  · have hb : s = [] := eq_of_beq (show (s == []) = true from hb)
    conv => whnf
    refine ⟨_, _, Weak.refl _ _, ?_, rfl⟩
    rw [hb]; rfl
  · conv => whnf
    refine ⟨by decide, ?_⟩
    conv => whnf
    refine ⟨by decide, ?_⟩
    conv => whnf
    refine (c40 s 48 hs h).mono ?_
    rintro r h' ⟨rfl, rfl⟩
    conv => whnf
    exact ⟨_, _, Weak.refl _ _, rfl, rfl⟩

end Go.Proofs.YtdgnciclfeojnaaGreatDoor
