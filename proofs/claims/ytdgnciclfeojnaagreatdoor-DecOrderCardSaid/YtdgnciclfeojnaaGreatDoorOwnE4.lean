/- A part of the proof (own lemmas, no condition beyond those that each theorem states): facts on the functions that the statements of this seat reach. -/
import Derived.Test.YtdgnciclfeojnaaGreatDoorOwnE3
set_option maxRecDepth 100000
set_option linter.unusedVariables false
set_option linter.unusedSectionVars false
set_option linter.unusedSimpArgs false
namespace Go.Proofs.YtdgnciclfeojnaaGreatDoor
open Go Go.Lift Go.RowKit

theorem c75_1 (h : Heap) : ACalls Tryz.prog 75 [.int .i64 1] h fun r h' => r = .str [49] ∧ h' = h := by
  refine ACalls.of_body tyOK (fun _ => false) Tryz.func75 rfl (by kernel_rfl) (Nat.le_of_ble_eq_true rfl) ?_
  conv => whnf
  refine ⟨by decide, ?_⟩
  conv => whnf
  exact ⟨_, _, Weak.refl _ _, by kernel_rfl, rfl⟩
theorem c60_1 (h : Heap) : ACalls Tryz.prog 60 [.int .i64 1, .int .i64 10] h fun r h' => r = .str [49] ∧ h' = h := by
  refine ACalls.of_body tyOK (fun _ => false) Tryz.func60 rfl (by kernel_rfl) (Nat.le_of_ble_eq_true rfl) ?_
  conv => whnf
  refine (c75_1 h).mono ?_
  rintro r h' ⟨rfl, rfl⟩
  conv => whnf
  exact ⟨_, _, Weak.refl _ _, rfl, rfl⟩
theorem c46_1 (h : Heap) : ACalls Tryz.prog 46 [.int .i64 1] h fun r h' => r = .str [49] ∧ h' = h := by
  refine ACalls.of_body tyOK (fun _ => false) Tryz.func46 rfl (by kernel_rfl) (Nat.le_of_ble_eq_true rfl) ?_
  conv => whnf
  refine (c60_1 h).mono ?_
  rintro r h' ⟨rfl, rfl⟩
  conv => whnf
  exact ⟨_, _, Weak.refl _ _, rfl, rfl⟩
theorem c26_1 (h : Heap) : ACalls Tryz.prog 26 [.int .i64 1] h fun r h' => r = .str [49] ∧ h' = h := by
  refine ACalls.of_body tyOK (fun _ => false) Tryz.func26 rfl (by kernel_rfl) (Nat.le_of_ble_eq_true rfl) ?_
  conv => whnf
  refine (c46_1 h).mono ?_
  rintro r h' ⟨rfl, rfl⟩
  conv => whnf
  exact ⟨_, _, Weak.refl _ _, rfl, rfl⟩

/-- dec.Text, an exponent's text known. -/
def text11 (d : Dec) (t : List UInt8) : List UInt8 × Int :=
  if goodD d = false then ([], 2) else if d.dig = [] then ([48], 0) else
  ((if d.neg then 45 :: d.dig else d.dig) ++ (if d.exp = 0 then [] else 101 :: t), 0)

theorem c11 (d : Dec) (t : List UInt8) (hl : d.dig.length ≤ 4611686018427387904) (htl : t.length ≤ 100) (ht : d.exp ≠ 0 → goodD d = true → ∀ h, ACalls Tryz.prog 26 [.int .i64 d.exp] h fun r h' => r = .str t ∧ h' = h) (h : Heap) :
    ACalls Tryz.prog 11 [encD d] h fun r h' => r = .tuple [.str (text11 d t).1, .int .i64 (text11 d t).2] ∧ h' = h := by
  refine ACalls.of_body tyOK (fun _ => false) Tryz.func11 rfl (by kernel_rfl) (Nat.le_of_ble_eq_true rfl) ?_
  conv => whnf
  refine (c10 d (by omega) _).mono ?_
  rintro r h' ⟨rfl, rfl⟩
  conv => whnf
  refine branch_of (fun hb => ?_) (fun hb => ?_)
  · have hg : goodD d = false := chk2_t hb
    conv => whnf
    refine ⟨_, _, Weak.refl _ _, ?_, rfl⟩
    have : chk2 d = 2 := by rw [chk2, hg]; rfl
    rw [this, text11, if_pos hg]
  have hg : goodD d = true := chk2_f hb
  obtain ⟨g1, g2⟩ := good_bounds hg
  have hng : ¬ goodD d = false := by rw [hg]; simp
  conv => whnf
  refine branch_of (fun h1 => ?_) (fun h1 => ?_)
  · have h1 : d.dig = [] := eq_of_beq (show (d.dig == []) = true from h1)
    conv => whnf
    exact ⟨_, _, Weak.refl _ _, by rw [text11, if_neg hng, if_pos h1], rfl⟩
  have h1 : ¬ d.dig = [] := ne_of_beq_false (show (d.dig == []) = false from h1)
  have hspec : text11 d t = ((if d.neg then 45 :: d.dig else d.dig) ++ (if d.exp = 0 then [] else 101 :: t), 0) := by rw [text11, if_neg hng, if_neg h1]
  conv => whnf
  refine branch_of (fun h2 => ?_) (fun h2 => ?_)
  · have h2 : d.neg = true := h2
    conv => whnf
    refine ⟨by show ((1 + d.dig.length : Nat) : Int) ≤ _; omega, ?_⟩
    conv => whnf
    refine branch_of (fun h3 => ?_) (fun h3 => ?_)
    · have h3 : d.exp ≠ 0 := bne_iff_ne.1 h3
      conv => whnf
      refine (ht h3 hg _).mono ?_
      rintro r h2' ⟨rfl, rfl⟩
      conv => whnf
      refine ⟨by show ((1 + t.length : Nat) : Int) ≤ _; omega, ?_⟩
      conv => whnf
      refine ⟨by show (((45 :: d.dig).length + (101 :: t).length : Nat) : Int) ≤ _; simp; omega, ?_⟩
      conv => whnf
      exact ⟨_, _, Weak.refl _ _, by rw [hspec, if_pos h2, if_neg h3]; rfl, rfl⟩
    · have h3 : d.exp = 0 := by simpa using (show (d.exp != 0) = false from h3)
      conv => whnf
      exact ⟨_, _, Weak.refl _ _, by rw [hspec, if_pos h2, if_pos h3, List.append_nil]; rfl, rfl⟩
  · have h2 : ¬ d.neg = true := by rw [show d.neg = false from h2]; simp
    conv => whnf
    refine branch_of (fun h3 => ?_) (fun h3 => ?_)
    · have h3 : d.exp ≠ 0 := bne_iff_ne.1 h3
      conv => whnf
      refine (ht h3 hg _).mono ?_
      rintro r h2' ⟨rfl, rfl⟩
      conv => whnf
      refine ⟨by show ((1 + t.length : Nat) : Int) ≤ _; omega, ?_⟩
      conv => whnf
      refine ⟨by show ((d.dig.length + (101 :: t).length : Nat) : Int) ≤ _; simp; omega, ?_⟩
      conv => whnf
      exact ⟨_, _, Weak.refl _ _, by rw [hspec, if_neg h2, if_neg h3]; rfl, rfl⟩
    · have h3 : d.exp = 0 := by simpa using (show (d.exp != 0) = false from h3)
      conv => whnf
      exact ⟨_, _, Weak.refl _ _, by rw [hspec, if_neg h2, if_pos h3, List.append_nil], rfl⟩

end Go.Proofs.YtdgnciclfeojnaaGreatDoor
