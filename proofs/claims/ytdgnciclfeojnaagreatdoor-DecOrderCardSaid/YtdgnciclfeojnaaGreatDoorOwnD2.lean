/- A part of the proof (own lemmas, no condition beyond those that each theorem states): facts on the functions that the statements of this seat reach. -/
import Derived.Test.YtdgnciclfeojnaaGreatDoorOwnD1
import Derived.Test.YtdgnciclfeojnaaGreatDoorRows
import Derived.Eval
set_option maxRecDepth 100000
set_option linter.unusedVariables false
set_option linter.unusedSectionVars false
set_option linter.unusedSimpArgs false
namespace Go.Proofs.YtdgnciclfeojnaaGreatDoor
open Go Go.Lift

theorem mixed : Tryz.prog.follows .mixedOrders = true := Tryz.checked.mixed

def isDigit (b : UInt8) : Bool := (48 ≤ b && b ≤ 57)

theorem u8_le {a b : UInt8} : a ≤ b ↔ a.toNat ≤ b.toNat := UInt8.le_iff_toNat_le
theorem toNat_int {b c : UInt8} : ((b.toNat : Int) = (c.toNat : Int)) ↔ b = c := by
  rw [Int.ofNat_inj, UInt8.toNat_inj]
theorem beq_toNat (b c : UInt8) : ((b.toNat : Int) == (c.toNat : Int)) = (b == c) := by
  by_cases h : b = c
  · subst h; simp
  · have : ¬ ((b.toNat : Int) = (c.toNat : Int)) := fun e => h (toNat_int.1 e)
    rw [beq_eq_false_iff_ne.2 this, beq_eq_false_iff_ne.2 h]

theorem c38 (b : UInt8) (h : Heap) : ACalls Tryz.prog 38 [.int .u8 b.toNat] h fun r h' => r = .bool (isDigit b) ∧ h' = h := by
  refine ACalls.of_body tyOK (fun _ => false) Tryz.func38 rfl (by kernel_rfl) (Nat.le_of_ble_eq_true rfl) ?_
  conv => whnf
  refine branch_of (fun hb => ?_) (fun hb => ?_)
  · conv => whnf
    refine ⟨_, _, Weak.refl _ _, ?_, rfl⟩
    have hb : (b.toNat : Int) ≥ 48 := of_decide_eq_true hb
    have e : decide (48 ≤ b) = true := by rw [decide_eq_true_iff, u8_le]; simp; omega
    have e2 : decide ((b.toNat : Int) ≤ 57) = decide (b ≤ 57) := by
      have : ((b.toNat : Int) ≤ 57) ↔ b ≤ 57 := by rw [u8_le]; simp; omega
      simp [this]
    unfold isDigit; rw [e, ← e2]; rfl
  · conv => whnf
    refine ⟨_, _, Weak.refl _ _, ?_, rfl⟩
    have hb : ¬ (b.toNat : Int) ≥ 48 := of_decide_eq_false hb
    have e : decide (48 ≤ b) = false := by rw [decide_eq_false_iff_not, u8_le]; simp; omega
    unfold isDigit; rw [e]; rfl

/-- The canonical form of digits and exponent. -/
def fitB (d : Dec) : Bool := !(decide ((d.dig.length : Int) > 65536) || (d.dig.getD 0 0 == 48) || (d.dig.getD (d.dig.length - 1) 0 == 48) || decide (d.exp < -1000000) || decide (d.exp > 1000000))
def goodD (d : Dec) : Bool := if d.dig = [] then !d.neg && (d.exp == 0) else d.dig.all isDigit && fitB d

theorem all_of {s : List UInt8} (f : UInt8 → Bool) (h : ∀ j, j < s.length → f (s.getD j 0) = true) : s.all f = true := by
  rw [List.all_eq_true]
  intro x hx
  obtain ⟨i, hi, rfl⟩ := List.getElem_of_mem hx
  have := h i hi
  simpa [List.getD_eq_getElem?_getD, hi] using this
theorem not_all {s : List UInt8} (f : UInt8 → Bool) (j : Nat) (hj : j < s.length) (h : f (s.getD j 0) = false) : s.all f = false := by
  rw [List.all_eq_false]
  exact ⟨s[j], by simp, by simpa [List.getD_eq_getElem?_getD, hj] using h⟩

theorem last_at {s : List UInt8} (hl : s.length ≤ 9223372036854775807) (hp : 0 < s.length) : IntKind.i64.wrap ((s.length : Int) - 1) = ((s.length - 1 : Nat) : Int) := by
  rw [wi64 (by omega) (by omega)]; omega

/-- What caliperref03.Check says. -/
def chk2 (d : Dec) : Int := if goodD d then 0 else 2

theorem c22 (d : Dec) (hl : d.dig.length ≤ 9223372036854775807) (h : Heap) : ACalls Tryz.prog 22 [encD d] h fun r h' => r = .int .i64 (chk2 d) ∧ h' = h := by
  refine ACalls.of_body tyOK (fun _ => false) Tryz.func22 rfl (by kernel_rfl) (Nat.le_of_ble_eq_true rfl) ?_
  conv => whnf
  refine branch_of (fun hb => ?_) (fun hb => ?_)
  · have hb : d.dig = [] := by
      have : ((d.dig.length : Int) == 0) = true := hb
      simpa using this
    conv => whnf
    refine branch_of (fun hc => ?_) (fun hc => ?_)
    · conv => whnf
      exact ⟨_, _, Weak.refl _ _, by simp [chk2, goodD, hb, hc], rfl⟩
    · conv => whnf
      refine branch_of (fun hd => ?_) (fun hd => ?_)
      · conv => whnf
        have hd : (d.exp != 0) = true := hd
        exact ⟨_, _, Weak.refl _ _, by simp at hd; simp [chk2, goodD, hb, hc, hd], rfl⟩
      · conv => whnf
        have hd : (d.exp != 0) = false := hd
        exact ⟨_, _, Weak.refl _ _, by simp at hd; simp [chk2, goodD, hb, hc, hd], rfl⟩
  · have hb : ((d.dig.length : Int) == 0) = false := hb
    have hne : d.dig ≠ [] := by intro e; rw [e] at hb; cases hb
    have hpos : 0 < d.dig.length := List.length_pos_iff.2 hne
    have hla := last_at hl hpos
    conv => whnf
    refine ACode.loop tyOK (fun _ => false) (fun i => i ≤ d.dig.length ∧ ∀ j, j < i → isDigit (d.dig.getD j 0) = true) (fun i => d.dig.length - i) [1, 3] [1] (fun i => [(4, .int .i64 (i : Int))]) (fun _ => []) (fun _ => h) 0 ⟨Nat.zero_le _, fun j hj => by omega⟩ ⟨rfl, trivial⟩ trivial (HLe.refl _) (fun _ _ => rfl) (fun _ _ => rfl) ?_
    rintro i ⟨hi, hj⟩
    conv => whnf
    refine branch_of (fun hc => ?_) (fun hc => ?_)
    · conv => whnf
      have hc : (i : Int) < d.dig.length := of_decide_eq_true hc
      refine ⟨⟨by omega, hc⟩, ?_⟩
      conv => whnf
      refine (c38 (d.dig.getD i 0) h).mono ?_
      rintro r h' ⟨rfl, rfl⟩
      conv => whnf
      refine branch_of (fun he => ?_) (fun he => ?_)
      · conv => whnf
        have he : (!isDigit (d.dig.getD i 0)) = true := he
        refine ⟨_, _, Weak.refl _ _, ?_, rfl⟩
        have := not_all (s := d.dig) isDigit i (by omega) (by simpa using he)
        simp only [chk2, goodD, hne, this, if_false, Bool.false_and]; rfl
      · conv => whnf
        have he : (!isDigit (d.dig.getD i 0)) = false := he
        refine ⟨i + 1, ⟨by omega, fun j hj' => ?_⟩, by omega, ⟨⟨int_congr (wi64 (by omega) (by omega)), trivial⟩, trivial, HLe.refl _, ⟨rfl, rfl, trivial⟩, ⟨rfl, trivial⟩⟩⟩
        by_cases e : j = i
        · subst e; simpa using he
        · exact hj j (by omega)
    · conv => whnf
      have hc : ¬ ((i : Int) < d.dig.length) := of_decide_eq_false hc
      have hall : d.dig.all isDigit = true := all_of isDigit fun j hj' => hj j (by omega)
      have hspec : chk2 d = if fitB d then 0 else 2 := by simp only [chk2, goodD, hne, hall, if_false, Bool.true_and]
      refine branch_of (fun h1 => ?_) (fun h1 => ?_)
      · have h1 : decide ((d.dig.length : Int) > 65536) = true := h1
        conv => whnf
        refine ⟨_, _, Weak.refl _ _, ?_, rfl⟩
        rw [hspec]; simp only [fitB, h1]; rfl
      · have h1 : decide ((d.dig.length : Int) > 65536) = false := h1
        conv => whnf
        refine ⟨⟨by omega, by show (0 : Int) < (d.dig.length : Int); omega⟩, ?_⟩
        conv => whnf
        have fin : ∀ (b c : Bool), (d.dig.getD 0 0 == 48) = b → (b = false → (d.dig.getD (d.dig.length - 1) 0 == 48) = c) → True := fun _ _ _ _ => trivial
        have hb0 : ((bt d.dig 0 : Int) == 48) = (d.dig.getD 0 0 == 48) := beq_toNat (d.dig.getD 0 0) 48
        refine branch_of (fun h2 => ?_) (fun h2 => ?_)
        · have h2 : ((bt d.dig 0 : Int) == 48) = true := h2
          rw [hb0] at h2
          conv => whnf
          refine ⟨_, _, Weak.refl _ _, ?_, rfl⟩
          rw [hspec]; simp only [fitB, h1, h2]; rfl
        · have h2 : ((bt d.dig 0 : Int) == 48) = false := h2
          rw [hb0] at h2
          conv => whnf
          refine ⟨⟨by rw [hla]; omega, by rw [hla]; omega⟩, ?_⟩
          conv => whnf
          have hb1 : ((bt d.dig (IntKind.i64.wrap ((d.dig.length : Int) - 1)) : Int) == 48) = (d.dig.getD (d.dig.length - 1) 0 == 48) := by rw [hla]; exact beq_toNat (d.dig.getD (d.dig.length - 1) 0) 48
          refine branch_of (fun h3 => ?_) (fun h3 => ?_)
          · have h3 : ((bt d.dig (IntKind.i64.wrap ((d.dig.length : Int) - 1)) : Int) == 48) = true := h3
            rw [hb1] at h3
            conv => whnf
            refine ⟨_, _, Weak.refl _ _, ?_, rfl⟩
            rw [hspec]; simp only [fitB, h1, h2, h3]; rfl
          · have h3 : ((bt d.dig (IntKind.i64.wrap ((d.dig.length : Int) - 1)) : Int) == 48) = false := h3
            rw [hb1] at h3
            conv => whnf
            refine branch_of (fun h4 => ?_) (fun h4 => ?_)
            · have h4 : decide (d.exp < -1000000) = true := h4
              conv => whnf
              refine ⟨_, _, Weak.refl _ _, ?_, rfl⟩
              rw [hspec]; simp only [fitB, h1, h2, h3, h4]; rfl
            · have h4 : decide (d.exp < -1000000) = false := h4
              conv => whnf
              refine branch_of (fun h5 => ?_) (fun h5 => ?_)
              · have h5 : decide (d.exp > 1000000) = true := h5
                conv => whnf
                refine ⟨_, _, Weak.refl _ _, ?_, rfl⟩
                rw [hspec]; simp only [fitB, h1, h2, h3, h4, h5]; rfl
              · have h5 : decide (d.exp > 1000000) = false := h5
                conv => whnf
                refine ⟨_, _, Weak.refl _ _, ?_, rfl⟩
                rw [hspec]; simp only [fitB, h1, h2, h3, h4, h5]; rfl

end Go.Proofs.YtdgnciclfeojnaaGreatDoor
