/- A part of the proof (own lemmas, no condition beyond those that each theorem states): facts on the functions that the statements of this seat reach. -/
import Derived.Test.YtdgnciclfeojnaaGreatDoorOwnD7
set_option maxRecDepth 100000
set_option linter.unusedVariables false
set_option linter.unusedSectionVars false
set_option linter.unusedSimpArgs false
namespace Go.Proofs.YtdgnciclfeojnaaGreatDoor
open Go Go.Lift

theorem isDigit_ge (b : UInt8) : decide ((b.toNat : Int) ≥ 48) = decide (48 ≤ b) := by
  have : ((b.toNat : Int) ≥ 48) ↔ 48 ≤ b := by rw [u8_le]; simp; omega
  simp [this]
theorem isDigit_le (b : UInt8) : decide ((b.toNat : Int) ≤ 57) = decide (b ≤ 57) := by
  have : ((b.toNat : Int) ≤ 57) ↔ b ≤ 57 := by rw [u8_le]; simp; omega
  simp [this]

theorem takeWhile_at {f : UInt8 → Bool} : ∀ {s : List UInt8} {i : Nat}, (∀ j, j < i → f (s.getD j 0) = true) → i ≤ s.length → (i < s.length → f (s.getD i 0) = false) → s.takeWhile f = s.take i ∧ s.dropWhile f = s.drop i
  | s, 0, _, _, h => by
    cases s with
    | nil => exact ⟨rfl, rfl⟩
    | cons a r =>
      have := h (by simp)
      simp at this
      simp [List.takeWhile_cons, List.dropWhile_cons, this]
  | [], i + 1, _, hi, _ => by simp at hi
  | a :: r, i + 1, hj, hi, h => by
    have h0 := hj 0 (by omega)
    simp at h0
    have := takeWhile_at (f := f) (s := r) (i := i) (fun j hj' => by simpa using hj (j + 1) (by omega)) (by simpa using hi) (fun h' => by simpa using h (by simpa using h'))
    simp [List.takeWhile_cons, List.dropWhile_cons, h0, this]

/-- The one error that this package makes: a pointer to a wrong. -/
def errAt (id : Nat) : AV := .iface 83 (.ptr id 0)
def wrongO : AObj := .cells [.int .i64 30]
def nilE : AV := .opq .nilIface

theorem c48 (s : List UInt8) (hs : s.length ≤ 9223372036854775807) (h : Heap) : ACalls Tryz.prog 48 [.str s] h fun r h' =>
    (s.takeWhile isDigit ≠ [] ∧ r = .tuple [.str (s.takeWhile isDigit), .str (s.dropWhile isDigit), nilE] ∧ h' = h) ∨
    (s.takeWhile isDigit = [] ∧ ∃ id, h id = none ∧ r = .tuple [.str [], .str [], errAt id] ∧ h' = updH h id (some wrongO)) := by
  refine ACalls.of_body tyOK (fun d => Nat.beq d 27) Tryz.func48 rfl (by kernel_rfl) (Nat.le_of_ble_eq_true rfl) ?_
  conv => whnf
  refine ACode.loop tyOK (fun d => Nat.beq d 27) (fun i : Nat => i ≤ s.length ∧ ∀ j, j < i → isDigit (s.getD j 0) = true) (fun i => s.length - i) [0] [] (fun i => [(5, .int .i64 (i : Int))]) (fun _ => []) (fun _ => h) 0 ⟨Nat.zero_le _, fun j hj => by omega⟩ ⟨rfl, trivial⟩ trivial (HLe.refl _) (fun _ _ => rfl) (fun _ _ => rfl) ?_
  rintro i ⟨hi, hj⟩
  -- what follows the loop
  have fin : ∀ (K : Prop), (i < s.length → isDigit (s.getD i 0) = false) → (s.takeWhile isDigit = s.take i ∧ s.dropWhile isDigit = s.drop i) := fun _ hh => takeWhile_at hj hi hh
  conv => whnf
  refine branch_of (fun hc => ?_) (fun hc => ?_)
  · have hc : (i : Int) < s.length := of_decide_eq_true hc
    conv => whnf
    refine ⟨⟨by omega, hc⟩, ?_⟩
    conv => whnf
    have hb0 : decide (bt s (i : Int) ≥ 48) = decide (48 ≤ s.getD i 0) := isDigit_ge (s.getD i 0)
    have hb1 : decide (bt s (i : Int) ≤ 57) = decide (s.getD i 0 ≤ 57) := isDigit_le (s.getD i 0)
    refine branch_of (fun hd => ?_) (fun hd => ?_)
    · have hd : decide (bt s (i : Int) ≥ 48) = true := hd
      rw [hb0] at hd
      conv => whnf
      refine ⟨⟨by omega, hc⟩, ?_⟩
      conv => whnf
      refine branch_of (fun he => ?_) (fun he => ?_)
      · have he : decide (bt s (i : Int) ≤ 57) = true := he
        rw [hb1] at he
        conv => whnf
        refine ⟨i + 1, ⟨by omega, fun j hj' => ?_⟩, by omega, ⟨⟨int_congr (wi64 (by omega) (by omega)), trivial⟩, trivial, HLe.refl _, ⟨rfl, trivial⟩, trivial⟩⟩
        by_cases e : j = i
        · subst e; unfold isDigit; rw [hd, he]; rfl
        · exact hj j (by omega)
      · have he : decide (bt s (i : Int) ≤ 57) = false := he
        rw [hb1] at he
        obtain ⟨t1, t2⟩ := fin True (fun _ => by unfold isDigit; rw [hd, he]; rfl)
        conv => whnf
        refine branch_of (fun hz => ?_) (fun hz => ?_)
        · have hz : (i : Int) = 0 := eq_of_beq (show ((i : Int) == 0) = true from hz)
          have hz : i = 0 := by omega
          conv => whnf
          intro id hid
          conv => whnf
          exact ⟨_, _, Weak.refl _ _, .inr ⟨by rw [t1, hz]; rfl, id, hid, rfl, rfl⟩⟩
        · have hz : ¬ (i : Int) = 0 := ne_of_beq_false (show ((i : Int) == 0) = false from hz)
          conv => whnf
          refine ACode.draw tyOK mixed (fun d => Nat.beq d 27) [(true, 0), (true, 1), (true, 2), (true, 3), (true, 4), (true, 5), (true, 6), (true, 7), (true, 8)] (by kernel_rfl) (by kernel_rfl) ?_
          conv => whnf
          refine ⟨by show (0 : Int) ≤ 0 ∧ (0 : Int) ≤ i ∧ (i : Int) ≤ s.length; omega, ?_⟩
          conv => whnf
          refine ⟨by show (0 : Int) ≤ i ∧ (i : Int) ≤ s.length ∧ (s.length : Int) ≤ s.length; omega, ?_⟩
          conv => whnf
          refine ⟨_, _, Weak.refl _ _, .inl ⟨?_, ?_, rfl⟩⟩
          · rw [t1]; intro hn; rw [List.take_eq_nil_iff] at hn; rcases hn with hn | hn
            · omega
            · rw [hn] at hi; simp at hi; omega
          · rw [t1, t2]; rfl
    · have hd : decide (bt s (i : Int) ≥ 48) = false := hd
      rw [hb0] at hd
      obtain ⟨t1, t2⟩ := fin True (fun _ => by unfold isDigit; rw [hd]; rfl)
      conv => whnf
      refine branch_of (fun hz => ?_) (fun hz => ?_)
      · have hz : (i : Int) = 0 := eq_of_beq (show ((i : Int) == 0) = true from hz)
        have hz : i = 0 := by omega
        conv => whnf
        intro id hid
        conv => whnf
        exact ⟨_, _, Weak.refl _ _, .inr ⟨by rw [t1, hz]; rfl, id, hid, rfl, rfl⟩⟩
      · have hz : ¬ (i : Int) = 0 := ne_of_beq_false (show ((i : Int) == 0) = false from hz)
        conv => whnf
        refine ACode.draw tyOK mixed (fun d => Nat.beq d 27) [(true, 0), (true, 1), (true, 2), (true, 3), (true, 4), (true, 5), (true, 6), (true, 7), (true, 8)] (by kernel_rfl) (by kernel_rfl) ?_
        conv => whnf
        refine ⟨by show (0 : Int) ≤ 0 ∧ (0 : Int) ≤ i ∧ (i : Int) ≤ s.length; omega, ?_⟩
        conv => whnf
        refine ⟨by show (0 : Int) ≤ i ∧ (i : Int) ≤ s.length ∧ (s.length : Int) ≤ s.length; omega, ?_⟩
        conv => whnf
        refine ⟨_, _, Weak.refl _ _, .inl ⟨?_, ?_, rfl⟩⟩
        · rw [t1]; intro hn; rw [List.take_eq_nil_iff] at hn; rcases hn with hn | hn
          · omega
          · rw [hn] at hi; simp at hi; omega
        · rw [t1, t2]; rfl
  · have hc : ¬ (i : Int) < s.length := of_decide_eq_false hc
    obtain ⟨t1, t2⟩ := fin True (fun hh => by omega)
    conv => whnf
    refine branch_of (fun hz => ?_) (fun hz => ?_)
    · have hz : (i : Int) = 0 := eq_of_beq (show ((i : Int) == 0) = true from hz)
      have hz : i = 0 := by omega
      conv => whnf
      intro id hid
      conv => whnf
      exact ⟨_, _, Weak.refl _ _, .inr ⟨by rw [t1, hz]; rfl, id, hid, rfl, rfl⟩⟩
    · have hz : ¬ (i : Int) = 0 := ne_of_beq_false (show ((i : Int) == 0) = false from hz)
      conv => whnf
      refine ACode.draw tyOK mixed (fun d => Nat.beq d 27) [(true, 0), (true, 1), (true, 2), (true, 3), (true, 4), (true, 5), (true, 6), (true, 7), (true, 8)] (by kernel_rfl) (by kernel_rfl) ?_
      conv => whnf
      refine ⟨by show (0 : Int) ≤ 0 ∧ (0 : Int) ≤ i ∧ (i : Int) ≤ s.length; omega, ?_⟩
      conv => whnf
      refine ⟨by show (0 : Int) ≤ i ∧ (i : Int) ≤ s.length ∧ (s.length : Int) ≤ s.length; omega, ?_⟩
      conv => whnf
      refine ⟨_, _, Weak.refl _ _, .inl ⟨?_, ?_, rfl⟩⟩
      · rw [t1]; intro hn; rw [List.take_eq_nil_iff] at hn; rcases hn with hn | hn
        · omega
        · rw [hn] at hi; simp at hi; omega
      · rw [t1, t2]; rfl

end Go.Proofs.YtdgnciclfeojnaaGreatDoor
