/- A part of the proof (own lemmas, no condition beyond those that each theorem states): facts on the functions that the statements of this seat reach. -/
import Derived.Test.YtobpjbcgmdbncaaGreatDoorOwnVB
set_option maxRecDepth 1000000
set_option linter.unusedVariables false
set_option linter.unusedSectionVars false
set_option linter.unusedSimpArgs false
namespace Go.Proofs.YtobpjbcgmdbncaaGreatDoor
open Go Go.Lift Go.RowKit

theorem c152 (c d : Int) (h : Heap) : ACalls Tryz.prog 152 [.int .u8 c, .int .u8 d] h fun r h' => (∃ b, r = .bool b) ∧ h' = h := by
  refine ACalls.of_body tyOK (fun _ => false) Tryz.func152 rfl (by kernel_rfl) (Nat.le_of_ble_eq_true rfl) ?_
  conv => whnf
  repeat' (first | exact ⟨_, _, Weak.refl _ _, ⟨_, rfl⟩, rfl⟩ | (refine branch_of (fun _ => ?_) (fun _ => ?_) <;> conv => whnf))

theorem c151 (c : Int) (h : Heap) : ACalls Tryz.prog 151 [.int .u8 c] h fun r h' => (∃ n : Int, r = .int .i64 n ∧ 0 ≤ n ∧ n ≤ 4) ∧ h' = h := by
  refine ACalls.of_body tyOK (fun _ => false) Tryz.func151 rfl (by kernel_rfl) (Nat.le_of_ble_eq_true rfl) ?_
  conv => whnf
  repeat' (first | exact ⟨_, _, Weak.refl _ _, ⟨_, rfl, by decide, by decide⟩, rfl⟩ | (refine branch_of (fun _ => ?_) (fun _ => ?_) <;> conv => whnf))

theorem byte_at (s : List UInt8) (i : Nat) (hi : i < s.length) {n : Int} (e : n = i) : (List.map byteA s).getD n.toNat AV.undef = .int .u8 (s.getD i 0).toNat := by
  subst e
  simp [List.getD_eq_getElem?_getD, hi, byteA]

theorem c96 (s : List UInt8) (i : Nat) (hi : i < s.length) (hs : s.length ≤ 9223372036854775807) (h : Heap) : ACalls Tryz.prog 96 [.sl 1 false (s.map byteA) .no, .int .i64 i] h fun r h' => (∃ (n : Int) (b : Bool), r = .tuple [.int .i64 n, .bool b] ∧ 0 ≤ n ∧ n ≤ 4 ∧ (b = true → 1 ≤ n) ∧ (i : Int) + n ≤ s.length) ∧ h' = h := by
  refine ACalls.of_body tyOK (fun _ => false) Tryz.func96 rfl (by kernel_rfl) (Nat.le_of_ble_eq_true rfl) ?_
  conv => whnf
  refine ⟨by simp; omega, ?_⟩
  rw [byte_at s i hi rfl]
  conv => whnf
  refine ⟨_, rfl, ?_⟩
  conv => whnf
  refine (c151 _ _).mono ?_
  rintro r h' ⟨⟨n, rfl, hn1, hn2⟩, rfl⟩
  conv => whnf
  refine branch_of (fun h1 => ?_) (fun h1 => ?_)
  · conv => whnf
    exact ⟨_, _, Weak.refl _ _, ⟨_, _, rfl, by decide, by decide, fun e => (by cases e), by omega⟩, rfl⟩
  · have h1 : (n == 0) = false := h1
    have hn0 : n ≠ 0 := by simpa using h1
    conv => whnf
    refine ACode.loop tyOK (fun _ => false) (fun k : Nat => 1 ≤ k ∧ k ≤ 4 ∧ i + k ≤ s.length) (fun k => 5 - k) [0, 1, 6] [] (fun k => [(7, .int .i64 k)]) (fun _ => []) (fun _ => h') 1 ⟨by omega, by omega, by omega⟩ ⟨rfl, trivial⟩ trivial (HLe.refl _) (fun _ _ => rfl) (fun _ _ => rfl) ?_
    rintro k ⟨hk1, hk2, hk3⟩
    conv => whnf
    refine branch_of (fun hc => ?_) (fun hc => ?_)
    · have hc : (k : Int) < n := of_decide_eq_true hc
      conv => whnf
      refine branch_of (fun h2 => ?_) (fun h2 => ?_)
      · conv => whnf
        exact ⟨_, _, Weak.refl _ _, ⟨_, _, rfl, by omega, by omega, fun e => (by cases e), by omega⟩, rfl⟩
      · have h2 : (IntKind.i64.wrap ((i : Int) + (k : Int)) == ((List.map byteA s).length : Int)) = false := h2
        conv => whnf
        have hw := wi64 (n := (i : Int) + (k : Int)) (by omega) (by omega)
        rw [hw] at h2
        have h2 : ((i : Int) + k) ≠ s.length := by simpa using h2
        have hik : i + k < s.length := by omega
        refine ⟨by rw [hw]; simp; omega, ?_⟩
        rw [byte_at s (i + k) hik (by rw [hw]; simp)]
        conv => whnf
        refine ⟨_, rfl, ?_⟩
        conv => whnf
        repeat' (first
          | exact ⟨_, _, Weak.refl _ _, ⟨_, _, rfl, by omega, by omega, fun e => (by cases e), by omega⟩, rfl⟩
          | exact ⟨k + 1, ⟨by omega, by omega, by omega⟩, by omega, ⟨⟨int_congr (wi64 (by omega) (by omega)), trivial⟩, trivial, HLe.refl _, ⟨rfl, rfl, rfl, trivial⟩, trivial⟩⟩
          | (refine branch_of (fun _ => ?_) (fun _ => ?_) <;> conv => whnf)
          | (refine ⟨by simp; omega, ?_⟩; rw [byte_at s i hi rfl]; conv => whnf)
          | (refine ⟨_, rfl, ?_⟩; conv => whnf)
          | (refine (c152 _ _ _).mono ?_; rintro r h' ⟨⟨b, rfl⟩, rfl⟩; conv => whnf))
    · conv => whnf
      exact ⟨_, _, Weak.refl _ _, ⟨_, _, rfl, by omega, by omega, fun e => (by omega), (by have hc : ¬ (k : Int) < n := of_decide_eq_false hc; omega)⟩, rfl⟩

theorem c69 (s : List UInt8) (hs : s.length ≤ 9223372036854775807) (h : Heap) : ACalls Tryz.prog 69 [.sl 1 false (s.map byteA) .no] h fun r h' => (∃ (n : Int) (b : Bool), r = .tuple [.int .i64 n, .bool b]) ∧ h' = h := by
  refine ACalls.of_body tyOK (fun _ => false) Tryz.func69 rfl (by kernel_rfl) (Nat.le_of_ble_eq_true rfl) ?_
  conv => whnf
  refine ACode.loop tyOK (fun _ => false) (fun k : Nat => k ≤ s.length) (fun k => s.length - k) [0] [] (fun k => [(4, .int .i64 k)]) (fun _ => []) (fun _ => h) 0 (by omega) ⟨rfl, trivial⟩ trivial (HLe.refl _) (fun _ _ => rfl) (fun _ _ => rfl) ?_
  rintro k hk
  conv => whnf
  refine branch_of (fun hc => ?_) (fun hc => ?_)
  · have hc : (k : Int) < ((List.map byteA s).length : Int) := of_decide_eq_true hc
    have hc : k < s.length := by simpa using hc
    conv => whnf
    refine (c96 s k hc hs _).mono ?_
    rintro r h' ⟨⟨n, b, rfl, h1, h2, h3, h4⟩, rfl⟩
    conv => whnf
    refine branch_of (fun hb => ?_) (fun hb => ?_)
    · conv => whnf
      exact ⟨_, _, Weak.refl _ _, ⟨_, _, rfl⟩, rfl⟩
    · have hb : (!b) = false := hb
      have h3 := h3 (by simpa using hb)
      conv => whnf
      exact ⟨(k + n).toNat, by omega, by omega, ⟨⟨int_congr ((wi64 (by omega) (by omega)).trans (by omega)), trivial⟩, trivial, HLe.refl _, ⟨rfl, trivial⟩, trivial⟩⟩
  · conv => whnf
    exact ⟨_, _, Weak.refl _ _, ⟨_, _, rfl⟩, rfl⟩

theorem c39 (s : List UInt8) (hs : s.length ≤ 9223372036854775807) (h : Heap) : ACalls Tryz.prog 39 [.str s] h fun r h' => (∃ b : Bool, r = .bool b) ∧ h' = h := by
  refine ACalls.of_body tyOK (fun _ => false) Tryz.func39 rfl (by kernel_rfl) (Nat.le_of_ble_eq_true rfl) ?_
  conv => whnf
  refine ⟨hs, ?_⟩
  conv => whnf
  refine (c69 s hs _).mono ?_
  rintro r h' ⟨⟨n, b, rfl⟩, rfl⟩
  conv => whnf
  exact ⟨_, _, Weak.refl _ _, ⟨_, rfl⟩, rfl⟩
end Go.Proofs.YtobpjbcgmdbncaaGreatDoor
