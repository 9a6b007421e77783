/- A part of the proof (own lemmas, no condition beyond those that each theorem states): facts on the functions that the statements of this seat reach. -/
import Derived.Test.YtdgnciclfeojnaaGreatDoorOwnE6
set_option maxRecDepth 100000
set_option linter.unusedVariables false
set_option linter.unusedSectionVars false
set_option linter.unusedSimpArgs false
namespace Go.Proofs.YtdgnciclfeojnaaGreatDoor
open Go Go.Lift Go.RowKit

theorem c14_1 (h : Heap) : ACalls Tryz.prog 14 [.str [49]] h fun r h' => r = .tuple [limbs [1] .full, .int .i64 0] ∧ h' = h := by
  refine ACalls.of_body tyOK (fun _ => false) Tryz.func14 rfl (by kernel_rfl) (Nat.le_of_ble_eq_true rfl) ?_
  conv => whnf
  refine (c25 [49] (by decide) _).mono ?_
  rintro r h' ⟨rfl, rfl⟩
  conv => whnf
  refine ACode.rounds 2 ?_
  refine ARounds.step tyOK (fun _ => false) ?_
  conv => whnf
  refine ⟨by decide, ?_⟩
  conv => whnf
  refine ⟨by decide, ?_⟩
  conv => whnf
  refine ACode.rounds 2 ?_
  refine ARounds.step tyOK (fun _ => false) ?_
  conv => whnf
  refine ⟨by decide, ?_⟩
  conv => whnf
  refine ⟨byteA 49, rfl, ?_⟩
  conv => whnf
  refine ARounds.step tyOK (fun _ => false) ?_
  conv => whnf
  refine ⟨by decide, fun t ht => ?_⟩
  conv => whnf
  refine ⟨by decide, ?_⟩
  conv => whnf
  refine ARounds.step tyOK (fun _ => false) ?_
  conv => whnf
  refine ACalls.at (args' := [limbs [1] (.own t)]) (by rfl) ((c30 [1] (.own t) (by decide) _).mono ?_)
  rintro r h2 ⟨rfl, rfl⟩
  conv => whnf
  exact ⟨_, _, Weak.le (hle_new ht), rfl, rfl⟩

theorem c82 (x y : Int) (h : Heap) : ACalls Tryz.prog 82 [U x, U y] h fun r h' => r = .int .i64 (cmpI x y) ∧ h' = h := by
  refine ACalls.of_body tyOK (fun _ => false) Tryz.func82 rfl (by kernel_rfl) (Nat.le_of_ble_eq_true rfl) ?_
  conv => whnf
  refine (c96 _ _).mono ?_
  rintro r h' ⟨rfl, rfl⟩
  conv => whnf
  refine (c96 _ _).mono ?_
  rintro r h' ⟨rfl, rfl⟩
  conv => whnf
  refine branch_of (fun hb => ?_) (fun hb => ?_)
  · conv => whnf
    exact ⟨_, _, Weak.refl _ _, by simp at hb; simp [cmpI, hb], rfl⟩
  · conv => whnf
    refine branch_of (fun hc => ?_) (fun hc => ?_)
    · conv => whnf
      exact ⟨_, _, Weak.refl _ _, by simp at hb hc; simp [cmpI, hc]; omega, rfl⟩
    · conv => whnf
      exact ⟨_, _, Weak.refl _ _, by simp at hb hc; simp [cmpI]; omega, rfl⟩

/-- nat.compare, from the last limb on. -/
def cmpF (a b : List Int) : Nat → Int
  | 0 => 0
  | n + 1 => if cmpI (a.getD n 0) (b.getD n 0) ≠ 0 then cmpI (a.getD n 0) (b.getD n 0) else cmpF a b n
def cmpN (a b : List Int) : Int := if cmpI a.length b.length ≠ 0 then cmpI a.length b.length else cmpF a b a.length

theorem cmpI_eq {a b : Int} (h : cmpI a b = 0) : a = b := by
  unfold cmpI at h
  split at h
  · cases h
  · split at h
    · cases h
    · omega

theorem c67 (a b : List Int) (ca cb : Cap) (ha : a.length ≤ 4611686018427387904) (hb : b.length ≤ 4611686018427387904) (h : Heap) : ACalls Tryz.prog 67 [limbs a ca, limbs b cb] h fun r h' => r = .int .i64 (cmpN a b) ∧ h' = h := by
  refine ACalls.of_body tyOK (fun _ => false) Tryz.func67 rfl (by kernel_rfl) (Nat.le_of_ble_eq_true rfl) ?_
  have hla : (a.map U).length = a.length := by simp
  have hlb : (b.map U).length = b.length := by simp
  conv => whnf
  refine (c18 _ _ _).mono ?_
  rintro r h' ⟨rfl, rfl⟩
  rw [hla, hlb]
  conv => whnf
  refine branch_of (fun h1 => ?_) (fun h1 => ?_)
  · have h1 : cmpI a.length b.length ≠ 0 := bne_iff_ne.1 (show (cmpI a.length b.length != 0) = true from h1)
    conv => whnf
    exact ⟨_, _, Weak.refl _ _, by rw [cmpN, if_pos h1], rfl⟩
  have h1 : ¬ cmpI a.length b.length ≠ 0 := by simpa using (show (cmpI a.length b.length != 0) = false from h1)
  have hlen : a.length = b.length := by have := cmpI_eq (Decidable.not_not.1 h1); omega
  have hspec : cmpN a b = cmpF a b a.length := by rw [cmpN, if_neg h1]
  have hw0 : IntKind.i64.wrap (((a.map U).length : Int) - 1) = (a.length : Int) - 1 := by rw [hla]; exact wi64 (by omega) (by omega)
  conv => whnf
  refine ACode.loop tyOK (fun _ => false) (fun i : Nat => i ≤ a.length ∧ cmpN a b = cmpF a b i) (fun i => i) [0, 1] [] (fun i => [(6, .int .i64 ((i : Int) - 1))]) (fun _ => []) (fun _ => h') a.length ⟨Nat.le_refl _, hspec⟩ ⟨int_congr hw0, trivial⟩ trivial (HLe.refl _) (fun _ _ => rfl) (fun _ _ => rfl) ?_
  rintro i ⟨hi, hinv⟩
  conv => whnf
  refine branch_of (fun hc => ?_) (fun hc => ?_)
  · have hc : (i : Int) - 1 ≥ 0 := of_decide_eq_true hc
    obtain ⟨j, rfl⟩ : ∃ j, i = j + 1 := ⟨i - 1, by omega⟩
    have hji : ((j + 1 : Nat) : Int) - 1 = (j : Int) := by omega
    have htn : (((j + 1 : Nat) : Int) - 1).toNat = j := by omega
    conv => whnf
    refine ACode.draw tyOK mixed (fun _ => false) [(true, 0), (true, 1), (true, 2), (true, 3), (true, 4), (true, 5), (true, 6), (true, 7), (false, 8), (true, 9)] (by kernel_rfl) (by kernel_rfl) ?_
    conv => whnf
    refine ⟨by rw [hla]; omega, ?_⟩
    conv => whnf
    refine ⟨U (a.getD j 0), by rw [htn]; exact mapU_get (by omega), ?_⟩
    conv => whnf
    refine ⟨by rw [hlb]; omega, ?_⟩
    conv => whnf
    refine ⟨U (b.getD j 0), by rw [htn]; exact mapU_get (by omega), ?_⟩
    conv => whnf
    refine (c82 _ _ _).mono ?_
    rintro r h2 ⟨rfl, rfl⟩
    conv => whnf
    refine branch_of (fun h3 => ?_) (fun h3 => ?_)
    · have h3 : cmpI (a.getD j 0) (b.getD j 0) ≠ 0 := bne_iff_ne.1 (show (cmpI (a.getD j 0) (b.getD j 0) != 0) = true from h3)
      conv => whnf
      exact ⟨_, _, Weak.refl _ _, by rw [hinv, cmpF, if_pos h3], rfl⟩
    · have h3 : ¬ cmpI (a.getD j 0) (b.getD j 0) ≠ 0 := by simpa using (show (cmpI (a.getD j 0) (b.getD j 0) != 0) = false from h3)
      conv => whnf
      exact ⟨j, ⟨by omega, by rw [hinv, cmpF, if_neg h3]⟩, by omega, ⟨⟨int_congr (by rw [hji]; exact wi64 (by omega) (by omega)), trivial⟩, trivial, HLe.refl _, ⟨rfl, rfl, trivial⟩, trivial⟩⟩
  · have hc : ¬ (i : Int) - 1 ≥ 0 := of_decide_eq_false hc
    have hz : i = 0 := by omega
    subst hz
    conv => whnf
    exact ⟨_, _, Weak.refl _ _, by rw [hinv, cmpF], rfl⟩

/-- slices.Clone of limbs. -/
theorem c68 (a : List Int) (c : Cap) (ha : a.length ≤ 1073741824) (h : Heap) : ACalls Tryz.prog 68 [limbs a c] h fun r h' => r = limbs a .no ∧ h' = h := by
  refine ACalls.of_body tyOK (fun _ => false) Tryz.func68 rfl (by kernel_rfl) (Nat.le_of_ble_eq_true rfl) ?_
  conv => whnf
  intro b hb
  cases b with
  | true =>
    have hn : a = [] := by
      rcases hb rfl with h | h
      · simpa using h
      · cases h
    subst hn
    conv => whnf
    exact ⟨_, _, Weak.cap, rfl, rfl⟩
  | false =>
    conv => whnf
    cases a with
    | nil =>
      conv => whnf
      exact ⟨_, _, Weak.cap, rfl, rfl⟩
    | cons x r =>
      conv => whnf
      refine ⟨by show (0 + ((x :: r).map U).length) * 4 ≤ 140737488355328; simp at ha ⊢; omega, fun t ht => ?_⟩
      conv => whnf
      exact ⟨_, _, Weak.trans Weak.cap (Weak.le (hle_new ht)), rfl, rfl⟩

end Go.Proofs.YtdgnciclfeojnaaGreatDoor
