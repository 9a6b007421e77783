/- A part of the proof (own lemmas, no condition beyond those that each theorem states): facts on the functions that the statements of this seat reach. -/
import Derived.Test.YtdgnciclfeojnaaGreatDoorOwnD2
set_option maxRecDepth 100000
set_option linter.unusedVariables false
set_option linter.unusedSectionVars false
set_option linter.unusedSimpArgs false
namespace Go.Proofs.YtdgnciclfeojnaaGreatDoor
open Go Go.Lift

def padCmp (x y : List UInt8) : Nat → Nat → Int
  | 0, _ => 0
  | n + 1, i => if x.getD i 48 = y.getD i 48 then padCmp x y n (i + 1) else if (x.getD i 48).toNat < (y.getD i 48).toNat then -1 else 1

def sizeR (x y : Dec) : Int :=
  if (x.dig.length : Int) + x.exp ≠ y.dig.length + y.exp then (if (x.dig.length : Int) + x.exp < y.dig.length + y.exp then -1 else 1)
  else padCmp x.dig y.dig (max x.dig.length y.dig.length) 0

theorem getD_in {s : List UInt8} {i : Nat} (h : i < s.length) (d d' : UInt8) : s.getD i d = s.getD i d' := by simp [List.getD_eq_getElem?_getD, h]
theorem getD_out {s : List UInt8} {i : Nat} (h : s.length ≤ i) (d : UInt8) : s.getD i d = d := by simp [List.getD_eq_getElem?_getD, h]

theorem c24 (x y : Dec) (hx : x.dig.length ≤ 65536) (hy : y.dig.length ≤ 65536) (hx1 : -1000000 ≤ x.exp ∧ x.exp ≤ 1000000) (hy1 : -1000000 ≤ y.exp ∧ y.exp ≤ 1000000) (h : Heap) : ACalls Tryz.prog 24 [encD x, encD y] h fun r h' => r = .int .i64 (sizeR x y) ∧ h' = h := by
  refine ACalls.of_body tyOK (fun _ => false) Tryz.func24 rfl (by kernel_rfl) (Nat.le_of_ble_eq_true rfl) ?_
  conv => whnf
  refine ACode.draw tyOK mixed (fun _ => false) [(true, 0), (true, 1), (true, 2), (true, 3), (true, 4), (true, 5), (true, 6), (true, 7), (true, 8), (true, 9), (true, 10), (true, 11), (true, 12), (true, 13)] (by kernel_rfl) (by kernel_rfl) ?_
  conv => whnf
  have w1 : IntKind.i64.wrap ((x.dig.length : Int) + x.exp) = x.dig.length + x.exp := wi64 (by omega) (by omega)
  have w2 : IntKind.i64.wrap ((y.dig.length : Int) + y.exp) = y.dig.length + y.exp := wi64 (by omega) (by omega)
  refine branch_of (fun hb => ?_) (fun hb => ?_)
  · have hb : (IntKind.i64.wrap ((x.dig.length : Int) + x.exp) != IntKind.i64.wrap ((y.dig.length : Int) + y.exp)) = true := hb
    rw [w1, w2] at hb
    have hb : (x.dig.length : Int) + x.exp ≠ y.dig.length + y.exp := by simpa using hb
    conv => whnf
    refine branch_of (fun hc => ?_) (fun hc => ?_)
    · have hc : decide (IntKind.i64.wrap ((x.dig.length : Int) + x.exp) < IntKind.i64.wrap ((y.dig.length : Int) + y.exp)) = true := hc
      rw [w1, w2] at hc
      conv => whnf
      exact ⟨_, _, Weak.refl _ _, by rw [sizeR, if_pos hb, if_pos (of_decide_eq_true hc)], rfl⟩
    · have hc : decide (IntKind.i64.wrap ((x.dig.length : Int) + x.exp) < IntKind.i64.wrap ((y.dig.length : Int) + y.exp)) = false := hc
      rw [w1, w2] at hc
      conv => whnf
      exact ⟨_, _, Weak.refl _ _, by rw [sizeR, if_pos hb, if_neg (of_decide_eq_false hc)], rfl⟩
  · have hb : (IntKind.i64.wrap ((x.dig.length : Int) + x.exp) != IntKind.i64.wrap ((y.dig.length : Int) + y.exp)) = false := hb
    rw [w1, w2] at hb
    have hb : ¬ ((x.dig.length : Int) + x.exp ≠ y.dig.length + y.exp) := by simpa using hb
    have hspec : sizeR x y = padCmp x.dig y.dig (max x.dig.length y.dig.length) 0 := by rw [sizeR, if_neg hb]
    conv => whnf
    refine ACode.loop tyOK (fun _ => false) (fun i => i ≤ max x.dig.length y.dig.length ∧ sizeR x y = padCmp x.dig y.dig (max x.dig.length y.dig.length - i) i) (fun i => max x.dig.length y.dig.length - i) [2, 3] [2, 3]
      (fun i => [(7, .int .i64 (i : Int))]) (fun _ => []) (fun _ => h) 0 ⟨Nat.zero_le _, hspec⟩ ⟨rfl, trivial⟩ trivial (HLe.refl _) (fun _ _ => rfl) (fun _ _ => rfl) ?_
    rintro i ⟨hi, hj⟩
    conv => whnf
    -- the round's body, the digits known
    have body : ∀ (p q : UInt8), (i < x.dig.length ∨ i < y.dig.length) → p = x.dig.getD i 48 → q = y.dig.getD i 48 → (p = q → sizeR x y = padCmp x.dig y.dig (max x.dig.length y.dig.length - (i + 1)) (i + 1)) ∧ (p ≠ q → sizeR x y = if p.toNat < q.toNat then -1 else 1) := by
      intro p q hor hp hq
      have e : max x.dig.length y.dig.length - i = (max x.dig.length y.dig.length - (i + 1)) + 1 := by omega
      rw [hj, e]
      subst hp
      subst hq
      refine ⟨fun hpq => ?_, fun hpq => ?_⟩
      · rw [padCmp, if_pos hpq]
      · rw [padCmp, if_neg hpq]
    refine branch_of (fun hc => ?_) (fun hc => ?_)
    · have hc : (i : Int) < (x.dig.length : Int) := of_decide_eq_true hc
      conv => whnf
      refine branch_of (fun _ => ?_) (fun hc' => absurd hc (of_decide_eq_false hc'))
      conv => whnf
      refine ⟨⟨by omega, hc⟩, ?_⟩
      conv => whnf
      refine branch_of (fun hd => ?_) (fun hd => ?_)
      · have hd : (i : Int) < (y.dig.length : Int) := of_decide_eq_true hd
        conv => whnf
        refine ⟨⟨by omega, hd⟩, ?_⟩
        conv => whnf
        obtain ⟨b1, b2⟩ := body (x.dig.getD i 0) (y.dig.getD i 0) (by omega) (getD_in (by omega) _ _) (getD_in (by omega) _ _)
        refine branch_of (fun he => ?_) (fun he => ?_)
        · have he : (((x.dig.getD i 0).toNat : Int) != ((y.dig.getD i 0).toNat : Int)) = true := he
          have hne : x.dig.getD i 0 ≠ y.dig.getD i 0 := fun e => by rw [e] at he; simp at he
          conv => whnf
          refine branch_of (fun hf => ?_) (fun hf => ?_)
          · have hf : ((x.dig.getD i 0).toNat : Int) < ((y.dig.getD i 0).toNat : Int) := of_decide_eq_true hf
            conv => whnf
            exact ⟨_, _, Weak.refl _ _, by rw [b2 hne, if_pos (by omega)], rfl⟩
          · have hf : ¬ ((x.dig.getD i 0).toNat : Int) < ((y.dig.getD i 0).toNat : Int) := of_decide_eq_false hf
            conv => whnf
            exact ⟨_, _, Weak.refl _ _, by rw [b2 hne, if_neg (by omega)], rfl⟩
        · have he : (((x.dig.getD i 0).toNat : Int) != ((y.dig.getD i 0).toNat : Int)) = false := he
          have heq : x.dig.getD i 0 = y.dig.getD i 0 := toNat_int.1 (by simpa using he)
          conv => whnf
          exact ⟨i + 1, ⟨by omega, b1 heq⟩, by omega, ⟨⟨int_congr (wi64 (by omega) (by omega)), trivial⟩, trivial, HLe.refl _, ⟨rfl, rfl, trivial⟩, ⟨rfl, rfl, trivial⟩⟩⟩
      · have hd : ¬ (i : Int) < (y.dig.length : Int) := of_decide_eq_false hd
        conv => whnf
        obtain ⟨b1, b2⟩ := body (x.dig.getD i 0) 48 (by omega) (getD_in (by omega) _ _) (getD_out (by omega) _).symm
        refine branch_of (fun he => ?_) (fun he => ?_)
        · have he : (((x.dig.getD i 0).toNat : Int) != (((48 : UInt8).toNat : Nat) : Int)) = true := he
          have hne : x.dig.getD i 0 ≠ 48 := fun e => by rw [e] at he; simp at he
          conv => whnf
          refine branch_of (fun hf => ?_) (fun hf => ?_)
          · have hf : ((x.dig.getD i 0).toNat : Int) < (((48 : UInt8).toNat : Nat) : Int) := of_decide_eq_true hf
            conv => whnf
            exact ⟨_, _, Weak.refl _ _, by rw [b2 hne, if_pos (by omega)], rfl⟩
          · have hf : ¬ ((x.dig.getD i 0).toNat : Int) < (((48 : UInt8).toNat : Nat) : Int) := of_decide_eq_false hf
            conv => whnf
            exact ⟨_, _, Weak.refl _ _, by rw [b2 hne, if_neg (by omega)], rfl⟩
        · have he : (((x.dig.getD i 0).toNat : Int) != (((48 : UInt8).toNat : Nat) : Int)) = false := he
          have heq : x.dig.getD i 0 = 48 := toNat_int.1 (by simpa using he)
          conv => whnf
          exact ⟨i + 1, ⟨by omega, b1 heq⟩, by omega, ⟨⟨int_congr (wi64 (by omega) (by omega)), trivial⟩, trivial, HLe.refl _, ⟨rfl, rfl, trivial⟩, ⟨rfl, rfl, trivial⟩⟩⟩
    · have hc : ¬ (i : Int) < (x.dig.length : Int) := of_decide_eq_false hc
      conv => whnf
      refine branch_of (fun hd => ?_) (fun hd => ?_)
      · have hd : (i : Int) < (y.dig.length : Int) := of_decide_eq_true hd
        conv => whnf
        refine branch_of (fun hc' => absurd (of_decide_eq_true hc') hc) (fun _ => ?_)
        conv => whnf
        refine branch_of (fun _ => ?_) (fun hd' => absurd hd (of_decide_eq_false hd'))
        conv => whnf
        refine ⟨⟨by omega, hd⟩, ?_⟩
        conv => whnf
        obtain ⟨b1, b2⟩ := body 48 (y.dig.getD i 0) (by omega) (getD_out (by omega) _).symm (getD_in (by omega) _ _)
        refine branch_of (fun he => ?_) (fun he => ?_)
        · have he : ((((48 : UInt8).toNat : Nat) : Int) != ((y.dig.getD i 0).toNat : Int)) = true := he
          have hne : (48 : UInt8) ≠ y.dig.getD i 0 := fun e => by rw [← e] at he; simp at he
          conv => whnf
          refine branch_of (fun hf => ?_) (fun hf => ?_)
          · have hf : (((48 : UInt8).toNat : Nat) : Int) < ((y.dig.getD i 0).toNat : Int) := of_decide_eq_true hf
            conv => whnf
            exact ⟨_, _, Weak.refl _ _, by rw [b2 hne, if_pos (by omega)], rfl⟩
          · have hf : ¬ (((48 : UInt8).toNat : Nat) : Int) < ((y.dig.getD i 0).toNat : Int) := of_decide_eq_false hf
            conv => whnf
            exact ⟨_, _, Weak.refl _ _, by rw [b2 hne, if_neg (by omega)], rfl⟩
        · have he : ((((48 : UInt8).toNat : Nat) : Int) != ((y.dig.getD i 0).toNat : Int)) = false := he
          have heq : (48 : UInt8) = y.dig.getD i 0 := toNat_int.1 (by simpa using he)
          conv => whnf
          exact ⟨i + 1, ⟨by omega, b1 heq⟩, by omega, ⟨⟨int_congr (wi64 (by omega) (by omega)), trivial⟩, trivial, HLe.refl _, ⟨rfl, rfl, trivial⟩, ⟨rfl, rfl, trivial⟩⟩⟩
      · have hd : ¬ (i : Int) < (y.dig.length : Int) := of_decide_eq_false hd
        conv => whnf
        refine ⟨_, _, Weak.refl _ _, ?_, rfl⟩
        rw [hj, show max x.dig.length y.dig.length - i = 0 by omega, padCmp]

/-- What caliperref03.Compare says. -/
def cmp2 (x y : Dec) : Int × Int :=
  if goodD x = false ∨ goodD y = false then (0, 2) else
  if signD x < signD y then (-1, 0) else if signD x > signD y then (1, 0) else if signD x = 0 then (0, 0) else (signD x * sizeR x y, 0)

theorem good_bounds {d : Dec} (hg : goodD d = true) : d.dig.length ≤ 65536 ∧ -1000000 ≤ d.exp ∧ d.exp ≤ 1000000 := by
  unfold goodD at hg
  split at hg
  · rename_i h
    simp at hg
    simp [h, hg.2]
  · simp [fitB] at hg
    omega

theorem signD_cases (d : Dec) : signD d = -1 ∨ signD d = 0 ∨ signD d = 1 := by
  unfold signD
  split
  · simp
  · split <;> simp

theorem padCmp_cases (x y : List UInt8) : ∀ n i, padCmp x y n i = -1 ∨ padCmp x y n i = 0 ∨ padCmp x y n i = 1
  | 0, i => by simp [padCmp]
  | n + 1, i => by
    rw [padCmp]
    split
    · exact padCmp_cases x y n (i + 1)
    · split <;> simp
theorem sizeR_cases (x y : Dec) : sizeR x y = -1 ∨ sizeR x y = 0 ∨ sizeR x y = 1 := by
  unfold sizeR
  split
  · split <;> simp
  · exact padCmp_cases _ _ _ _

theorem chk2_t {d : Dec} (h : (chk2 d != 0) = true) : goodD d = false := by
  cases hh : goodD d with
  | false => rfl
  | true => simp [chk2, hh] at h
theorem chk2_f {d : Dec} (h : (chk2 d != 0) = false) : goodD d = true := by
  cases hh : goodD d with
  | true => rfl
  | false => simp [chk2, hh] at h

theorem c8 (x y : Dec) (hx : x.dig.length ≤ 9223372036854775807) (hy : y.dig.length ≤ 9223372036854775807) (h : Heap) : ACalls Tryz.prog 8 [encD x, encD y] h fun r h' => r = .tuple [.int .i64 (cmp2 x y).1, .int .i64 (cmp2 x y).2] ∧ h' = h := by
  refine ACalls.of_body tyOK (fun _ => false) Tryz.func8 rfl (by kernel_rfl) (Nat.le_of_ble_eq_true rfl) ?_
  conv => whnf
  refine (c22 x hx _).mono ?_
  rintro r h' ⟨rfl, rfl⟩
  conv => whnf
  refine branch_of (fun hb => ?_) (fun hb => ?_)
  · have hb : (chk2 x != 0) = true := hb
    have hg : goodD x = false := chk2_t hb
    conv => whnf
    exact ⟨_, _, Weak.refl _ _, by simp only [cmp2, hg, true_or, if_true], rfl⟩
  · have hb : (chk2 x != 0) = false := hb
    have hg : goodD x = true := chk2_f hb
    conv => whnf
    refine (c22 y hy _).mono ?_
    rintro r h' ⟨rfl, rfl⟩
    conv => whnf
    refine branch_of (fun hc => ?_) (fun hc => ?_)
    · have hc : (chk2 y != 0) = true := hc
      have hg2 : goodD y = false := chk2_t hc
      conv => whnf
      exact ⟨_, _, Weak.refl _ _, by simp only [cmp2, hg2, or_true, if_true], rfl⟩
    · have hc : (chk2 y != 0) = false := hc
      have hg2 : goodD y = true := chk2_f hc
      have hspec : cmp2 x y = if signD x < signD y then (-1, 0) else if signD x > signD y then (1, 0) else if signD x = 0 then (0, 0) else (signD x * sizeR x y, 0) := by
        simp only [cmp2, hg, hg2, Bool.true_eq_false, or_self, if_false]
      conv => whnf
      refine ACode.draw tyOK mixed (fun _ => false) [(true, 0), (true, 2), (false, 1), (false, 3), (true, 4), (true, 5)] (by kernel_rfl) (by kernel_rfl) ?_
      conv => whnf
      refine (sign23 x _).mono ?_
      rintro r h' ⟨rfl, rfl⟩
      conv => whnf
      refine (sign23 y _).mono ?_
      rintro r h' ⟨rfl, rfl⟩
      conv => whnf
      refine branch_of (fun h1 => ?_) (fun h1 => ?_)
      · have h1 : signD x < signD y := of_decide_eq_true h1
        conv => whnf
        exact ⟨_, _, Weak.refl _ _, by rw [hspec, if_pos h1], rfl⟩
      · have h1 : ¬ signD x < signD y := of_decide_eq_false h1
        conv => whnf
        refine branch_of (fun h2 => ?_) (fun h2 => ?_)
        · have h2 : signD x > signD y := of_decide_eq_true h2
          conv => whnf
          exact ⟨_, _, Weak.refl _ _, by rw [hspec, if_neg h1, if_pos h2], rfl⟩
        · have h2 : ¬ signD x > signD y := of_decide_eq_false h2
          conv => whnf
          refine branch_of (fun h3 => ?_) (fun h3 => ?_)
          · have h3 : signD x = 0 := eq_of_beq (show (signD x == 0) = true from h3)
            conv => whnf
            exact ⟨_, _, Weak.refl _ _, by rw [hspec, if_neg h1, if_neg h2, if_pos h3], rfl⟩
          · have h3 : ¬ signD x = 0 := ne_of_beq_false (show (signD x == 0) = false from h3)
            conv => whnf
            obtain ⟨g1, g2⟩ := good_bounds hg
            obtain ⟨k1, k2⟩ := good_bounds hg2
            refine (c24 x y g1 k1 g2 k2 _).mono ?_
            rintro r h' ⟨rfl, rfl⟩
            conv => whnf
            refine ⟨_, _, Weak.refl _ _, ?_, rfl⟩
            have : IntKind.i64.wrap (signD x * sizeR x y) = signD x * sizeR x y := by
              rcases signD_cases x with e | e | e <;> rcases sizeR_cases x y with f | f | f <;> rw [e, f] <;> decide
            rw [hspec, if_neg h1, if_neg h2, if_neg h3, this]

end Go.Proofs.YtdgnciclfeojnaaGreatDoor
