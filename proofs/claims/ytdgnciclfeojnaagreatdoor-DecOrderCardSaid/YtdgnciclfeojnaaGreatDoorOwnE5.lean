/- A part of the proof (own lemmas, no condition beyond those that each theorem states): facts on the functions that the statements of this seat reach. -/
import Derived.Test.YtdgnciclfeojnaaGreatDoorOwnE4
set_option maxRecDepth 100000
set_option linter.unusedVariables false
set_option linter.unusedSectionVars false
set_option linter.unusedSimpArgs false
namespace Go.Proofs.YtdgnciclfeojnaaGreatDoor
open Go Go.Lift Go.RowKit

/-! ### nat: limbs -/
abbrev U : Int → AV := AV.int .u32
def limbs (ns : List Int) (c : Cap) : AV := .sl 1 false (ns.map U) c

theorem mapU_get {ns : List Int} {i : Nat} (h : i < ns.length) : (ns.map U).getD i .undef = U (ns.getD i 0) := by
  simp [List.getD_eq_getElem?_getD, h]

def trimN : List Int → Nat → List Int
  | ns, 0 => []
  | ns, n + 1 => if ns.getD n 0 = 0 then trimN ns n else ns.take (n + 1)

theorem c30 (ns : List Int) (c : Cap) (hl : ns.length ≤ 9223372036854775807) (h : Heap) : ACalls Tryz.prog 30 [limbs ns c] h fun r h' => r = limbs (trimN ns ns.length) .full ∧ h' = h := by
  refine ACalls.of_body tyOK (fun _ => false) Tryz.func30 rfl (by kernel_rfl) (Nat.le_of_ble_eq_true rfl) ?_
  conv => whnf
  have hml : (ns.map U).length = ns.length := by simp
  refine ACode.loop tyOK (fun _ => false) (fun i : Nat => i ≤ ns.length ∧ trimN ns i = trimN ns ns.length) (fun i => i) [0] [] (fun i => [(3, .int .i64 (i : Int))]) (fun _ => []) (fun _ => h) ns.length ⟨Nat.le_refl _, rfl⟩ ⟨by show AV.int .i64 ((ns.map U).length : Int) = _; rw [hml], trivial⟩ trivial (HLe.refl _) (fun _ _ => rfl) (fun _ _ => rfl) ?_
  rintro i ⟨hi, hinv⟩
  have fin : ∀ k : Nat, (k : Int) = i → k = i := fun k h => by omega
  conv => whnf
  refine branch_of (fun hc => ?_) (fun hc => ?_)
  · have hc : (i : Int) > 0 := of_decide_eq_true hc
    have hw : IntKind.i64.wrap ((i : Int) - 1) = ((i - 1 : Nat) : Int) := by rw [wi64 (by omega) (by omega)]; omega
    conv => whnf
    refine ⟨by rw [hw, hml]; omega, ?_⟩
    conv => whnf
    refine ⟨U (ns.getD (i - 1) 0), ?_, ?_⟩
    · rw [hw]; exact mapU_get (by omega)
    conv => whnf
    have hstep : trimN ns i = if ns.getD (i - 1) 0 = 0 then trimN ns (i - 1) else ns.take i := by
      obtain ⟨k, rfl⟩ : ∃ k, i = k + 1 := ⟨i - 1, by omega⟩
      rw [trimN]; rfl
    refine branch_of (fun he => ?_) (fun he => ?_)
    · have he : ns.getD (i - 1) 0 = 0 := eq_of_beq (show (ns.getD (i - 1) 0 == 0) = true from he)
      rw [if_pos he] at hstep
      conv => whnf
      exact ⟨i - 1, ⟨by omega, by rw [← hstep]; exact hinv⟩, by omega, ⟨⟨int_congr hw, trivial⟩, trivial, HLe.refl _, ⟨rfl, trivial⟩, trivial⟩⟩
    · have he : ¬ ns.getD (i - 1) 0 = 0 := ne_of_beq_false (show (ns.getD (i - 1) 0 == 0) = false from he)
      rw [if_neg he] at hstep
      conv => whnf
      refine ⟨by rw [hml]; omega, ?_⟩
      conv => whnf
      refine ⟨_, _, Weak.refl _ _, ?_, rfl⟩
      rw [← hinv, hstep]
      show AV.sl 1 false ((ns.map U).take ((i : Int)).toNat) .full = _
      simp [limbs, List.map_take]
  · have hc : ¬ (i : Int) > 0 := of_decide_eq_false hc
    have hz : i = 0 := by omega
    subst hz
    conv => whnf
    refine ⟨by rw [hml]; show (0 : Int) ≤ 0 ∧ (0 : Int) ≤ 0 ∧ (0 : Int) = 0 ∧ (0 : Int) ≤ (ns.length : Int); omega, ?_⟩
    conv => whnf
    refine ⟨_, _, Weak.refl _ _, ?_, rfl⟩
    rw [← hinv, trimN]
    show AV.sl 1 false ((ns.map U).take ((0 : Nat) : Int).toNat) .full = _
    simp [limbs]

def maxN : List Int → Int
  | [] => 0
  | n :: r => r.foldl (fun m x => if x > m then x else m) n

theorem c53 (n : Int) (ns : List Int) (c : Cap) (hl : (n :: ns).length ≤ 9223372036854775807) (h : Heap) : ACalls Tryz.prog 53 [limbs (n :: ns) c] h fun r h' => r = U (maxN (n :: ns)) ∧ h' = h := by
  refine ACalls.of_body tyOK (fun _ => false) Tryz.func53 rfl (by kernel_rfl) (Nat.le_of_ble_eq_true rfl) ?_
  have hml : ((n :: ns).map U).length = ns.length + 1 := by simp
  conv => whnf
  refine ⟨by rw [hml]; omega, ?_⟩
  conv => whnf
  refine ⟨U n, rfl, ?_⟩
  conv => whnf
  refine ACode.loop tyOK (fun _ => false) (fun i : Nat => i ≤ ns.length) (fun i => ns.length - i) [0] [] (fun i => [(4, .int .i64 ((i + 1 : Nat) : Int)), (3, U ((ns.take i).foldl (fun m x => if x > m then x else m) n))]) (fun _ => []) (fun _ => h) 0 (Nat.zero_le _) ⟨rfl, rfl, trivial⟩ trivial (HLe.refl _) (fun _ _ => rfl) (fun _ _ => rfl) ?_
  intro i hi
  conv => whnf
  refine branch_of (fun hc => ?_) (fun hc => ?_)
  · have hc : ((i + 1 : Nat) : Int) < (((n :: ns).map U).length : Int) := of_decide_eq_true hc
    rw [hml] at hc
    conv => whnf
    refine ⟨by rw [hml]; exact ⟨by omega, hc⟩, ?_⟩
    conv => whnf
    refine ⟨U (ns.getD i 0), ?_, ?_⟩
    · exact mapU_get (ns := n :: ns) (i := i + 1) (by simp; omega)
    conv => whnf
    refine ⟨i + 1, by omega, by omega, ⟨⟨int_congr (by rw [wi64 (by omega) (by simp at hl; omega)]; omega), ?_, trivial⟩, trivial, HLe.refl _, ⟨rfl, trivial⟩, trivial⟩⟩
    rw [List.take_succ_eq_append_getElem (show i < ns.length by omega), List.foldl_append]
    simp only [List.foldl_cons, List.foldl_nil]
    have : ns[i] = ns.getD i 0 := by simp [List.getD_eq_getElem?_getD, show i < ns.length by omega]
    rw [this]; rfl
  · have hc : ¬ ((i + 1 : Nat) : Int) < (((n :: ns).map U).length : Int) := of_decide_eq_false hc
    rw [hml] at hc
    conv => whnf
    refine ⟨_, _, Weak.refl _ _, ?_, rfl⟩
    rw [show ns.take i = ns by rw [List.take_of_length_le (by omega)]]; rfl

def fitsN (ns : List Int) : Bool := (ns.length == 0) || ((ns.getD (ns.length - 1) 0 != 0) && decide (maxN ns < 1000000000))

theorem c29 (ns : List Int) (c : Cap) (hl : ns.length ≤ 9223372036854775807) (h : Heap) : ACalls Tryz.prog 29 [limbs ns c] h fun r h' => r = .bool (fitsN ns) ∧ h' = h := by
  refine ACalls.of_body tyOK (fun _ => false) Tryz.func29 rfl (by kernel_rfl) (Nat.le_of_ble_eq_true rfl) ?_
  have hml : (ns.map U).length = ns.length := by simp
  have h0 : ((((ns.map U).length : Nat) : Int) == 0) = (ns.length == 0) := by
    rw [hml]
    generalize ns.length = k
    cases k <;> rfl
  conv => whnf
  refine branch_of (fun hb => ?_) (fun hb => ?_)
  · have hb : ((((ns.map U).length : Nat) : Int) == 0) = true := hb
    rw [h0] at hb
    conv => whnf
    exact ⟨_, _, Weak.refl _ _, by rw [fitsN, hb]; rfl, rfl⟩
  have hb : ((((ns.map U).length : Nat) : Int) == 0) = false := hb
  rw [h0] at hb
  have hp : 0 < ns.length := Nat.pos_of_ne_zero (by simpa using hb)
  have hw : IntKind.i64.wrap ((((ns.map U).length : Nat) : Int) - 1) = ((ns.length - 1 : Nat) : Int) := by rw [hml, wi64 (by omega) (by omega)]; omega
  conv => whnf
  refine ⟨by rw [hw, hml]; omega, ?_⟩
  conv => whnf
  refine ⟨U (ns.getD (ns.length - 1) 0), ?_, ?_⟩
  · rw [hw]; exact mapU_get (by omega)
  conv => whnf
  refine branch_of (fun hc => ?_) (fun hc => ?_)
  · have hc : (ns.getD (ns.length - 1) 0 != 0) = true := hc
    conv => whnf
    obtain ⟨n, r, rfl⟩ : ∃ n r, ns = n :: r := by cases ns with | nil => simp at hp | cons n r => exact ⟨n, r, rfl⟩
    refine (c53 n r c hl _).mono ?_
    rintro r' h' ⟨rfl, rfl⟩
    conv => whnf
    exact ⟨_, _, Weak.refl _ _, by rw [fitsN, hb, hc]; rfl, rfl⟩
  · have hc : (ns.getD (ns.length - 1) 0 != 0) = false := hc
    conv => whnf
    exact ⟨_, _, Weak.refl _ _, by rw [fitsN, hb, hc]; rfl, rfl⟩

theorem c31 (a b : List Int) (ca cb : Cap) (ha : a.length ≤ 9223372036854775807) (hb : b.length ≤ 9223372036854775807) (h : Heap) : ACalls Tryz.prog 31 [limbs a ca, limbs b cb] h fun r h' => r = .int .i64 (if fitsN a && fitsN b then 0 else 2) ∧ h' = h := by
  refine ACalls.of_body tyOK (fun _ => false) Tryz.func31 rfl (by kernel_rfl) (Nat.le_of_ble_eq_true rfl) ?_
  conv => whnf
  refine (c29 a ca ha _).mono ?_
  rintro r h' ⟨rfl, rfl⟩
  conv => whnf
  refine branch_of (fun h1 => ?_) (fun h1 => ?_)
  · have h1 : fitsN a = false := by simpa using (show (!fitsN a) = true from h1)
    conv => whnf
    exact ⟨_, _, Weak.refl _ _, by rw [h1]; rfl, rfl⟩
  · have h1 : fitsN a = true := by simpa using (show (!fitsN a) = false from h1)
    conv => whnf
    refine (c29 b cb hb _).mono ?_
    rintro r h' ⟨rfl, rfl⟩
    conv => whnf
    refine branch_of (fun h2 => ?_) (fun h2 => ?_)
    · have h2 : fitsN b = false := by simpa using (show (!fitsN b) = true from h2)
      conv => whnf
      exact ⟨_, _, Weak.refl _ _, by rw [h1, h2]; rfl, rfl⟩
    · have h2 : fitsN b = true := by simpa using (show (!fitsN b) = false from h2)
      conv => whnf
      exact ⟨_, _, Weak.refl _ _, by rw [h1, h2]; rfl, rfl⟩

end Go.Proofs.YtdgnciclfeojnaaGreatDoor
