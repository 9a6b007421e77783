/- A part of the proof (own lemmas, no condition beyond those that each theorem states): facts on the functions that the statements of this seat reach. -/
import Derived.Test.YtdgnciclfeojnaaGreatDoorOwnD3
set_option maxRecDepth 100000
set_option linter.unusedVariables false
set_option linter.unusedSectionVars false
set_option linter.unusedSimpArgs false
namespace Go.Proofs.YtdgnciclfeojnaaGreatDoor
open Go Go.Lift

def digits10 : List UInt8 := [48, 49, 50, 51, 52, 53, 54, 55, 56, 57]
def setD : List AV := (List.range 256).map fun i => .bool (Nat.ble 48 i && Nat.ble i 57)

theorem c41 (h : Heap) : ACalls Tryz.prog 41 [.str digits10] h fun r h' => r = .tuple [.agg setD, .bool true] ∧ h' = h := by
  refine ACalls.of_body tyOK (fun _ => false) Tryz.func41 rfl (by kernel_rfl) (Nat.le_of_ble_eq_true rfl) ?_
  conv => whnf
  refine ACode.rounds 11 ?_
  iterate 10
    refine ARounds.step tyOK (fun _ => false) ?_
    conv => whnf
    refine ⟨by decide, ?_⟩
    conv => whnf
    refine ⟨by decide, ?_⟩
    conv => whnf
  refine ARounds.step tyOK (fun _ => false) ?_
  conv => whnf
  refine ⟨_, _, Weak.refl _ _, ?_, rfl⟩
  kernel_rfl

theorem setD_length : setD.length = 256 := by simp [setD]
theorem setD_get (b : UInt8) : setD.getD b.toNat .undef = .bool (isDigit b) := by
  have hb : b.toNat < 256 := b.toNat_lt
  have e1 : decide (48 ≤ b) = Nat.ble 48 b.toNat := by
    have : (48 ≤ b) ↔ 48 ≤ b.toNat := u8_le
    rw [Bool.eq_iff_iff]; simp [this]
  have e2 : decide (b ≤ 57) = Nat.ble b.toNat 57 := by
    have : (b ≤ 57) ↔ b.toNat ≤ 57 := u8_le
    rw [Bool.eq_iff_iff]; simp [this]
  simp only [setD, List.getD_eq_getElem?_getD, List.getElem?_map, List.getElem?_range hb, Option.map_some, Option.getD_some, isDigit, e1, e2]

theorem c56 (b : UInt8) (id : Nat) (h : Heap) (hid : h id = some (.cells setD)) : ACalls Tryz.prog 56 [.ptr id 0, .int .u8 b.toNat] h fun r h' => r = .bool (isDigit b) ∧ h' = h := by
  refine ACalls.of_body tyOK (fun _ => false) Tryz.func56 rfl (by kernel_rfl) (Nat.le_of_ble_eq_true rfl) ?_
  conv => whnf
  have hb : b.toNat < 256 := b.toNat_lt
  refine ⟨⟨by omega, by show ((b.toNat : Nat) : Int) < ((256 : Nat) : Int); omega⟩, ?_⟩
  conv => whnf
  refine ⟨setD, hid, by rw [setD_length]; show 0 + b.toNat * 1 + 1 ≤ 256; omega, ?_⟩
  conv => whnf
  refine ⟨.bool (isDigit b), ?_, ?_⟩
  · show setD.getD (0 + b.toNat * 1) .undef = _
    rw [show 0 + b.toNat * 1 = b.toNat by omega]; exact setD_get b
  conv => whnf
  exact ⟨_, _, Weak.refl _ _, rfl, rfl⟩

def trimL (f : UInt8 → Bool) (s : List UInt8) : List UInt8 := s.dropWhile f
def trimR (f : UInt8 → Bool) (s : List UInt8) : List UInt8 := (s.reverse.dropWhile f).reverse

theorem trimL_cons {f : UInt8 → Bool} {s : List UInt8} (hp : 0 < s.length) : trimL f s = if f (s.getD 0 0) then trimL f (s.drop 1) else s := by
  cases s with
  | nil => simp at hp
  | cons a r => simp only [trimL, List.dropWhile_cons]; simp
theorem trimR_last {f : UInt8 → Bool} {s : List UInt8} (hp : 0 < s.length) : trimR f s = if f (s.getD (s.length - 1) 0) then trimR f (s.take (s.length - 1)) else s := by
  have hs : s = s.take (s.length - 1) ++ [s.getD (s.length - 1) 0] := by
    have h1 : s.drop (s.length - 1) = [s.getD (s.length - 1) 0] := by
      rw [List.drop_eq_getElem_cons (by omega)]
      simp [List.getD_eq_getElem?_getD, show s.length - 1 < s.length by omega, show s.length - 1 + 1 = s.length by omega]
    rw [← h1, List.take_append_drop]
  generalize hl : s.getD (s.length - 1) 0 = a at hs
  generalize s.take (s.length - 1) = r at hs
  subst hs
  simp only [trimR, List.reverse_append, List.reverse_singleton, List.singleton_append, List.dropWhile_cons]
  split <;> simp

theorem c42 (s : List UInt8) (hs : s.length ≤ 9223372036854775807) (id : Nat) (h : Heap) (hid : h id = some (.cells setD)) : ACalls Tryz.prog 42 [.str s, .ptr id 0] h fun r h' => r = .str (trimL isDigit s) ∧ h' = h := by
  refine ACalls.of_body tyOK (fun _ => false) Tryz.func42 rfl (by kernel_rfl) (Nat.le_of_ble_eq_true rfl) ?_
  conv => whnf
  refine ACode.loop tyOK (fun _ => false) (fun u : List UInt8 => trimL isDigit u = trimL isDigit s) (fun u => u.length) [1] [] (fun u => [(0, .str u)]) (fun _ => []) (fun _ => h) s rfl ⟨rfl, trivial⟩ trivial (HLe.refl _) (fun _ _ => rfl) (fun _ _ => rfl) ?_
  rintro u hu
  conv => whnf
  refine branch_of (fun hc => ?_) (fun hc => ?_)
  · have hc : (u.length : Int) > 0 := of_decide_eq_true hc
    conv => whnf
    refine ⟨⟨by omega, by show (0 : Int) < (u.length : Int); omega⟩, ?_⟩
    conv => whnf
    refine (c56 (u.getD 0 0) id h hid).mono ?_
    rintro r h' ⟨rfl, rfl⟩
    conv => whnf
    refine branch_of (fun he => ?_) (fun he => ?_)
    · have he : (!isDigit (u.getD 0 0)) = true := he
      conv => whnf
      refine ⟨_, _, Weak.refl _ _, ?_, rfl⟩
      rw [← hu, trimL_cons (by omega)]
      simp only [Bool.not_eq_true'] at he
      rw [he]; rfl
    · have he : (!isDigit (u.getD 0 0)) = false := he
      conv => whnf
      refine ⟨by show (0 : Int) ≤ 1 ∧ (1 : Int) ≤ (u.length : Int) ∧ (u.length : Int) ≤ u.length; omega, ?_⟩
      conv => whnf
      refine ⟨u.drop 1, ?_, by simp; omega, ⟨⟨rfl, trivial⟩, trivial, HLe.refl _, ⟨rfl, trivial⟩, trivial⟩⟩
      show trimL isDigit (u.drop 1) = _
      rw [← hu, trimL_cons (s := u) (by omega)]
      simp only [Bool.not_eq_false'] at he
      rw [he]; rfl
  · have hc : ¬ (u.length : Int) > 0 := of_decide_eq_false hc
    conv => whnf
    refine ⟨_, _, Weak.refl _ _, ?_, rfl⟩
    have : u = [] := by apply List.eq_nil_of_length_eq_zero; omega
    rw [← hu, this]; rfl

theorem c43 (s : List UInt8) (hs : s.length ≤ 9223372036854775807) (id : Nat) (h : Heap) (hid : h id = some (.cells setD)) : ACalls Tryz.prog 43 [.str s, .ptr id 0] h fun r h' => r = .str (trimR isDigit s) ∧ h' = h := by
  refine ACalls.of_body tyOK (fun _ => false) Tryz.func43 rfl (by kernel_rfl) (Nat.le_of_ble_eq_true rfl) ?_
  conv => whnf
  refine ACode.loop tyOK (fun _ => false) (fun u : List UInt8 => u.length ≤ s.length ∧ trimR isDigit u = trimR isDigit s) (fun u => u.length) [1] [] (fun u => [(0, .str u)]) (fun _ => []) (fun _ => h) s ⟨Nat.le_refl _, rfl⟩ ⟨rfl, trivial⟩ trivial (HLe.refl _) (fun _ _ => rfl) (fun _ _ => rfl) ?_
  rintro u ⟨hle, hu⟩
  conv => whnf
  refine branch_of (fun hc => ?_) (fun hc => ?_)
  · have hc : (u.length : Int) > 0 := of_decide_eq_true hc
    have hla := last_at (s := u) (by omega) (by omega)
    conv => whnf
    refine ⟨by rw [hla]; omega, ?_⟩
    conv => whnf
    have hbt : bt u (IntKind.i64.wrap ((u.length : Int) - 1)) = ((u.getD (u.length - 1) 0).toNat : Int) := by rw [hla]; rfl
    have hk : ACalls Tryz.prog 56 [.ptr id 0, .int .u8 (bt u (IntKind.i64.wrap ((u.length : Int) - 1)))] h fun r h' => r = .bool (isDigit (u.getD (u.length - 1) 0)) ∧ h' = h := by rw [hbt]; exact c56 (u.getD (u.length - 1) 0) id h hid
    refine hk.mono ?_
    rintro r h' ⟨rfl, rfl⟩
    conv => whnf
    refine branch_of (fun he => ?_) (fun he => ?_)
    · have he : (!isDigit (u.getD (u.length - 1) 0)) = true := he
      conv => whnf
      refine ⟨_, _, Weak.refl _ _, ?_, rfl⟩
      rw [← hu, trimR_last (by omega)]
      simp only [Bool.not_eq_true'] at he
      rw [he]; rfl
    · have he : (!isDigit (u.getD (u.length - 1) 0)) = false := he
      conv => whnf
      refine ⟨by rw [hla]; omega, ?_⟩
      conv => whnf
      have e1 : u.take (IntKind.i64.wrap ((u.length : Int) - 1)).toNat = u.take (u.length - 1) := by rw [hla]; simp
      refine ⟨u.take (u.length - 1), ⟨by simp; omega, ?_⟩, by simp; omega, ⟨⟨congrArg AV.str e1, trivial⟩, trivial, HLe.refl _, ⟨rfl, trivial⟩, trivial⟩⟩
      rw [← hu, trimR_last (s := u) (by omega)]
      simp only [Bool.not_eq_false'] at he
      rw [he]; rfl
  · have hc : ¬ (u.length : Int) > 0 := of_decide_eq_false hc
    conv => whnf
    refine ⟨_, _, Weak.refl _ _, ?_, rfl⟩
    have : u = [] := by apply List.eq_nil_of_length_eq_zero; omega
    rw [← hu, this]; rfl

/-- strings.Trim by the digits. -/
def trimD (s : List UInt8) : List UInt8 := trimL isDigit (trimR isDigit s)
theorem dropWhile_le (f : UInt8 → Bool) : ∀ s : List UInt8, (s.dropWhile f).length ≤ s.length
  | [] => Nat.le_refl _
  | a :: r => by
    rw [List.dropWhile_cons]
    split
    · exact Nat.le_succ_of_le (dropWhile_le f r)
    · exact Nat.le_refl _
theorem trimR_le (f : UInt8 → Bool) (s : List UInt8) : (trimR f s).length ≤ s.length := by
  simp only [trimR, List.length_reverse]
  exact Nat.le_trans (dropWhile_le _ _) (by simp)

theorem c25 (s : List UInt8) (hs : s.length ≤ 9223372036854775807) (h : Heap) : ACalls Tryz.prog 25 [.str s, .str digits10] h fun r h' => r = .str (trimD s) ∧ h' = h := by
  refine ACalls.of_body tyOK (fun d => Nat.beq d 5) Tryz.func25 rfl (by kernel_rfl) (Nat.le_of_ble_eq_true rfl) ?_
  conv => whnf
  refine branch_of (fun hb => ?_) (fun hb => ?_)
  · have hb : s = [] := eq_of_beq (show (s == []) = true from hb)
    conv => whnf
    refine ⟨_, _, Weak.refl _ _, ?_, rfl⟩
    rw [hb]; rfl
  · conv => whnf
    refine (c41 h).mono ?_
    rintro r h' ⟨rfl, rfl⟩
    conv => whnf
    intro id hid
    conv => whnf
    refine ⟨_, updH_same _ _ _, Nat.le_of_ble_eq_true rfl, ?_⟩
    conv => whnf
    refine (c43 s hs id _ ((updH_same _ _ _).trans (congrArg (fun c => some (AObj.cells c)) (putAll rfl)))).mono ?_
    rintro r h2 ⟨rfl, rfl⟩
    conv => whnf
    refine (c42 (trimR isDigit s) (Nat.le_trans (trimR_le _ _) hs) id _ ((updH_same _ _ _).trans (congrArg (fun c => some (AObj.cells c)) (putAll rfl)))).mono ?_
    rintro r h2 ⟨rfl, rfl⟩
    conv => whnf
    exact ⟨_, _, Weak.le (hle_new2 hid), rfl, rfl⟩

end Go.Proofs.YtdgnciclfeojnaaGreatDoor
