/- A part of the proof (own lemmas, no condition beyond those that each theorem states): facts on the functions that the statements of this seat reach. -/
import Derived.Test.YtobpjbcgmdbncaaGreatDoorOwnVA
import Derived.Test.YtobpjbcgmdbncaaGreatDoorLiftXE
set_option maxRecDepth 1000000
set_option linter.unusedVariables false
set_option linter.unusedSectionVars false
set_option linter.unusedSimpArgs false
namespace Go.Proofs.YtobpjbcgmdbncaaGreatDoor
open Go Go.Lift Go.RowKit

structure Dec where
  neg : Bool
  dig : List UInt8
  exp : Int
def encD (d : Dec) : AV := .agg [.bool d.neg, .str d.dig, .int .i64 d.exp]

def isDigit (b : UInt8) : Bool := (48 ≤ b && b ≤ 57)

theorem u8_le {a b : UInt8} : a ≤ b ↔ a.toNat ≤ b.toNat := UInt8.le_iff_toNat_le
theorem toNat_int {b c : UInt8} : ((b.toNat : Int) = (c.toNat : Int)) ↔ b = c := by
  rw [Int.ofNat_inj, UInt8.toNat_inj]
theorem beq_toNat (b c : UInt8) : ((b.toNat : Int) == (c.toNat : Int)) = (b == c) := by
  by_cases h : b = c
  · subst h; simp
  · have : ¬ ((b.toNat : Int) = (c.toNat : Int)) := fun e => h (toNat_int.1 e)
    rw [beq_eq_false_iff_ne.2 this, beq_eq_false_iff_ne.2 h]

theorem c38 (b : UInt8) (h : Heap) : ACalls Tryz.prog 78 [.int .u8 b.toNat] h fun r h' => r = .bool (isDigit b) ∧ h' = h := by
  refine ACalls.of_body tyOK (fun _ => false) Tryz.func78 rfl (by kernel_rfl) (Nat.le_of_ble_eq_true rfl) ?_
  conv => whnf
  refine branch_of (fun hb => ?_) (fun hb => ?_)
  · conv => whnf
    refine ⟨_, _, Weak.refl _ _, ?_, rfl⟩
    have hb : (b.toNat : Int) ≥ 48 := of_decide_eq_true hb
    have e : decide (48 ≤ b) = true := by rw [decide_eq_true_iff, u8_le]; simp; omega
    have e2 : decide ((b.toNat : Int) ≤ 57) = decide (b ≤ 57) := by
      have : ((b.toNat : Int) ≤ 57) ↔ b ≤ 57 := by rw [u8_le]; simp; omega
      simp [this]
    unfold isDigit; rw [e, ← e2]; rfl
  · conv => whnf
    refine ⟨_, _, Weak.refl _ _, ?_, rfl⟩
    have hb : ¬ (b.toNat : Int) ≥ 48 := of_decide_eq_false hb
    have e : decide (48 ≤ b) = false := by rw [decide_eq_false_iff_not, u8_le]; simp; omega
    unfold isDigit; rw [e]; rfl

/-- The canonical form of digits and exponent. -/
def fitB (d : Dec) : Bool := !(decide ((d.dig.length : Int) > 65536) || (d.dig.getD 0 0 == 48) || (d.dig.getD (d.dig.length - 1) 0 == 48) || decide (d.exp < -1000000) || decide (d.exp > 1000000))
def goodD (d : Dec) : Bool := if d.dig = [] then !d.neg && (d.exp == 0) else d.dig.all isDigit && fitB d

theorem all_of {s : List UInt8} (f : UInt8 → Bool) (h : ∀ j, j < s.length → f (s.getD j 0) = true) : s.all f = true := by
  rw [List.all_eq_true]
  intro x hx
  obtain ⟨i, hi, rfl⟩ := List.getElem_of_mem hx
  have := h i hi
  simpa [List.getD_eq_getElem?_getD, hi] using this
theorem not_all {s : List UInt8} (f : UInt8 → Bool) (j : Nat) (hj : j < s.length) (h : f (s.getD j 0) = false) : s.all f = false := by
  rw [List.all_eq_false]
  exact ⟨s[j], by simp, by simpa [List.getD_eq_getElem?_getD, hj] using h⟩

theorem last_at {s : List UInt8} (hl : s.length ≤ 9223372036854775807) (hp : 0 < s.length) : IntKind.i64.wrap ((s.length : Int) - 1) = ((s.length - 1 : Nat) : Int) := by
  rw [wi64 (by omega) (by omega)]; omega

/-- What caliperref03.Check says. -/
def chk2 (d : Dec) : Int := if goodD d then 0 else 2

theorem c22 (d : Dec) (hl : d.dig.length ≤ 9223372036854775807) (h : Heap) : ACalls Tryz.prog 38 [encD d] h fun r h' => r = .int .i64 (chk2 d) ∧ h' = h := by
  refine ACalls.of_body tyOK (fun _ => false) Tryz.func38 rfl (by kernel_rfl) (Nat.le_of_ble_eq_true rfl) ?_
  conv => whnf
  refine branch_of (fun hb => ?_) (fun hb => ?_)
  · have hb : d.dig = [] := by
      have : ((d.dig.length : Int) == 0) = true := hb
      simpa using this
    conv => whnf
    refine branch_of (fun hc => ?_) (fun hc => ?_)
    · conv => whnf
      exact ⟨_, _, Weak.refl _ _, by simp [chk2, goodD, hb, hc], rfl⟩
    · conv => whnf
      refine branch_of (fun hd => ?_) (fun hd => ?_)
      · conv => whnf
        have hd : (d.exp != 0) = true := hd
        exact ⟨_, _, Weak.refl _ _, by simp at hd; simp [chk2, goodD, hb, hc, hd], rfl⟩
      · conv => whnf
        have hd : (d.exp != 0) = false := hd
        exact ⟨_, _, Weak.refl _ _, by simp at hd; simp [chk2, goodD, hb, hc, hd], rfl⟩
  · have hb : ((d.dig.length : Int) == 0) = false := hb
    have hne : d.dig ≠ [] := by intro e; rw [e] at hb; cases hb
    have hpos : 0 < d.dig.length := List.length_pos_iff.2 hne
    have hla := last_at hl hpos
    conv => whnf
    refine ACode.loop tyOK (fun _ => false) (fun i => i ≤ d.dig.length ∧ ∀ j, j < i → isDigit (d.dig.getD j 0) = true) (fun i => d.dig.length - i) [1, 3] [1] (fun i => [(4, .int .i64 (i : Int))]) (fun _ => []) (fun _ => h) 0 ⟨Nat.zero_le _, fun j hj => by omega⟩ ⟨rfl, trivial⟩ trivial (HLe.refl _) (fun _ _ => rfl) (fun _ _ => rfl) ?_
    rintro i ⟨hi, hj⟩
    conv => whnf
    refine branch_of (fun hc => ?_) (fun hc => ?_)
    · conv => whnf
      have hc : (i : Int) < d.dig.length := of_decide_eq_true hc
      refine ⟨⟨by omega, hc⟩, ?_⟩
      conv => whnf
      refine (c38 (d.dig.getD i 0) h).mono ?_
      rintro r h' ⟨rfl, rfl⟩
      conv => whnf
      refine branch_of (fun he => ?_) (fun he => ?_)
      · conv => whnf
        have he : (!isDigit (d.dig.getD i 0)) = true := he
        refine ⟨_, _, Weak.refl _ _, ?_, rfl⟩
        have := not_all (s := d.dig) isDigit i (by omega) (by simpa using he)
        simp only [chk2, goodD, hne, this, if_false, Bool.false_and]; rfl
      · conv => whnf
        have he : (!isDigit (d.dig.getD i 0)) = false := he
        refine ⟨i + 1, ⟨by omega, fun j hj' => ?_⟩, by omega, ⟨⟨int_congr (wi64 (by omega) (by omega)), trivial⟩, trivial, HLe.refl _, ⟨rfl, rfl, trivial⟩, ⟨rfl, trivial⟩⟩⟩
        by_cases e : j = i
        · subst e; simpa using he
        · exact hj j (by omega)
    · conv => whnf
      have hc : ¬ ((i : Int) < d.dig.length) := of_decide_eq_false hc
      have hall : d.dig.all isDigit = true := all_of isDigit fun j hj' => hj j (by omega)
      have hspec : chk2 d = if fitB d then 0 else 2 := by simp only [chk2, goodD, hne, hall, if_false, Bool.true_and]
      refine branch_of (fun h1 => ?_) (fun h1 => ?_)
      · have h1 : decide ((d.dig.length : Int) > 65536) = true := h1
        conv => whnf
        refine ⟨_, _, Weak.refl _ _, ?_, rfl⟩
        rw [hspec]; simp only [fitB, h1]; rfl
      · have h1 : decide ((d.dig.length : Int) > 65536) = false := h1
        conv => whnf
        refine ⟨⟨by omega, by show (0 : Int) < (d.dig.length : Int); omega⟩, ?_⟩
        conv => whnf
        have fin : ∀ (b c : Bool), (d.dig.getD 0 0 == 48) = b → (b = false → (d.dig.getD (d.dig.length - 1) 0 == 48) = c) → True := fun _ _ _ _ => trivial
        have hb0 : ((bt d.dig 0 : Int) == 48) = (d.dig.getD 0 0 == 48) := beq_toNat (d.dig.getD 0 0) 48
        refine branch_of (fun h2 => ?_) (fun h2 => ?_)
        · have h2 : ((bt d.dig 0 : Int) == 48) = true := h2
          rw [hb0] at h2
          conv => whnf
          refine ⟨_, _, Weak.refl _ _, ?_, rfl⟩
          rw [hspec]; simp only [fitB, h1, h2]; rfl
        · have h2 : ((bt d.dig 0 : Int) == 48) = false := h2
          rw [hb0] at h2
          conv => whnf
          refine ⟨⟨by rw [hla]; omega, by rw [hla]; omega⟩, ?_⟩
          conv => whnf
          have hb1 : ((bt d.dig (IntKind.i64.wrap ((d.dig.length : Int) - 1)) : Int) == 48) = (d.dig.getD (d.dig.length - 1) 0 == 48) := by rw [hla]; exact beq_toNat (d.dig.getD (d.dig.length - 1) 0) 48
          refine branch_of (fun h3 => ?_) (fun h3 => ?_)
          · have h3 : ((bt d.dig (IntKind.i64.wrap ((d.dig.length : Int) - 1)) : Int) == 48) = true := h3
            rw [hb1] at h3
            conv => whnf
            refine ⟨_, _, Weak.refl _ _, ?_, rfl⟩
            rw [hspec]; simp only [fitB, h1, h2, h3]; rfl
          · have h3 : ((bt d.dig (IntKind.i64.wrap ((d.dig.length : Int) - 1)) : Int) == 48) = false := h3
            rw [hb1] at h3
            conv => whnf
            refine branch_of (fun h4 => ?_) (fun h4 => ?_)
            · have h4 : decide (d.exp < -1000000) = true := h4
              conv => whnf
              refine ⟨_, _, Weak.refl _ _, ?_, rfl⟩
              rw [hspec]; simp only [fitB, h1, h2, h3, h4]; rfl
            · have h4 : decide (d.exp < -1000000) = false := h4
              conv => whnf
              refine branch_of (fun h5 => ?_) (fun h5 => ?_)
              · have h5 : decide (d.exp > 1000000) = true := h5
                conv => whnf
                refine ⟨_, _, Weak.refl _ _, ?_, rfl⟩
                rw [hspec]; simp only [fitB, h1, h2, h3, h4, h5]; rfl
              · have h5 : decide (d.exp > 1000000) = false := h5
                conv => whnf
                refine ⟨_, _, Weak.refl _ _, ?_, rfl⟩
                rw [hspec]; simp only [fitB, h1, h2, h3, h4, h5]; rfl

theorem getD_in {s : List UInt8} {i : Nat} (h : i < s.length) (d d' : UInt8) : s.getD i d = s.getD i d' := by simp [List.getD_eq_getElem?_getD, h]
theorem getD_out {s : List UInt8} {i : Nat} (h : s.length ≤ i) (d : UInt8) : s.getD i d = d := by simp [List.getD_eq_getElem?_getD, h]



def digits10 : List UInt8 := [48, 49, 50, 51, 52, 53, 54, 55, 56, 57]
def setD : List AV := (List.range 256).map fun i => .bool (Nat.ble 48 i && Nat.ble i 57)

theorem c41 (h : Heap) : ACalls Tryz.prog 143 [.str digits10] h fun r h' => r = .tuple [.agg setD, .bool true] ∧ h' = h := by
  refine ACalls.of_body tyOK (fun _ => false) Tryz.func143 rfl (by kernel_rfl) (Nat.le_of_ble_eq_true rfl) ?_
  conv => whnf
  refine ACode.rounds 11 ?_
  iterate 10
    refine ARounds.step tyOK (fun _ => false) ?_
    conv => whnf
    refine ⟨by decide, ?_⟩
    conv => whnf
    refine ⟨by decide, ?_⟩
    conv => whnf
  refine ARounds.step tyOK (fun _ => false) ?_
  conv => whnf
  refine ⟨_, _, Weak.refl _ _, ?_, rfl⟩
  kernel_rfl

theorem setD_length : setD.length = 256 := by simp [setD]
theorem setD_get (b : UInt8) : setD.getD b.toNat .undef = .bool (isDigit b) := by
  have hb : b.toNat < 256 := b.toNat_lt
  have e1 : decide (48 ≤ b) = Nat.ble 48 b.toNat := by
    have : (48 ≤ b) ↔ 48 ≤ b.toNat := u8_le
    rw [Bool.eq_iff_iff]; simp [this]
  have e2 : decide (b ≤ 57) = Nat.ble b.toNat 57 := by
    have : (b ≤ 57) ↔ b.toNat ≤ 57 := u8_le
    rw [Bool.eq_iff_iff]; simp [this]
  simp only [setD, List.getD_eq_getElem?_getD, List.getElem?_map, List.getElem?_range hb, Option.map_some, Option.getD_some, isDigit, e1, e2]

theorem c56 (b : UInt8) (id : Nat) (h : Heap) (hid : h id = some (.cells setD)) : ACalls Tryz.prog 193 [.ptr id 0, .int .u8 b.toNat] h fun r h' => r = .bool (isDigit b) ∧ h' = h := by
  refine ACalls.of_body tyOK (fun _ => false) Tryz.func193 rfl (by kernel_rfl) (Nat.le_of_ble_eq_true rfl) ?_
  conv => whnf
  have hb : b.toNat < 256 := b.toNat_lt
  refine ⟨⟨by omega, by show ((b.toNat : Nat) : Int) < ((256 : Nat) : Int); omega⟩, ?_⟩
  conv => whnf
  refine ⟨setD, hid, by rw [setD_length]; show 0 + b.toNat * 1 + 1 ≤ 256; omega, ?_⟩
  conv => whnf
  refine ⟨.bool (isDigit b), ?_, ?_⟩
  · show setD.getD (0 + b.toNat * 1) .undef = _
    rw [show 0 + b.toNat * 1 = b.toNat by omega]; exact setD_get b
  conv => whnf
  exact ⟨_, _, Weak.refl _ _, rfl, rfl⟩

def trimL (f : UInt8 → Bool) (s : List UInt8) : List UInt8 := s.dropWhile f
def trimR (f : UInt8 → Bool) (s : List UInt8) : List UInt8 := (s.reverse.dropWhile f).reverse

theorem trimL_cons {f : UInt8 → Bool} {s : List UInt8} (hp : 0 < s.length) : trimL f s = if f (s.getD 0 0) then trimL f (s.drop 1) else s := by
  cases s with
  | nil => simp at hp
  | cons a r => simp only [trimL, List.dropWhile_cons]; simp
theorem trimR_last {f : UInt8 → Bool} {s : List UInt8} (hp : 0 < s.length) : trimR f s = if f (s.getD (s.length - 1) 0) then trimR f (s.take (s.length - 1)) else s := by
  have hs : s = s.take (s.length - 1) ++ [s.getD (s.length - 1) 0] := by
    have h1 : s.drop (s.length - 1) = [s.getD (s.length - 1) 0] := by
      rw [List.drop_eq_getElem_cons (by omega)]
      simp [List.getD_eq_getElem?_getD, show s.length - 1 < s.length by omega, show s.length - 1 + 1 = s.length by omega]
    rw [← h1, List.take_append_drop]
  generalize hl : s.getD (s.length - 1) 0 = a at hs
  generalize s.take (s.length - 1) = r at hs
  subst hs
  simp only [trimR, List.reverse_append, List.reverse_singleton, List.singleton_append, List.dropWhile_cons]
  split <;> simp

theorem c42 (s : List UInt8) (hs : s.length ≤ 9223372036854775807) (id : Nat) (h : Heap) (hid : h id = some (.cells setD)) : ACalls Tryz.prog 144 [.str s, .ptr id 0] h fun r h' => r = .str (trimL isDigit s) ∧ h' = h := by
  refine ACalls.of_body tyOK (fun _ => false) Tryz.func144 rfl (by kernel_rfl) (Nat.le_of_ble_eq_true rfl) ?_
  conv => whnf
  refine ACode.loop tyOK (fun _ => false) (fun u : List UInt8 => trimL isDigit u = trimL isDigit s) (fun u => u.length) [1] [] (fun u => [(0, .str u)]) (fun _ => []) (fun _ => h) s rfl ⟨rfl, trivial⟩ trivial (HLe.refl _) (fun _ _ => rfl) (fun _ _ => rfl) ?_
  rintro u hu
  conv => whnf
  refine branch_of (fun hc => ?_) (fun hc => ?_)
  · have hc : (u.length : Int) > 0 := of_decide_eq_true hc
    conv => whnf
    refine ⟨⟨by omega, by show (0 : Int) < (u.length : Int); omega⟩, ?_⟩
    conv => whnf
    refine (c56 (u.getD 0 0) id h hid).mono ?_
    rintro r h' ⟨rfl, rfl⟩
    conv => whnf
    refine branch_of (fun he => ?_) (fun he => ?_)
    · have he : (!isDigit (u.getD 0 0)) = true := he
      conv => whnf
      refine ⟨_, _, Weak.refl _ _, ?_, rfl⟩
      rw [← hu, trimL_cons (by omega)]
      simp only [Bool.not_eq_true'] at he
      rw [he]; rfl
    · have he : (!isDigit (u.getD 0 0)) = false := he
      conv => whnf
      refine ⟨by show (0 : Int) ≤ 1 ∧ (1 : Int) ≤ (u.length : Int) ∧ (u.length : Int) ≤ u.length; omega, ?_⟩
      conv => whnf
      refine ⟨u.drop 1, ?_, by simp; omega, ⟨⟨rfl, trivial⟩, trivial, HLe.refl _, ⟨rfl, trivial⟩, trivial⟩⟩
      show trimL isDigit (u.drop 1) = _
      rw [← hu, trimL_cons (s := u) (by omega)]
      simp only [Bool.not_eq_false'] at he
      rw [he]; rfl
  · have hc : ¬ (u.length : Int) > 0 := of_decide_eq_false hc
    conv => whnf
    refine ⟨_, _, Weak.refl _ _, ?_, rfl⟩
    have : u = [] := by apply List.eq_nil_of_length_eq_zero; omega
    rw [← hu, this]; rfl

theorem c43 (s : List UInt8) (hs : s.length ≤ 9223372036854775807) (id : Nat) (h : Heap) (hid : h id = some (.cells setD)) : ACalls Tryz.prog 145 [.str s, .ptr id 0] h fun r h' => r = .str (trimR isDigit s) ∧ h' = h := by
  refine ACalls.of_body tyOK (fun _ => false) Tryz.func145 rfl (by kernel_rfl) (Nat.le_of_ble_eq_true rfl) ?_
  conv => whnf
  refine ACode.loop tyOK (fun _ => false) (fun u : List UInt8 => u.length ≤ s.length ∧ trimR isDigit u = trimR isDigit s) (fun u => u.length) [1] [] (fun u => [(0, .str u)]) (fun _ => []) (fun _ => h) s ⟨Nat.le_refl _, rfl⟩ ⟨rfl, trivial⟩ trivial (HLe.refl _) (fun _ _ => rfl) (fun _ _ => rfl) ?_
  rintro u ⟨hle, hu⟩
  conv => whnf
  refine branch_of (fun hc => ?_) (fun hc => ?_)
  · have hc : (u.length : Int) > 0 := of_decide_eq_true hc
    have hla := last_at (s := u) (by omega) (by omega)
    conv => whnf
    refine ⟨by rw [hla]; omega, ?_⟩
    conv => whnf
    have hbt : bt u (IntKind.i64.wrap ((u.length : Int) - 1)) = ((u.getD (u.length - 1) 0).toNat : Int) := by rw [hla]; rfl
    have hk : ACalls Tryz.prog 193 [.ptr id 0, .int .u8 (bt u (IntKind.i64.wrap ((u.length : Int) - 1)))] h fun r h' => r = .bool (isDigit (u.getD (u.length - 1) 0)) ∧ h' = h := by rw [hbt]; exact c56 (u.getD (u.length - 1) 0) id h hid
    refine hk.mono ?_
    rintro r h' ⟨rfl, rfl⟩
    conv => whnf
    refine branch_of (fun he => ?_) (fun he => ?_)
    · have he : (!isDigit (u.getD (u.length - 1) 0)) = true := he
      conv => whnf
      refine ⟨_, _, Weak.refl _ _, ?_, rfl⟩
      rw [← hu, trimR_last (by omega)]
      simp only [Bool.not_eq_true'] at he
      rw [he]; rfl
    · have he : (!isDigit (u.getD (u.length - 1) 0)) = false := he
      conv => whnf
      refine ⟨by rw [hla]; omega, ?_⟩
      conv => whnf
      have e1 : u.take (IntKind.i64.wrap ((u.length : Int) - 1)).toNat = u.take (u.length - 1) := by rw [hla]; simp
      refine ⟨u.take (u.length - 1), ⟨by simp; omega, ?_⟩, by simp; omega, ⟨⟨congrArg AV.str e1, trivial⟩, trivial, HLe.refl _, ⟨rfl, trivial⟩, trivial⟩⟩
      rw [← hu, trimR_last (s := u) (by omega)]
      simp only [Bool.not_eq_false'] at he
      rw [he]; rfl
  · have hc : ¬ (u.length : Int) > 0 := of_decide_eq_false hc
    conv => whnf
    refine ⟨_, _, Weak.refl _ _, ?_, rfl⟩
    have : u = [] := by apply List.eq_nil_of_length_eq_zero; omega
    rw [← hu, this]; rfl

/-- strings.Trim by the digits. -/
def trimD (s : List UInt8) : List UInt8 := trimL isDigit (trimR isDigit s)
theorem dropWhile_le (f : UInt8 → Bool) : ∀ s : List UInt8, (s.dropWhile f).length ≤ s.length
  | [] => Nat.le_refl _
  | a :: r => by
    rw [List.dropWhile_cons]
    split
    · exact Nat.le_succ_of_le (dropWhile_le f r)
    · exact Nat.le_refl _
theorem trimR_le (f : UInt8 → Bool) (s : List UInt8) : (trimR f s).length ≤ s.length := by
  simp only [trimR, List.length_reverse]
  exact Nat.le_trans (dropWhile_le _ _) (by simp)

theorem c25 (s : List UInt8) (hs : s.length ≤ 9223372036854775807) (h : Heap) : ACalls Tryz.prog 92 [.str s, .str digits10] h fun r h' => r = .str (trimD s) ∧ h' = h := by
  refine ACalls.of_body tyOK (fun d => Nat.beq d 5) Tryz.func92 rfl (by kernel_rfl) (Nat.le_of_ble_eq_true rfl) ?_
  conv => whnf
  refine branch_of (fun hb => ?_) (fun hb => ?_)
  · have hb : s = [] := eq_of_beq (show (s == []) = true from hb)
    conv => whnf
    refine ⟨_, _, Weak.refl _ _, ?_, rfl⟩
    rw [hb]; rfl
  · conv => whnf
    refine (c41 h).mono ?_
    rintro r h' ⟨rfl, rfl⟩
    conv => whnf
    intro id hid
    conv => whnf
    refine ⟨_, updH_same _ _ _, Nat.le_of_ble_eq_true rfl, ?_⟩
    conv => whnf
    refine (c43 s hs id _ ((updH_same _ _ _).trans (congrArg (fun c => some (AObj.cells c)) (putAll rfl)))).mono ?_
    rintro r h2 ⟨rfl, rfl⟩
    conv => whnf
    refine (c42 (trimR isDigit s) (Nat.le_trans (trimR_le _ _) hs) id _ ((updH_same _ _ _).trans (congrArg (fun c => some (AObj.cells c)) (putAll rfl)))).mono ?_
    rintro r h2 ⟨rfl, rfl⟩
    conv => whnf
    exact ⟨_, _, Weak.le (hle_new2 hid), rfl, rfl⟩



theorem dropWhile_nil {f : UInt8 → Bool} {s : List UInt8} : s.dropWhile f = [] ↔ s.all f = true := by
  induction s with
  | nil => simp
  | cons a r ih =>
    rw [List.dropWhile_cons, List.all_cons]
    cases hf : f a <;> simp [ih]
theorem dropWhile_all {f : UInt8 → Bool} {s : List UInt8} (h : s.all f = true) : s.dropWhile f = [] := dropWhile_nil.2 h
theorem trimD_nil {s : List UInt8} : trimD s = [] ↔ s.all isDigit = true := by
  unfold trimD trimL
  rw [dropWhile_nil]
  unfold trimR
  rw [List.all_reverse]
  constructor
  · intro h
    have h2 : (s.reverse.dropWhile isDigit).dropWhile isDigit = [] := dropWhile_nil.2 h
    have h3 : s.reverse.dropWhile isDigit = [] := by
      have : ∀ u : List UInt8, (u.dropWhile isDigit).dropWhile isDigit = u.dropWhile isDigit := by
        intro u
        induction u with
        | nil => rfl
        | cons a r ih =>
          rw [List.dropWhile_cons]
          cases hf : isDigit a
          · simp [hf]
          · simpa using ih
      rw [this] at h2; exact h2
    rw [dropWhile_nil, List.all_reverse] at h3
    exact h3
  · intro h
    have : s.reverse.all isDigit = true := by rw [List.all_reverse]; exact h
    rw [dropWhile_all this]; rfl
theorem trimD_beq (s : List UInt8) : (trimD s != []) = !(s.all isDigit) := by
  cases h : s.all isDigit with
  | true => rw [trimD_nil.2 h]; rfl
  | false =>
    have : trimD s ≠ [] := fun e => by rw [trimD_nil, h] at e; cases e
    simpa using this

theorem c10 (d : Dec) (hl : d.dig.length ≤ 9223372036854775807) (h : Heap) : ACalls Tryz.prog 65 [encD d] h fun r h' => r = .int .i64 (chk2 d) ∧ h' = h := by
  refine ACalls.of_body tyOK (fun _ => false) Tryz.func65 rfl (by kernel_rfl) (Nat.le_of_ble_eq_true rfl) ?_
  conv => whnf
  refine branch_of (fun hb => ?_) (fun hb => ?_)
  · have hb : d.dig = [] := by
      have : ((d.dig.length : Int) == 0) = true := hb
      simpa using this
    conv => whnf
    have hcond : ((!(d.neg == false && (d.dig == [] && (d.exp == 0 && true)))) = !(goodD d)) := by
      simp only [goodD, hb, if_true]
      cases d.neg <;> simp
    refine branch_of (fun hc => ?_) (fun hc => ?_)
    · have hc : (!(d.neg == false && (d.dig == [] && (d.exp == 0 && true)))) = true := hc
      rw [hcond] at hc
      conv => whnf
      exact ⟨_, _, Weak.refl _ _, by simp at hc; simp [chk2, hc], rfl⟩
    · have hc : (!(d.neg == false && (d.dig == [] && (d.exp == 0 && true)))) = false := hc
      rw [hcond] at hc
      conv => whnf
      exact ⟨_, _, Weak.refl _ _, by simp at hc; simp [chk2, hc], rfl⟩
  · have hb : ((d.dig.length : Int) == 0) = false := hb
    have hne : d.dig ≠ [] := by intro e; rw [e] at hb; cases hb
    have hpos : 0 < d.dig.length := List.length_pos_iff.2 hne
    have hla := last_at hl hpos
    have hspec : chk2 d = if d.dig.all isDigit && fitB d then 0 else 2 := by simp only [chk2, goodD, hne, if_false]
    have bad : fitB d = false → chk2 d = 2 := fun e => by rw [hspec, e]; simp
    conv => whnf
    refine branch_of (fun h1 => ?_) (fun h1 => ?_)
    · have h1 : decide ((d.dig.length : Int) > 65536) = true := h1
      conv => whnf
      exact ⟨_, _, Weak.refl _ _, by rw [bad (by simp only [fitB, h1]; rfl)], rfl⟩
    · have h1 : decide ((d.dig.length : Int) > 65536) = false := h1
      conv => whnf
      refine ⟨⟨by omega, by show (0 : Int) < (d.dig.length : Int); omega⟩, ?_⟩
      conv => whnf
      have hb0 : ((bt d.dig 0 : Int) == 48) = (d.dig.getD 0 0 == 48) := beq_toNat (d.dig.getD 0 0) 48
      refine branch_of (fun h2 => ?_) (fun h2 => ?_)
      · have h2 : ((bt d.dig 0 : Int) == 48) = true := h2
        rw [hb0] at h2
        conv => whnf
        exact ⟨_, _, Weak.refl _ _, by rw [bad (by simp only [fitB, h1, h2]; rfl)], rfl⟩
      · have h2 : ((bt d.dig 0 : Int) == 48) = false := h2
        rw [hb0] at h2
        conv => whnf
        refine ⟨⟨by rw [hla]; omega, by rw [hla]; omega⟩, ?_⟩
        conv => whnf
        have hb1 : ((bt d.dig (IntKind.i64.wrap ((d.dig.length : Int) - 1)) : Int) == 48) = (d.dig.getD (d.dig.length - 1) 0 == 48) := by rw [hla]; exact beq_toNat (d.dig.getD (d.dig.length - 1) 0) 48
        refine branch_of (fun h3 => ?_) (fun h3 => ?_)
        · have h3 : ((bt d.dig (IntKind.i64.wrap ((d.dig.length : Int) - 1)) : Int) == 48) = true := h3
          rw [hb1] at h3
          conv => whnf
          exact ⟨_, _, Weak.refl _ _, by rw [bad (by simp only [fitB, h1, h2, h3]; rfl)], rfl⟩
        · have h3 : ((bt d.dig (IntKind.i64.wrap ((d.dig.length : Int) - 1)) : Int) == 48) = false := h3
          rw [hb1] at h3
          conv => whnf
          refine (c25 d.dig hl h).mono ?_
          rintro r h' ⟨rfl, rfl⟩
          conv => whnf
          refine branch_of (fun h0 => ?_) (fun h0 => ?_)
          · have h0 : (trimD d.dig != []) = true := h0
            rw [trimD_beq] at h0
            conv => whnf
            exact ⟨_, _, Weak.refl _ _, by simp only [Bool.not_eq_true'] at h0; rw [hspec, h0]; rfl, rfl⟩
          · have h0 : (trimD d.dig != []) = false := h0
            rw [trimD_beq] at h0
            simp only [Bool.not_eq_false'] at h0
            conv => whnf
            refine branch_of (fun h4 => ?_) (fun h4 => ?_)
            · have h4 : decide (d.exp < -1000000) = true := h4
              conv => whnf
              exact ⟨_, _, Weak.refl _ _, by rw [bad (by simp only [fitB, h1, h2, h3, h4]; rfl)], rfl⟩
            · have h4 : decide (d.exp < -1000000) = false := h4
              conv => whnf
              refine branch_of (fun h5 => ?_) (fun h5 => ?_)
              · have h5 : decide (d.exp > 1000000) = true := h5
                conv => whnf
                exact ⟨_, _, Weak.refl _ _, by rw [bad (by simp only [fitB, h1, h2, h3, h4, h5]; rfl)], rfl⟩
              · have h5 : decide (d.exp > 1000000) = false := h5
                conv => whnf
                refine ⟨_, _, Weak.refl _ _, ?_, rfl⟩
                rw [hspec, h0]; simp only [fitB, h1, h2, h3, h4, h5]; rfl

end Go.Proofs.YtobpjbcgmdbncaaGreatDoor
