/- A part of the proof (own lemmas, no condition beyond those that each theorem states): facts on the functions that the statements of this seat reach. -/
import Derived.Test.YtdgnciclfeojnaaGreatDoorOwnD6
set_option linter.unusedVariables false
set_option linter.unusedSectionVars false
set_option linter.unusedSimpArgs false
namespace Go.Proofs.YtdgnciclfeojnaaGreatDoor
open Go Go.Lift

/-! ### One order -/
/-- A comparison: minus one, nought, one; the other way round it is the other; what is not more of what is not more is not more. -/
structure IsCmp {α : Type} (c : α → α → Int) : Prop where
  vals : ∀ x y, c x y = -1 ∨ c x y = 0 ∨ c x y = 1
  anti : ∀ x y, c y x = - c x y
  trans : ∀ x y z, c x y ≤ 0 → c y z ≤ 0 → c x z ≤ 0

theorem IsCmp.strict {α : Type} {c : α → α → Int} (h : IsCmp c) {x y z : α} (a : c x y < 0) (b : c y z ≤ 0) : c x z < 0 := by
  have h1 := h.vals x z
  have h2 := h.anti x z
  have h3 := h.anti x y
  by_cases hh : c x z < 0
  · exact hh
  · have := h.trans y z x b (by omega)
    omega

theorem padCmp_anti (x y : List UInt8) : ∀ n i, padCmp y x n i = - padCmp x y n i
  | 0, i => by simp [padCmp]
  | n + 1, i => by
    rw [padCmp, padCmp, padCmp_anti x y n (i + 1)]
    by_cases e : x.getD i 48 = y.getD i 48
    · rw [if_pos e, if_pos e.symm]
    · rw [if_neg e, if_neg (fun h => e h.symm)]
      have : (x.getD i 48).toNat ≠ (y.getD i 48).toNat := fun h => e (UInt8.toNat_inj.1 h)
      by_cases l : (x.getD i 48).toNat < (y.getD i 48).toNat
      · rw [if_pos l, if_neg (by omega)]; rfl
      · rw [if_neg l, if_pos (by omega)]

theorem padCmp_trans (x y z : List UInt8) : ∀ n i, padCmp x y n i ≤ 0 → padCmp y z n i ≤ 0 → padCmp x z n i ≤ 0
  | 0, i, _, _ => by simp [padCmp]
  | n + 1, i, h1, h2 => by
    rw [padCmp] at h1 h2 ⊢
    have toN : ∀ {a b : UInt8}, a ≠ b → a.toNat ≠ b.toNat := fun h e => h (UInt8.toNat_inj.1 e)
    by_cases e1 : x.getD i 48 = y.getD i 48
    · rw [if_pos e1] at h1
      by_cases e2 : y.getD i 48 = z.getD i 48
      · rw [if_pos e2] at h2
        rw [if_pos (e1.trans e2)]
        exact padCmp_trans x y z n (i + 1) h1 h2
      · rw [if_neg e2] at h2
        rw [e1, if_neg e2]
        exact h2
    · rw [if_neg e1] at h1
      have := toN e1
      by_cases l1 : (x.getD i 48).toNat < (y.getD i 48).toNat
      · by_cases e2 : y.getD i 48 = z.getD i 48
        · rw [← e2, if_neg e1, if_pos l1]; omega
        · rw [if_neg e2] at h2
          by_cases l2 : (y.getD i 48).toNat < (z.getD i 48).toNat
          · rw [if_neg (fun e => by rw [e] at l1; omega), if_pos (by omega)]; omega
          · rw [if_neg l2] at h2; omega
      · rw [if_neg l1] at h1; omega

theorem padCmp_more (x y : List UInt8) : ∀ n k i, x.length ≤ i + n → y.length ≤ i + n → padCmp x y (n + k) i = padCmp x y n i
  | 0, 0, i, _, _ => rfl
  | 0, k + 1, i, hx, hy => by
    rw [show 0 + (k + 1) = k + 1 by omega]
    unfold padCmp
    rw [getD_out (s := x) (by omega), getD_out (s := y) (by omega), if_pos rfl]
    have := padCmp_more x y 0 k (i + 1) (by omega) (by omega)
    rw [show 0 + k = k by omega] at this
    rw [this]; rfl
  | n + 1, k, i, hx, hy => by
    rw [show n + 1 + k = (n + k) + 1 by omega, padCmp, padCmp, padCmp_more x y n k (i + 1) (by omega) (by omega)]

/-- The comparison of two numbers' sizes. -/
def sizeC (x y : Dec) : Int :=
  if (x.dig.length : Int) + x.exp ≠ y.dig.length + y.exp then (if (x.dig.length : Int) + x.exp < y.dig.length + y.exp then -1 else 1)
  else padCmp x.dig y.dig 65536 0

theorem sizeR_eq {x y : Dec} (hx : x.dig.length ≤ 65536) (hy : y.dig.length ≤ 65536) : sizeR x y = sizeC x y := by
  unfold sizeR sizeC
  split
  · rfl
  · have := padCmp_more x.dig y.dig (max x.dig.length y.dig.length) (65536 - max x.dig.length y.dig.length) 0 (by omega) (by omega)
    rw [← this, show max x.dig.length y.dig.length + (65536 - max x.dig.length y.dig.length) = 65536 by omega]

theorem sizeC_cmp : IsCmp sizeC where
  vals x y := by
    unfold sizeC
    split
    · split <;> simp
    · exact padCmp_cases _ _ _ _
  anti x y := by
    unfold sizeC
    by_cases h : (x.dig.length : Int) + x.exp = y.dig.length + y.exp
    · rw [if_neg (by omega), if_neg (by omega)]
      exact padCmp_anti _ _ _ _
    · have h' : ¬ (y.dig.length : Int) + y.exp = x.dig.length + x.exp := fun e => h e.symm
      simp only [ne_eq, h, h', not_false_eq_true, if_true]
      split <;> split <;> omega
  trans x y z h1 h2 := by
    unfold sizeC at *
    by_cases e1 : (x.dig.length : Int) + x.exp = y.dig.length + y.exp
    · rw [if_neg (by omega)] at h1
      by_cases e2 : (y.dig.length : Int) + y.exp = z.dig.length + z.exp
      · rw [if_neg (by omega)] at h2 ⊢
        exact padCmp_trans _ _ _ _ _ h1 h2
      · rw [if_pos (by omega)] at h2 ⊢
        by_cases l2 : (y.dig.length : Int) + y.exp < z.dig.length + z.exp
        · rw [if_pos (by omega)]; omega
        · rw [if_neg l2] at h2; omega
    · rw [if_pos (by omega)] at h1
      by_cases l1 : (x.dig.length : Int) + x.exp < y.dig.length + y.exp
      · by_cases e2 : (y.dig.length : Int) + y.exp = z.dig.length + z.exp
        · rw [if_pos (by omega), if_pos (by omega)]; omega
        · rw [if_pos (by omega)] at h2
          by_cases l2 : (y.dig.length : Int) + y.exp < z.dig.length + z.exp
          · rw [if_pos (by omega), if_pos (by omega)]; omega
          · rw [if_neg l2] at h2; omega
      · rw [if_neg l1] at h1; omega

def decC (x y : Dec) : Int :=
  if signD x < signD y then -1 else if signD x > signD y then 1 else if signD x = 0 then 0 else signD x * sizeC x y

theorem cmp2_good {x y : Dec} (hx : goodD x = true) (hy : goodD y = true) : cmp2 x y = (decC x y, 0) := by
  unfold cmp2 decC
  rw [if_neg (by simp [hx, hy])]
  rw [sizeR_eq (good_bounds hx).1 (good_bounds hy).1]
  split
  · rfl
  · split
    · rfl
    · split <;> rfl

theorem decC_eq (s t r : Int) (x y : Dec) (h1 : signD x = s) (h2 : signD y = t) (h3 : sizeC x y = r) : decC x y = if s < t then -1 else if s > t then 1 else if s = 0 then 0 else s * r := by
  unfold decC
  rw [h1, h2, h3]

theorem decC_cmp : IsCmp decC where
  vals x y := by
    rw [decC_eq _ _ _ x y rfl rfl rfl]
    rcases signD_cases x with h | h | h <;> rcases signD_cases y with g | g | g <;> rcases sizeC_cmp.vals x y with r | r | r <;> rw [h, g, r] <;> decide
  anti x y := by
    rw [decC_eq _ _ _ x y rfl rfl rfl, decC_eq _ _ _ y x rfl rfl rfl, sizeC_cmp.anti x y]
    rcases signD_cases x with h | h | h <;> rcases signD_cases y with g | g | g <;> rcases sizeC_cmp.vals x y with r | r | r <;> rw [h, g, r] <;> decide
  trans x y z := by
    have t1 := sizeC_cmp.trans x y z
    have t2 := sizeC_cmp.trans z y x
    rw [sizeC_cmp.anti y z, sizeC_cmp.anti x y, sizeC_cmp.anti x z] at t2
    rw [decC_eq _ _ _ x y rfl rfl rfl, decC_eq _ _ _ y z rfl rfl rfl, decC_eq _ _ _ x z rfl rfl rfl]
    revert t1 t2
    generalize sizeC x y = p
    generalize sizeC y z = q
    generalize sizeC x z = r
    rcases signD_cases x with h | h | h <;> rcases signD_cases y with g | g | g <;> rcases signD_cases z with f | f | f <;> rw [h, g, f] <;> intro t1 t2 h1 h2 <;> revert h1 h2 <;> simp <;> omega

/-- The number the other way round. -/
def negD (d : Dec) : Dec := if d.dig = [] then d else { d with neg := !d.neg }

theorem good_negD {d : Dec} (h : goodD d = true) : goodD (negD d) = true := by
  unfold negD
  split
  · exact h
  · rename_i hne
    unfold goodD at h ⊢
    simp only [hne, if_false] at h ⊢
    exact h

theorem sign_negD (d : Dec) : signD (negD d) = - signD d := by
  unfold negD
  split
  · rename_i h; simp [signD, h]
  · rename_i h
    cases hn : d.neg <;> simp [signD, h, hn]

theorem sizeC_negD (x y : Dec) : sizeC (negD x) (negD y) = sizeC x y := by
  have hd : ∀ d : Dec, (negD d).dig = d.dig ∧ (negD d).exp = d.exp := fun d => by unfold negD; split <;> exact ⟨rfl, rfl⟩
  unfold sizeC
  rw [(hd x).1, (hd x).2, (hd y).1, (hd y).2]

theorem decC_negD (x y : Dec) : decC (negD x) (negD y) = - decC x y := by
  rw [decC_eq _ _ _ (negD x) (negD y) (sign_negD x) (sign_negD y) (sizeC_negD x y), decC_eq _ _ _ x y rfl rfl rfl]
  rcases signD_cases x with h | h | h <;> rcases signD_cases y with g | g | g <;> rcases sizeC_cmp.vals x y with r | r | r <;> rw [h, g, r] <;> decide

end Go.Proofs.YtdgnciclfeojnaaGreatDoor
