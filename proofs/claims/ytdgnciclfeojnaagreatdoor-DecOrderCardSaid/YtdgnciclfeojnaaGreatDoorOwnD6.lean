/- A part of the proof (own lemmas, no condition beyond those that each theorem states): facts on the functions that the statements of this seat reach. -/
import Derived.Test.YtdgnciclfeojnaaGreatDoorOwnD5
set_option linter.unusedVariables false
set_option linter.unusedSectionVars false
set_option linter.unusedSimpArgs false
namespace Go.Proofs.YtdgnciclfeojnaaGreatDoor
open Go Go.Lift

/-! ### The plain law: both comparisons say the same -/
theorem drop_cons {s : List UInt8} {i : Nat} (h : i < s.length) (d : UInt8) : s.drop i = s.getD i d :: s.drop (i + 1) := by
  rw [List.drop_eq_getElem_cons h]
  simp [List.getD_eq_getElem?_getD, h]

theorem cmpS_cons (p q : UInt8) (ps qs : List UInt8) : cmpS (p :: ps) (q :: qs) = if p = q then cmpS ps qs else if p.toNat < q.toNat then -1 else 1 := by
  have hlt : (p < q) ↔ p.toNat < q.toNat := UInt8.lt_iff_toNat_lt
  unfold cmpS
  simp only [Op.bytesLess]
  by_cases e : p = q
  · subst e
    simp
  · have hbe : (p == q) = false := beq_false_of_ne e
    simp only [hbe, Bool.false_and, Bool.or_false, decide_eq_true_eq, e, if_false, hlt, decide_eq_false_iff_not]
    by_cases h : p.toNat < q.toNat
    · simp [h]
    · have : ((p :: ps) == (q :: qs)) = false := by simp [e]
      simp [h, this]

/-- Behind the other's end, digits of which the last is not '0' are more. -/
theorem padCmp_right (x y : List UInt8) (hd : ∀ i, i < x.length → 48 ≤ (x.getD i 48).toNat) (hz : x.getD (x.length - 1) 0 ≠ 48) : ∀ n i, i + n = x.length → 0 < n → y.length ≤ i → padCmp x y n i = 1
  | 0, i, _, h, _ => by omega
  | n + 1, i, hn, _, hy => by
    have hyi : y.getD i 48 = 48 := getD_out hy 48
    rw [padCmp, hyi]
    by_cases e : x.getD i 48 = 48
    · rw [if_pos e]
      refine padCmp_right x y hd hz n (i + 1) (by omega) ?_ (by omega)
      rcases Nat.eq_zero_or_pos n with h0 | h0
      · exfalso
        apply hz
        rw [← e, show x.length - 1 = i by omega]
        exact getD_in (by omega) _ _
      · exact h0
    · rw [if_neg e, if_neg]
      have := hd i (by omega)
      have h48 : (48 : UInt8).toNat = 48 := rfl
      omega

theorem padCmp_left (x y : List UInt8) (hd : ∀ i, i < y.length → 48 ≤ (y.getD i 48).toNat) (hz : y.getD (y.length - 1) 0 ≠ 48) : ∀ n i, i + n = y.length → 0 < n → x.length ≤ i → padCmp x y n i = -1
  | 0, i, _, h, _ => by omega
  | n + 1, i, hn, _, hy => by
    have hyi : x.getD i 48 = 48 := getD_out hy 48
    rw [padCmp, hyi]
    by_cases e : (48 : UInt8) = y.getD i 48
    · rw [if_pos e]
      refine padCmp_left x y hd hz n (i + 1) (by omega) ?_ (by omega)
      rcases Nat.eq_zero_or_pos n with h0 | h0
      · exfalso
        apply hz
        rw [e, show y.length - 1 = i by omega]
        exact getD_in (by omega) _ _
      · exact h0
    · rw [if_neg e, if_pos]
      have := hd i (by omega)
      have h48 : (48 : UInt8).toNat = 48 := rfl
      have : (y.getD i 48).toNat ≠ 48 := fun h => e (UInt8.toNat_inj.1 (h48.trans h.symm))
      omega

theorem padCmp_cmpS (x y : List UInt8) (hx : ∀ i, i < x.length → 48 ≤ (x.getD i 48).toNat) (hxz : x.getD (x.length - 1) 0 ≠ 48) (hy : ∀ i, i < y.length → 48 ≤ (y.getD i 48).toNat) (hyz : y.getD (y.length - 1) 0 ≠ 48) :
    ∀ n i, i + n = max x.length y.length → padCmp x y n i = cmpS (x.drop i) (y.drop i)
  | 0, i, hn => by
    rw [List.drop_of_length_le (by omega), List.drop_of_length_le (by omega)]
    rfl
  | n + 1, i, hn => by
    by_cases h1 : i < x.length
    · by_cases h2 : i < y.length
      · rw [drop_cons h1 48, drop_cons h2 48, cmpS_cons, padCmp, padCmp_cmpS x y hx hxz hy hyz n (i + 1) (by omega)]
      · rw [padCmp_right x y hx hxz (n + 1) i (by omega) (by omega) (by omega), drop_cons h1 48, List.drop_of_length_le (l := y) (by omega)]
        simp [cmpS, Op.bytesLess]
    · rw [padCmp_left x y hy hyz (n + 1) i (by omega) (by omega) (by omega), List.drop_of_length_le (l := x) (by omega), drop_cons (show i < y.length by omega) 48]
      simp [cmpS, Op.bytesLess]

theorem good_digits {d : Dec} (hg : goodD d = true) (hne : d.dig ≠ []) : (∀ i, i < d.dig.length → 48 ≤ (d.dig.getD i 48).toNat) ∧ d.dig.getD (d.dig.length - 1) 0 ≠ 48 := by
  unfold goodD at hg
  rw [if_neg hne] at hg
  simp only [Bool.and_eq_true] at hg
  refine ⟨fun i hi => ?_, ?_⟩
  · have := List.all_eq_true.1 hg.1 (d.dig.getD i 48) (by simp [List.getD_eq_getElem?_getD, hi])
    simp only [isDigit, Bool.and_eq_true, decide_eq_true_eq] at this
    have h48 : (48 : UInt8).toNat = 48 := rfl
    have := u8_le.1 this.1
    omega
  · have := hg.2
    simp only [fitB, Bool.not_eq_true', Bool.or_eq_false_iff] at this
    exact ne_of_beq_false this.1.1.2

theorem cmp_same (x y : Dec) : cmp7 x y = cmp2 x y := by
  unfold cmp7 cmp2
  by_cases hg : goodD x = false ∨ goodD y = false
  · rw [if_pos hg, if_pos hg]
  · rw [if_neg hg, if_neg hg]
    have hgx : goodD x = true := by cases h : goodD x <;> simp_all
    have hgy : goodD y = true := by cases h : goodD y <;> simp_all
    by_cases h1 : signD x < signD y
    · have : cmpI (signD x) (signD y) = -1 := by simp [cmpI, h1]
      rw [if_pos h1, this, if_pos (.inl (by decide))]
    · rw [if_neg h1]
      by_cases h2 : signD x > signD y
      · have : cmpI (signD x) (signD y) = 1 := by simp [cmpI, h1, h2]
        rw [if_pos h2, this, if_pos (.inl (by decide))]
      · rw [if_neg h2]
        have hc : cmpI (signD x) (signD y) = 0 := by simp [cmpI, h1, h2]
        rw [hc]
        by_cases h0 : signD x = 0
        · rw [if_pos h0, h0]
          split <;> simp
        · rw [if_neg h0]
          have hs : signD x = signD y := by omega
          have hxn : x.dig ≠ [] := fun e => h0 (by simp [signD, e])
          have hyn : y.dig ≠ [] := fun e => h0 (by rw [hs]; simp [signD, e])
          obtain ⟨a1, a2⟩ := good_digits hgx hxn
          obtain ⟨b1, b2⟩ := good_digits hgy hyn
          have hpad := padCmp_cmpS x.dig y.dig a1 a2 b1 b2 (max x.dig.length y.dig.length) 0 (by omega)
          simp only [List.drop_zero] at hpad
          have hsize : sizeR x y = if cmpI (x.dig.length + x.exp) (y.dig.length + y.exp) = 0 then cmpS x.dig y.dig else cmpI (x.dig.length + x.exp) (y.dig.length + y.exp) := by
            unfold sizeR
            rw [hpad]
            unfold cmpI
            by_cases e : (x.dig.length : Int) + x.exp = y.dig.length + y.exp
            · rw [if_neg (by simpa using e)]; simp [e]
            · rw [if_pos e]
              by_cases e2 : (x.dig.length : Int) + x.exp < y.dig.length + y.exp
              · simp [e2]
              · have : (x.dig.length : Int) + x.exp > y.dig.length + y.exp := by omega
                simp [e2, this]
          split
          · rename_i hq
            rcases hq with hq | hq
            · exact absurd rfl hq
            · simp only [Bool.and_eq_true, beq_iff_eq, Bool.and_true] at hq
              have hz : sizeR x y = 0 := by
                rw [hsize, hq.2.1, hq.2.2]
                have : ∀ u : List UInt8, cmpS u u = 0 := by
                  intro u
                  induction u with
                  | nil => rfl
                  | cons a r ih => rw [cmpS_cons, if_pos rfl, ih]
                simp [cmpI, this]
              rw [hz]; simp
          · rw [hsize, Int.mul_comm]

end Go.Proofs.YtdgnciclfeojnaaGreatDoor
