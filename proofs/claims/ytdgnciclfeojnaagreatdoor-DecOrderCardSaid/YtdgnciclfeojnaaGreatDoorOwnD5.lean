/- A part of the proof (own lemmas, no condition beyond those that each theorem states): facts on the functions that the statements of this seat reach. -/
import Derived.Test.YtdgnciclfeojnaaGreatDoorOwnD4
set_option maxRecDepth 100000
set_option linter.unusedVariables false
set_option linter.unusedSectionVars false
set_option linter.unusedSimpArgs false
namespace Go.Proofs.YtdgnciclfeojnaaGreatDoor
open Go Go.Lift

theorem dropWhile_nil {f : UInt8 → Bool} {s : List UInt8} : s.dropWhile f = [] ↔ s.all f = true := by
  induction s with
  | nil => simp
  | cons a r ih =>
    rw [List.dropWhile_cons, List.all_cons]
    cases hf : f a <;> simp [ih]
theorem dropWhile_all {f : UInt8 → Bool} {s : List UInt8} (h : s.all f = true) : s.dropWhile f = [] := dropWhile_nil.2 h
theorem trimD_nil {s : List UInt8} : trimD s = [] ↔ s.all isDigit = true := by
  unfold trimD trimL
  rw [dropWhile_nil]
  unfold trimR
  rw [List.all_reverse]
  constructor
  · intro h
    have h2 : (s.reverse.dropWhile isDigit).dropWhile isDigit = [] := dropWhile_nil.2 h
    have h3 : s.reverse.dropWhile isDigit = [] := by
      have : ∀ u : List UInt8, (u.dropWhile isDigit).dropWhile isDigit = u.dropWhile isDigit := by
        intro u
        induction u with
        | nil => rfl
        | cons a r ih =>
          rw [List.dropWhile_cons]
          cases hf : isDigit a
          · simp [hf]
          · simpa using ih
      rw [this] at h2; exact h2
    rw [dropWhile_nil, List.all_reverse] at h3
    exact h3
  · intro h
    have : s.reverse.all isDigit = true := by rw [List.all_reverse]; exact h
    rw [dropWhile_all this]; rfl
theorem trimD_beq (s : List UInt8) : (trimD s != []) = !(s.all isDigit) := by
  cases h : s.all isDigit with
  | true => rw [trimD_nil.2 h]; rfl
  | false =>
    have : trimD s ≠ [] := fun e => by rw [trimD_nil, h] at e; cases e
    simpa using this

theorem c10 (d : Dec) (hl : d.dig.length ≤ 9223372036854775807) (h : Heap) : ACalls Tryz.prog 10 [encD d] h fun r h' => r = .int .i64 (chk2 d) ∧ h' = h := by
  refine ACalls.of_body tyOK (fun _ => false) Tryz.func10 rfl (by kernel_rfl) (Nat.le_of_ble_eq_true rfl) ?_
  conv => whnf
  refine branch_of (fun hb => ?_) (fun hb => ?_)
  · have hb : d.dig = [] := by
      have : ((d.dig.length : Int) == 0) = true := hb
      simpa using this
    conv => whnf
    have hcond : ((!(d.neg == false && (d.dig == [] && (d.exp == 0 && true)))) = !(goodD d)) := by
      simp only [goodD, hb, if_true]
      cases d.neg <;> simp
    refine branch_of (fun hc => ?_) (fun hc => ?_)
    · have hc : (!(d.neg == false && (d.dig == [] && (d.exp == 0 && true)))) = true := hc
      rw [hcond] at hc
      conv => whnf
      exact ⟨_, _, Weak.refl _ _, by simp at hc; simp [chk2, hc], rfl⟩
    · have hc : (!(d.neg == false && (d.dig == [] && (d.exp == 0 && true)))) = false := hc
      rw [hcond] at hc
      conv => whnf
      exact ⟨_, _, Weak.refl _ _, by simp at hc; simp [chk2, hc], rfl⟩
  · have hb : ((d.dig.length : Int) == 0) = false := hb
    have hne : d.dig ≠ [] := by intro e; rw [e] at hb; cases hb
    have hpos : 0 < d.dig.length := List.length_pos_iff.2 hne
    have hla := last_at hl hpos
    have hspec : chk2 d = if d.dig.all isDigit && fitB d then 0 else 2 := by simp only [chk2, goodD, hne, if_false]
    have bad : fitB d = false → chk2 d = 2 := fun e => by rw [hspec, e]; simp
    conv => whnf
    refine branch_of (fun h1 => ?_) (fun h1 => ?_)
    · have h1 : decide ((d.dig.length : Int) > 65536) = true := h1
      conv => whnf
      exact ⟨_, _, Weak.refl _ _, by rw [bad (by simp only [fitB, h1]; rfl)], rfl⟩
    · have h1 : decide ((d.dig.length : Int) > 65536) = false := h1
      conv => whnf
      refine ⟨⟨by omega, by show (0 : Int) < (d.dig.length : Int); omega⟩, ?_⟩
      conv => whnf
      have hb0 : ((bt d.dig 0 : Int) == 48) = (d.dig.getD 0 0 == 48) := beq_toNat (d.dig.getD 0 0) 48
      refine branch_of (fun h2 => ?_) (fun h2 => ?_)
      · have h2 : ((bt d.dig 0 : Int) == 48) = true := h2
        rw [hb0] at h2
        conv => whnf
        exact ⟨_, _, Weak.refl _ _, by rw [bad (by simp only [fitB, h1, h2]; rfl)], rfl⟩
      · have h2 : ((bt d.dig 0 : Int) == 48) = false := h2
        rw [hb0] at h2
        conv => whnf
        refine ⟨⟨by rw [hla]; omega, by rw [hla]; omega⟩, ?_⟩
        conv => whnf
        have hb1 : ((bt d.dig (IntKind.i64.wrap ((d.dig.length : Int) - 1)) : Int) == 48) = (d.dig.getD (d.dig.length - 1) 0 == 48) := by rw [hla]; exact beq_toNat (d.dig.getD (d.dig.length - 1) 0) 48
        refine branch_of (fun h3 => ?_) (fun h3 => ?_)
        · have h3 : ((bt d.dig (IntKind.i64.wrap ((d.dig.length : Int) - 1)) : Int) == 48) = true := h3
          rw [hb1] at h3
          conv => whnf
          exact ⟨_, _, Weak.refl _ _, by rw [bad (by simp only [fitB, h1, h2, h3]; rfl)], rfl⟩
        · have h3 : ((bt d.dig (IntKind.i64.wrap ((d.dig.length : Int) - 1)) : Int) == 48) = false := h3
          rw [hb1] at h3
          conv => whnf
          refine (c25 d.dig hl h).mono ?_
          rintro r h' ⟨rfl, rfl⟩
          conv => whnf
          refine branch_of (fun h0 => ?_) (fun h0 => ?_)
          · have h0 : (trimD d.dig != []) = true := h0
            rw [trimD_beq] at h0
            conv => whnf
            exact ⟨_, _, Weak.refl _ _, by simp only [Bool.not_eq_true'] at h0; rw [hspec, h0]; rfl, rfl⟩
          · have h0 : (trimD d.dig != []) = false := h0
            rw [trimD_beq] at h0
            simp only [Bool.not_eq_false'] at h0
            conv => whnf
            refine branch_of (fun h4 => ?_) (fun h4 => ?_)
            · have h4 : decide (d.exp < -1000000) = true := h4
              conv => whnf
              exact ⟨_, _, Weak.refl _ _, by rw [bad (by simp only [fitB, h1, h2, h3, h4]; rfl)], rfl⟩
            · have h4 : decide (d.exp < -1000000) = false := h4
              conv => whnf
              refine branch_of (fun h5 => ?_) (fun h5 => ?_)
              · have h5 : decide (d.exp > 1000000) = true := h5
                conv => whnf
                exact ⟨_, _, Weak.refl _ _, by rw [bad (by simp only [fitB, h1, h2, h3, h4, h5]; rfl)], rfl⟩
              · have h5 : decide (d.exp > 1000000) = false := h5
                conv => whnf
                refine ⟨_, _, Weak.refl _ _, ?_, rfl⟩
                rw [hspec, h0]; simp only [fitB, h1, h2, h3, h4, h5]; rfl

/-- What dec.Compare says. -/
def cmp7 (x y : Dec) : Int × Int :=
  if goodD x = false ∨ goodD y = false then (0, 2) else
  if cmpI (signD x) (signD y) ≠ 0 ∨ (x.neg == y.neg && (x.dig == y.dig && (x.exp == y.exp && true))) = true then (cmpI (signD x) (signD y), 0) else
  ((if cmpI (x.dig.length + x.exp) (y.dig.length + y.exp) = 0 then cmpS x.dig y.dig else cmpI (x.dig.length + x.exp) (y.dig.length + y.exp)) * signD x, 0)

theorem cmpI_cases (a b : Int) : cmpI a b = -1 ∨ cmpI a b = 0 ∨ cmpI a b = 1 := by
  unfold cmpI
  split
  · simp
  · split <;> simp
theorem cmpS_cases (a b : List UInt8) : cmpS a b = -1 ∨ cmpS a b = 0 ∨ cmpS a b = 1 := by
  unfold cmpS
  split
  · simp
  · split <;> simp

theorem c7 (x y : Dec) (hx : x.dig.length ≤ 9223372036854775807) (hy : y.dig.length ≤ 9223372036854775807) (h : Heap) : ACalls Tryz.prog 7 [encD x, encD y] h fun r h' => r = .tuple [.int .i64 (cmp7 x y).1, .int .i64 (cmp7 x y).2] ∧ h' = h := by
  refine ACalls.of_body tyOK (fun _ => false) Tryz.func7 rfl (by kernel_rfl) (Nat.le_of_ble_eq_true rfl) ?_
  conv => whnf
  refine (c10 x hx _).mono ?_
  rintro r h' ⟨rfl, rfl⟩
  conv => whnf
  refine branch_of (fun hb => ?_) (fun hb => ?_)
  · have hg : goodD x = false := chk2_t hb
    conv => whnf
    exact ⟨_, _, Weak.refl _ _, by simp only [cmp7, hg, true_or, if_true], rfl⟩
  · have hg : goodD x = true := chk2_f hb
    conv => whnf
    refine (c10 y hy _).mono ?_
    rintro r h' ⟨rfl, rfl⟩
    conv => whnf
    refine branch_of (fun hc => ?_) (fun hc => ?_)
    · have hg2 : goodD y = false := chk2_t hc
      conv => whnf
      exact ⟨_, _, Weak.refl _ _, by simp only [cmp7, hg2, or_true, if_true], rfl⟩
    · have hg2 : goodD y = true := chk2_f hc
      obtain ⟨g1, g2⟩ := good_bounds hg
      obtain ⟨k1, k2⟩ := good_bounds hg2
      have w1 : IntKind.i64.wrap ((x.dig.length : Int) + x.exp) = x.dig.length + x.exp := wi64 (by omega) (by omega)
      have w2 : IntKind.i64.wrap ((y.dig.length : Int) + y.exp) = y.dig.length + y.exp := wi64 (by omega) (by omega)
      have hspec : cmp7 x y = if cmpI (signD x) (signD y) ≠ 0 ∨ (x.neg == y.neg && (x.dig == y.dig && (x.exp == y.exp && true))) = true then (cmpI (signD x) (signD y), 0) else
          ((if cmpI (x.dig.length + x.exp) (y.dig.length + y.exp) = 0 then cmpS x.dig y.dig else cmpI (x.dig.length + x.exp) (y.dig.length + y.exp)) * signD x, 0) := by
        simp only [cmp7, hg, hg2, Bool.true_eq_false, or_self, if_false]
      conv => whnf
      refine ACode.draw tyOK mixed (fun _ => false) [(true, 0), (true, 2), (false, 1), (false, 3), (false, 4), (true, 5)] (by kernel_rfl) (by kernel_rfl) ?_
      conv => whnf
      refine (sign19 x _).mono ?_
      rintro r h' ⟨rfl, rfl⟩
      conv => whnf
      refine (sign19 y _).mono ?_
      rintro r h' ⟨rfl, rfl⟩
      conv => whnf
      refine (c18 (signD x) (signD y) _).mono ?_
      rintro r h' ⟨rfl, rfl⟩
      conv => whnf
      refine branch_of (fun h1 => ?_) (fun h1 => ?_)
      · have h1 : cmpI (signD x) (signD y) ≠ 0 := bne_iff_ne.1 h1
        conv => whnf
        exact ⟨_, _, Weak.refl _ _, by rw [hspec, if_pos (.inl h1)], rfl⟩
      · have h1 : ¬ cmpI (signD x) (signD y) ≠ 0 := by simpa using (show (cmpI (signD x) (signD y) != 0) = false from h1)
        conv => whnf
        refine branch_of (fun h2 => ?_) (fun h2 => ?_)
        · have h2 : (x.neg == y.neg && (x.dig == y.dig && (x.exp == y.exp && true))) = true := h2
          conv => whnf
          exact ⟨_, _, Weak.refl _ _, by rw [hspec, if_pos (.inr h2)], rfl⟩
        · have h2 : (x.neg == y.neg && (x.dig == y.dig && (x.exp == y.exp && true))) = false := h2
          have h2' : ¬ (cmpI (signD x) (signD y) ≠ 0 ∨ (x.neg == y.neg && (x.dig == y.dig && (x.exp == y.exp && true))) = true) := by
            rintro (h | h)
            · exact h1 h
            · rw [h2] at h; cases h
          conv => whnf
          refine ACode.draw tyOK mixed (fun _ => false) [(true, 0), (true, 1), (true, 2), (true, 3), (true, 4), (true, 5), (true, 6), (true, 7), (true, 8), (true, 9), (true, 10), (true, 11), (true, 13), (true, 14), (true, 15), (true, 16), (false, 12), (false, 17), (false, 18), (false, 19), (true, 20)] (by kernel_rfl) (by kernel_rfl) ?_
          conv => whnf
          refine (c18 _ _ _).mono ?_
          rintro r h' ⟨rfl, rfl⟩
          conv => whnf
          refine (c21 _ _ _).mono ?_
          rintro r h' ⟨rfl, rfl⟩
          conv => whnf
          refine (c20 _ _ _).mono ?_
          rintro r h' ⟨rfl, rfl⟩
          conv => whnf
          refine (sign19 x _).mono ?_
          rintro r h' ⟨rfl, rfl⟩
          conv => whnf
          refine ⟨_, _, Weak.refl _ _, ?_, rfl⟩
          rw [hspec, if_neg h2', w1, w2]
          congr 2
          congr 1
          rw [IntKind.wrap_i64]
          rcases signD_cases x with e | e | e <;> rcases cmpI_cases (x.dig.length + x.exp) (y.dig.length + y.exp) with f | f | f <;> rcases cmpS_cases x.dig y.dig with q | q | q <;> rw [e, f, q] <;> decide

end Go.Proofs.YtdgnciclfeojnaaGreatDoor
