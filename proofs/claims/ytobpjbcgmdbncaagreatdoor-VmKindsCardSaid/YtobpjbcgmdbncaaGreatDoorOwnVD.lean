/- A part of the proof (own lemmas, no condition beyond those that each theorem states): facts on the functions that the statements of this seat reach. -/
import Derived.Test.YtobpjbcgmdbncaaGreatDoorOwnVC
set_option maxRecDepth 1000000
set_option linter.unusedVariables false
set_option linter.unusedSectionVars false
set_option linter.unusedSimpArgs false
namespace Go.Proofs.YtobpjbcgmdbncaaGreatDoor
open Go Go.Lift Go.RowKit

def encV (k : Int) (d : Dec) (t : List UInt8) (els : List AV) (keys : List (List UInt8)) : AV := .agg [.int .i64 k, .bool d.neg, .str d.dig, .int .i64 d.exp, .str t, .sl 7 true els .no, .sl 1 false (keys.map AV.str) .no]

structure OkV (n : Nat) (d : Dec) (t : List UInt8) (els : List AV) (keys : List (List UInt8)) : Prop where
  od : d.dig.length ≤ 9223372036854775807
  ot : t.length ≤ 9223372036854775807
  oe : els.length ≤ 9223372036854775807
  ok : keys.length ≤ 9223372036854775807
  okk : ∀ x ∈ keys, x.length ≤ 9223372036854775807
  sub : ∀ x ∈ els, Shp Tryz.prog n 28 x

theorem shp_dec {n : Nat} {a : AV} (h : Shp Tryz.prog n 24 a) : ∃ d : Dec, a = encD d ∧ d.dig.length ≤ 9223372036854775807 := by
  cases n with
  | zero => exact h.elim
  | succ n =>
    unfold Shp at h
    rw [Tryz.underlying24] at h
    obtain ⟨avs, rfl, he⟩ := h
    match avs, he with
    | [x, y, z], ⟨hx, hy, hz, _⟩ =>
      cases n with
      | zero => exact hx.elim
      | succ n =>
        unfold Shp at hx hy hz
        rw [Tryz.underlying4] at hx
        rw [Tryz.underlying9] at hy
        rw [Tryz.underlying3] at hz
        obtain ⟨b, rfl⟩ := hx
        obtain ⟨s, rfl, hs⟩ := hy
        obtain ⟨e, rfl, _⟩ := hz
        exact ⟨⟨b, s, e⟩, rfl, hs⟩

theorem shp_val {n : Nat} {a : AV} (h : Shp Tryz.prog n 28 a) : ∃ m k d t els keys, m < n ∧ a = encV k d t els keys ∧ OkV m d t els keys := by
  cases n with
  | zero => exact h.elim
  | succ n =>
    unfold Shp at h
    rw [Tryz.underlying28] at h
    obtain ⟨avs, rfl, he⟩ := h
    match avs, he with
    | [x, y, z, u, v], ⟨hx, hy, hz, hu, hv, _⟩ =>
      cases n with
      | zero => exact hx.elim
      | succ n =>
        obtain ⟨d, rfl, hd⟩ := shp_dec hy
        clear hy
        unfold Shp at hx hz hu hv
        rw [Tryz.underlying22] at hx
        rw [Tryz.underlying9] at hz
        rw [Tryz.underlying25] at hu
        rw [Tryz.underlying26] at hv
        obtain ⟨k, rfl, _⟩ := hx
        obtain ⟨t, rfl, ht⟩ := hz
        obtain ⟨els, rfl, hl, hels⟩ := hu
        obtain ⟨ks, rfl, hkl, hks⟩ := hv
        have hkeys : ∃ keys : List (List UInt8), ks = keys.map AV.str ∧ ∀ x ∈ keys, x.length ≤ 9223372036854775807 := by
          clear hkl
          induction ks with
          | nil => exact ⟨[], rfl, fun x hx => by cases hx⟩
          | cons q qs ih =>
            obtain ⟨keys, rfl, h2⟩ := ih fun x hx => hks x (List.mem_cons_of_mem _ hx)
            have hq := hks q List.mem_cons_self
            cases n with
            | zero => exact hq.elim
            | succ n =>
              unfold Shp at hq
              rw [Tryz.underlying9] at hq
              obtain ⟨s, rfl, hs⟩ := hq
              exact ⟨s :: keys, rfl, fun x hx => by
                rcases List.mem_cons.1 hx with rfl | hx
                · exact hs
                · exact h2 x hx⟩
        obtain ⟨keys, rfl, hkk⟩ := hkeys
        exact ⟨n, k, d, t, els, keys, by omega, rfl, hd, ht, hl, (by rw [List.length_map] at hkl; exact hkl), hkk, hels⟩

def wholeV (d : Dec) : Bool := (chk2 d == 0) && decide (d.exp ≥ 0)
theorem c26 (d : Dec) (hl : d.dig.length ≤ 9223372036854775807) (h : Heap) : ACalls Tryz.prog 26 [encD d] h fun r h' => r = .bool (wholeV d) ∧ h' = h := by
  refine ACalls.of_body tyOK (fun _ => false) Tryz.func26 rfl (by kernel_rfl) (Nat.le_of_ble_eq_true rfl) ?_
  conv => whnf
  refine (c10 d hl _).mono ?_
  rintro r h' ⟨rfl, rfl⟩
  conv => whnf
  refine branch_of (fun h1 => ?_) (fun h1 => ?_) <;> conv => whnf
  · have h1 : (chk2 d == 0) = true := h1
    exact ⟨_, _, Weak.refl _ _, by simp [wholeV, h1], rfl⟩
  · have h1 : (chk2 d == 0) = false := h1
    exact ⟨_, _, Weak.refl _ _, by simp [wholeV, h1], rfl⟩
theorem c29 (d : Dec) (hl : d.dig.length ≤ 9223372036854775807) (h : Heap) : ACalls Tryz.prog 29 [encD d] h fun r h' => r = .bool (wholeV d) ∧ h' = h := by
  refine ACalls.of_body tyOK (fun _ => false) Tryz.func29 rfl (by kernel_rfl) (Nat.le_of_ble_eq_true rfl) ?_
  conv => whnf
  refine (c22 d hl _).mono ?_
  rintro r h' ⟨rfl, rfl⟩
  conv => whnf
  refine branch_of (fun h1 => ?_) (fun h1 => ?_) <;> conv => whnf
  · have h1 : (chk2 d == 0) = true := h1
    exact ⟨_, _, Weak.refl _ _, by simp [wholeV, h1], rfl⟩
  · have h1 : (chk2 d == 0) = false := h1
    exact ⟨_, _, Weak.refl _ _, by simp [wholeV, h1], rfl⟩

def kindsV (k : Int) (d : Dec) : Int := if k = 0 then 1 else if k = 1 ∨ k = 2 then 2 else if k = 3 then (if wholeV d then 68 else 4) else if k = 4 then 8 else if k = 5 then 16 else 32

theorem c11 (k : Int) (d : Dec) (t : List UInt8) (els : List AV) (keys : List (List UInt8)) (hd : d.dig.length ≤ 9223372036854775807) (h : Heap) : ACalls Tryz.prog 11 [encV k d t els keys] h fun r h' => r = .int .i64 (kindsV k d) ∧ h' = h := by
  refine ACalls.of_body tyOK (fun _ => false) Tryz.func11 rfl (by kernel_rfl) (Nat.le_of_ble_eq_true rfl) ?_
  conv => whnf
  refine branch_of (fun h0 => ?_) (fun h0 => ?_)
  · have h0 : (k == 0) = true := h0
    have h0 : k = 0 := by simpa using h0
    conv => whnf
    exact ⟨_, _, Weak.refl _ _, by simp [kindsV, h0], rfl⟩
  have h0 : (k == 0) = false := h0
  have h0 : k ≠ 0 := by simpa using h0
  conv => whnf
  refine branch_of (fun h1 => ?_) (fun h1 => ?_)
  · have g1 : (k == 1) = true := h1
    have h1 : k = 1 := by simpa using g1
    conv => whnf
    refine branch_of (fun q => ?_) (fun q => ?_)
    · conv => whnf
      exact ⟨_, _, Weak.refl _ _, by simp [kindsV, h1], rfl⟩
    · have q : (k == 1) = false := q
      rw [g1] at q; cases q
  have g1 : (k == 1) = false := h1
  have h1 : k ≠ 1 := by simpa using g1
  conv => whnf
  refine branch_of (fun h2 => ?_) (fun h2 => ?_)
  · have h2 : (k == 2) = true := h2
    have h2 : k = 2 := by simpa using h2
    conv => whnf
    exact ⟨_, _, Weak.refl _ _, by simp [kindsV, h2], rfl⟩
  have h2 : (k == 2) = false := h2
  have h2 : k ≠ 2 := by simpa using h2
  conv => whnf
  refine branch_of (fun h3 => ?_) (fun h3 => ?_)
  · have h3 : (k == 3) = true := h3
    have h3 : k = 3 := by simpa using h3
    conv => whnf
    refine (c26 d hd _).mono ?_
    rintro r h' ⟨rfl, rfl⟩
    conv => whnf
    refine branch_of (fun hw => ?_) (fun hw => ?_)
    · have hw : wholeV d = true := hw
      conv => whnf
      exact ⟨_, _, Weak.refl _ _, by simp [kindsV, h3, hw], rfl⟩
    · have hw : wholeV d = false := hw
      conv => whnf
      exact ⟨_, _, Weak.refl _ _, by simp [kindsV, h3, hw], rfl⟩
  have h3 : (k == 3) = false := h3
  have h3 : k ≠ 3 := by simpa using h3
  conv => whnf
  refine branch_of (fun h4 => ?_) (fun h4 => ?_)
  · have h4 : (k == 4) = true := h4
    have h4 : k = 4 := by simpa using h4
    conv => whnf
    exact ⟨_, _, Weak.refl _ _, by simp [kindsV, h4], rfl⟩
  have h4 : (k == 4) = false := h4
  have h4 : k ≠ 4 := by simpa using h4
  conv => whnf
  refine branch_of (fun h5 => ?_) (fun h5 => ?_)
  · have h5 : (k == 5) = true := h5
    have h5 : k = 5 := by simpa using h5
    conv => whnf
    exact ⟨_, _, Weak.refl _ _, by simp [kindsV, h5], rfl⟩
  have h5 : (k == 5) = false := h5
  have h5 : k ≠ 5 := by simpa using h5
  conv => whnf
  exact ⟨_, _, Weak.refl _ _, by simp [kindsV, h0, h1, h2, h3, h4, h5], rfl⟩

theorem c15 (k : Int) (d : Dec) (t : List UInt8) (els : List AV) (keys : List (List UInt8)) (hd : d.dig.length ≤ 9223372036854775807) (h : Heap) : ACalls Tryz.prog 15 [encV k d t els keys] h fun r h' => r = .int .i64 (kindsV k d) ∧ h' = h := by
  refine ACalls.of_body tyOK (fun _ => false) Tryz.func15 rfl (by kernel_rfl) (Nat.le_of_ble_eq_true rfl) ?_
  conv => whnf
  refine branch_of (fun h0 => ?_) (fun h0 => ?_)
  · have h0 : (k == 0) = true := h0
    have h0 : k = 0 := by simpa using h0
    conv => whnf
    exact ⟨_, _, Weak.refl _ _, by simp [kindsV, h0], rfl⟩
  have h0 : (k == 0) = false := h0
  have h0 : k ≠ 0 := by simpa using h0
  conv => whnf
  refine branch_of (fun h1 => ?_) (fun h1 => ?_)
  · have g1 : (k == 1) = true := h1
    have h1 : k = 1 := by simpa using g1
    conv => whnf
    refine branch_of (fun q => ?_) (fun q => ?_)
    · conv => whnf
      exact ⟨_, _, Weak.refl _ _, by simp [kindsV, h1], rfl⟩
    · have q : (k == 1) = false := q
      rw [g1] at q; cases q
  have g1 : (k == 1) = false := h1
  have h1 : k ≠ 1 := by simpa using g1
  conv => whnf
  refine branch_of (fun h2 => ?_) (fun h2 => ?_)
  · have h2 : (k == 2) = true := h2
    have h2 : k = 2 := by simpa using h2
    conv => whnf
    exact ⟨_, _, Weak.refl _ _, by simp [kindsV, h2], rfl⟩
  have h2 : (k == 2) = false := h2
  have h2 : k ≠ 2 := by simpa using h2
  conv => whnf
  refine branch_of (fun h3 => ?_) (fun h3 => ?_)
  · have h3 : (k == 3) = true := h3
    have h3 : k = 3 := by simpa using h3
    conv => whnf
    refine (c29 d hd _).mono ?_
    rintro r h' ⟨rfl, rfl⟩
    conv => whnf
    refine branch_of (fun hw => ?_) (fun hw => ?_)
    · have hw : wholeV d = true := hw
      conv => whnf
      exact ⟨_, _, Weak.refl _ _, by simp [kindsV, h3, hw], rfl⟩
    · have hw : wholeV d = false := hw
      conv => whnf
      exact ⟨_, _, Weak.refl _ _, by simp [kindsV, h3, hw], rfl⟩
  have h3 : (k == 3) = false := h3
  have h3 : k ≠ 3 := by simpa using h3
  conv => whnf
  refine branch_of (fun h4 => ?_) (fun h4 => ?_)
  · have h4 : (k == 4) = true := h4
    have h4 : k = 4 := by simpa using h4
    conv => whnf
    exact ⟨_, _, Weak.refl _ _, by simp [kindsV, h4], rfl⟩
  have h4 : (k == 4) = false := h4
  have h4 : k ≠ 4 := by simpa using h4
  conv => whnf
  refine branch_of (fun h5 => ?_) (fun h5 => ?_)
  · have h5 : (k == 5) = true := h5
    have h5 : k = 5 := by simpa using h5
    conv => whnf
    exact ⟨_, _, Weak.refl _ _, by simp [kindsV, h5], rfl⟩
  have h5 : (k == 5) = false := h5
  have h5 : k ≠ 5 := by simpa using h5
  conv => whnf
  exact ⟨_, _, Weak.refl _ _, by simp [kindsV, h0, h1, h2, h3, h4, h5], rfl⟩

end Go.Proofs.YtobpjbcgmdbncaaGreatDoor
