/- A part of the proof (own lemmas, no condition beyond those that each theorem states): facts on the functions that the statements of this seat reach. -/
import Derived.Test.YtdgnciclfeojnaaGreatDoorOwnE9
import Derived.Test.YtdgnciclfeojnaaGreatDoorOwnH1
set_option maxRecDepth 100000
set_option maxHeartbeats 8000000
set_option linter.unusedVariables false
set_option linter.unusedSectionVars false
set_option linter.unusedSimpArgs false
namespace Go.Proofs.YtdgnciclfeojnaaGreatDoor
open Go Go.Lift Go.RowKit

theorem c7v (x y : Dec) (v : Int) (hx : x.dig.length ≤ 9223372036854775807) (hy : y.dig.length ≤ 9223372036854775807) (gx : goodD x = true) (gy : goodD y = true) (hv : decC x y = v) (h : Heap) : ACalls Tryz.prog 7 [encD x, encD y] h fun r h' => r = .tuple [.int .i64 v, .int .i64 0] ∧ h' = h := by
  refine (c7 x y hx hy h).mono ?_
  rintro r h' ⟨rfl, rfl⟩
  rw [cmp_same, cmp2_good gx gy, hv]
  exact ⟨rfl, rfl⟩

/-- The law DecOrder. -/
theorem law5 (a b c : Dec) (ha : a.dig.length ≤ 9223372036854775807) (hb : b.dig.length ≤ 9223372036854775807) (hc : c.dig.length ≤ 9223372036854775807) (h : Heap) : ACalls Tryz.prog 5 [encD a, encD b, encD c] h fun r h' => r = .bool true ∧ h' = h := by
  refine ACalls.of_body tyOK (fun s => false) Tryz.func5 rfl (by kernel_rfl) (Nat.le_of_ble_eq_true rfl) ?_
  conv => whnf
  refine (c10 a ha _).mono ?_
  rintro r h' ⟨rfl, rfl⟩
  conv => whnf
  have out : ∀ {env : Env} {loc : Loc} {Q : AV → Heap → Prop} {K : Prop}, K → K := fun k => k
  refine branch_of (fun h1 => ?_) (fun h1 => ?_)
  · conv => whnf
    refine (c9 _).mono ?_
    rintro r h' ⟨rfl, rfl⟩
    conv => whnf
    exact ⟨_, _, Weak.refl _ _, rfl, rfl⟩
  have ga : goodD a = true := chk2_f h1
  conv => whnf
  refine (c10 b hb _).mono ?_
  rintro r h' ⟨rfl, rfl⟩
  conv => whnf
  refine branch_of (fun h1 => ?_) (fun h1 => ?_)
  · conv => whnf
    refine (c9 _).mono ?_
    rintro r h' ⟨rfl, rfl⟩
    conv => whnf
    exact ⟨_, _, Weak.refl _ _, rfl, rfl⟩
  have gb : goodD b = true := chk2_f h1
  conv => whnf
  refine (c10 c hc _).mono ?_
  rintro r h' ⟨rfl, rfl⟩
  conv => whnf
  refine branch_of (fun h1 => ?_) (fun h1 => ?_)
  · conv => whnf
    refine (c9 _).mono ?_
    rintro r h' ⟨rfl, rfl⟩
    conv => whnf
    exact ⟨_, _, Weak.refl _ _, rfl, rfl⟩
  have gc : goodD c = true := chk2_f h1
  conv => whnf
  have e1 : ∃ x, decC a b = x := ⟨_, rfl⟩
  obtain ⟨x, e1⟩ := e1
  have e2 : ∃ x, decC b c = x := ⟨_, rfl⟩
  obtain ⟨z, e2⟩ := e2
  have e3 : ∃ x, decC a c = x := ⟨_, rfl⟩
  obtain ⟨w, e3⟩ := e3
  have e4 : decC b a = -x := by rw [← e1]; exact decC_cmp.anti a b
  have e5 : decC (negD a) (negD b) = -x := by rw [← e1]; exact decC_negD a b
  have t1 : x ≤ 0 → z ≤ 0 → w ≤ 0 := by rw [← e1, ← e2, ← e3]; exact decC_cmp.trans a b c
  have t2 : x < 0 → z ≤ 0 → w < 0 := by rw [← e1, ← e2, ← e3]; exact decC_cmp.strict
  have vx : x = -1 ∨ x = 0 ∨ x = 1 := by rw [← e1]; exact decC_cmp.vals a b
  have vz : z = -1 ∨ z = 0 ∨ z = 1 := by rw [← e2]; exact decC_cmp.vals b c
  have vw : w = -1 ∨ w = 0 ∨ w = 1 := by rw [← e3]; exact decC_cmp.vals a c
  have hna : (negD a).dig = a.dig := by unfold negD; split <;> rfl
  have hnb : (negD b).dig = b.dig := by unfold negD; split <;> rfl
  have tail : ∀ (h : Heap), ACalls Tryz.prog 7 [encD (negD a), encD (negD b)] h fun r h' => r = .tuple [.int .i64 (-x), .int .i64 0] ∧ h' = h := fun h =>
    c7v (negD a) (negD b) (-x) (by rw [hna]; exact ha) (by rw [hnb]; exact hb) (good_negD ga) (good_negD gb) e5 h
  have na0 : a.dig = [] → encD (negD a) = encD a := fun e => by simp [negD, e]
  have na1 : a.dig ≠ [] → encD (negD a) = .agg [.bool (!a.neg), .str a.dig, .int .i64 a.exp] := fun e => by simp [negD, e, encD]
  have nb0 : b.dig = [] → encD (negD b) = encD b := fun e => by simp [negD, e]
  have nb1 : b.dig ≠ [] → encD (negD b) = .agg [.bool (!b.neg), .str b.dig, .int .i64 b.exp] := fun e => by simp [negD, e, encD]
  have fin : ∀ (h : Heap) (r : AV), (r = .bool true ∧ h = h) → ∃ r' h'', Weak r h r' h'' ∧ r' = .bool true ∧ h'' = h := fun h r e => ⟨_, _, Weak.refl _ _, e.1, rfl⟩
  rcases vx with rfl | rfl | rfl <;> rcases vz with rfl | rfl | rfl <;> rcases vw with rfl | rfl | rfl <;> first | (exfalso; omega) | skip
  all_goals
    refine (c7v a b _ ha hb ga gb e1 _).mono ?_
    rintro r h' ⟨rfl, rfl⟩
    conv => whnf
    refine (c7v b a _ hb ha gb ga e4 _).mono ?_
    rintro r h' ⟨rfl, rfl⟩
    conv => whnf
    refine (c7v b c _ hb hc gb gc e2 _).mono ?_
    rintro r h' ⟨rfl, rfl⟩
    conv => whnf
    refine (c7v a c _ ha hc ga gc e3 _).mono ?_
    rintro r h' ⟨rfl, rfl⟩
    conv => whnf
    refine branch_of (fun hp => ?_) (fun hp => ?_)
    all_goals
      conv => whnf
      refine branch_of (fun hq => ?_) (fun hq => ?_)
      all_goals
        conv => whnf
        refine ACalls.at ?_ ((tail _).mono ?_)
        · first
            | rw [na1 (ne_of_beq_false (by simpa using hp)), nb1 (ne_of_beq_false (by simpa using hq))]; rfl
            | rw [na1 (ne_of_beq_false (by simpa using hp)), nb0 (by simpa using hq)]; rfl
            | rw [na0 (by simpa using hp), nb1 (ne_of_beq_false (by simpa using hq))]; rfl
            | rw [na0 (by simpa using hp), nb0 (by simpa using hq)]; rfl
        rintro r h' ⟨rfl, rfl⟩
        conv => whnf
        refine (c9 _).mono ?_
        rintro r h' ⟨rfl, rfl⟩
        conv => whnf
        exact ⟨_, _, Weak.refl _ _, rfl, rfl⟩

end Go.Proofs.YtdgnciclfeojnaaGreatDoor
