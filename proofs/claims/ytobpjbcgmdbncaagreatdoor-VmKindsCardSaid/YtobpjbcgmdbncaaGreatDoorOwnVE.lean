/- A part of the proof (own lemmas, no condition beyond those that each theorem states): facts on the functions that the statements of this seat reach. -/
import Derived.Test.YtobpjbcgmdbncaaGreatDoorOwnVD
set_option maxRecDepth 1000000
set_option linter.unusedVariables false
set_option linter.unusedSectionVars false
set_option linter.unusedSimpArgs false
namespace Go.Proofs.YtobpjbcgmdbncaaGreatDoor
open Go Go.Lift Go.RowKit

def Q21 (d : Dec) (h : Heap) : AV → Heap → Prop := fun r h' => (∃ b, r = .bool b ∧ (b = true → goodD d = true)) ∧ h' = h

theorem key_at (keys : List (List UInt8)) (i : Nat) (hi : i < keys.length) {n : Int} (e : n = i) : (List.map AV.str keys).getD n.toNat AV.undef = .str (keys.getD i []) := by
  subst e
  simp [List.getD_eq_getElem?_getD, hi]

set_option maxHeartbeats 4000000 in
theorem c21 : ∀ (n : Nat) (k : Int) (d : Dec) (t : List UInt8) (els : List AV) (keys : List (List UInt8)), OkV n d t els keys → ∀ (L : Int) (h : Heap), ACalls Tryz.prog 21 [encV k d t els keys, .int .i64 L] h (Q21 d h) := by
  intro n
  induction n using Nat.strongRecOn with
  | _ n ih =>
  intro k d t els keys ok L h
  refine ACalls.of_code tyOK Tryz.func21 rfl (by kernel_rfl) (Nat.le_of_ble_eq_true rfl) ?_
  refine ACode.upto tyOK (fun _ => false) 1 ?_
  conv => whnf
  refine ACode.cut tyOK (fun _ => false) 3 (fun _ : Unit => goodD d = true) [1, 2] [2] (fun _ => []) (fun _ => []) (fun _ => h) (fun _ _ => rfl) (fun _ _ => rfl) ?_ ?_
  · conv => whnf
    cases hg : goodD d
    · have e : chk2 d = 2 := by simp [chk2, hg]
      repeat' (first
        | exact ⟨_, _, Weak.refl _ _, ⟨_, rfl, fun e => by cases e⟩, rfl⟩
        | (refine branch_of (fun _ => ?_) (fun _ => ?_) <;> conv => whnf)
        | (refine (c22 d ok.od _).mono ?_; rintro r h' ⟨rfl, rfl⟩; rw [e]; conv => whnf))
    · have e : chk2 d = 0 := by simp [chk2, hg]
      repeat' (first
        | exact ⟨_, _, Weak.refl _ _, ⟨_, rfl, fun e => by cases e⟩, rfl⟩
        | exact ⟨(), rfl, ⟨trivial, trivial, HLe.refl _, ⟨rfl, rfl, trivial⟩, ⟨rfl, trivial⟩⟩⟩
        | (refine branch_of (fun _ => ?_) (fun _ => ?_) <;> conv => whnf)
        | (refine (c22 d ok.od _).mono ?_; rintro r h' ⟨rfl, rfl⟩; rw [e]; conv => whnf)
        | (refine (c39 t ok.ot _).mono ?_; rintro r h' ⟨⟨b, rfl⟩, rfl⟩; conv => whnf))
  · intro _ hg
    refine ACode.upto tyOK (fun _ => false) 1 ?_
    conv => whnf
    refine ACode.loop tyOK (fun _ => false) (fun i : Nat => i ≤ keys.length) (fun i => keys.length - i) [1, 2] [2] (fun i => [(5, .int .i64 i)]) (fun _ => []) (fun _ => h) 0 (by omega) ⟨rfl, trivial⟩ trivial (HLe.refl _) (fun _ _ => rfl) (fun _ _ => rfl) ?_
    intro i hi
    conv => whnf
    refine branch_of (fun hc => ?_) (fun hc => ?_)
    · have hc : (i : Int) < ((List.map AV.str keys).length : Int) := of_decide_eq_true hc
      have hc : i < keys.length := by simpa using hc
      conv => whnf
      refine ⟨by simp; omega, ?_⟩
      rw [key_at keys i hc rfl]
      conv => whnf
      refine ⟨_, rfl, ?_⟩
      conv => whnf
      refine (c39 (keys.getD i []) (ok.okk _ (by rw [List.getD_eq_getElem?_getD]; simp [hc])) _).mono ?_
      rintro r h' ⟨⟨b, rfl⟩, rfl⟩
      conv => whnf
      refine branch_of (fun hb => ?_) (fun hb => ?_)
      · conv => whnf
        exact ⟨_, _, Weak.refl _ _, ⟨_, rfl, fun e => by cases e⟩, rfl⟩
      · conv => whnf
        refine ACode.loop tyOK (fun _ => false) (fun j : Nat => j ≤ i) (fun j => i - j) [1, 2, 5] [2] (fun j => [(6, .int .i64 j)]) (fun _ => []) (fun _ => h') 0 (by omega) ⟨rfl, trivial⟩ trivial (HLe.refl _) (fun _ _ => rfl) (fun _ _ => rfl) ?_
        intro j hj
        conv => whnf
        refine branch_of (fun hd => ?_) (fun hd => ?_)
        · have hd : (j : Int) < (i : Int) := of_decide_eq_true hd
          conv => whnf
          refine ACode.draw tyOK mixed (fun _ => false) [(true, 0), (true, 1), (true, 2), (true, 3), (true, 4), (true, 5), (true, 6), (true, 7), (true, 8), (true, 9), (true, 10)] (by kernel_rfl) (by kernel_rfl) ?_
          conv => whnf
          refine ⟨by simp; omega, ?_⟩
          rw [key_at keys j (by omega) rfl]
          conv => whnf
          refine ⟨_, rfl, ?_⟩
          conv => whnf
          refine ⟨by simp; omega, ?_⟩
          rw [key_at keys i hc rfl]
          conv => whnf
          refine ⟨_, rfl, ?_⟩
          conv => whnf
          refine branch_of (fun hb => ?_) (fun hb => ?_)
          · conv => whnf
            exact ⟨_, _, Weak.refl _ _, ⟨_, rfl, fun e => by cases e⟩, rfl⟩
          · conv => whnf
            exact ⟨j + 1, by omega, by omega, ⟨⟨int_congr (wi64 (by omega) (by have := ok.ok; omega)), trivial⟩, trivial, HLe.refl _, ⟨rfl, rfl, rfl, trivial⟩, ⟨rfl, trivial⟩⟩⟩
        · conv => whnf
          exact ⟨i + 1, by omega, by omega, ⟨⟨int_congr (wi64 (by omega) (by have := ok.ok; omega)), trivial⟩, trivial, HLe.refl _, ⟨rfl, rfl, trivial⟩, ⟨rfl, trivial⟩⟩⟩
    · conv => whnf
      refine ACode.go tyOK (fun _ => false) ?_
      conv => whnf
      refine ACode.loop tyOK (fun _ => false) (fun i : Nat => i ≤ els.length) (fun i => els.length - i) [1, 2] [2] (fun i => [(7, .int .i64 i)]) (fun _ => []) (fun _ => h) 0 (by omega) ⟨rfl, trivial⟩ trivial (HLe.refl _) (fun _ _ => rfl) (fun _ _ => rfl) ?_
      intro i hi
      conv => whnf
      refine branch_of (fun hd => ?_) (fun hd => ?_)
      · have hd : (i : Int) < (els.length : Int) := of_decide_eq_true hd
        have hd : i < els.length := by omega
        conv => whnf
        refine ⟨by omega, ?_⟩
        have hsub := ok.sub els[i] (by simp)
        obtain ⟨m, k2, d2, t2, els2, keys2, hm, he, ok2⟩ := shp_val hsub
        have hget : els.getD (i : Int).toNat .undef = encV k2 d2 t2 els2 keys2 := by
          rw [← he]; simp [List.getD_eq_getElem?_getD, hd]
        rw [hget]
        conv => whnf
        refine ⟨_, rfl, ?_⟩
        conv => whnf
        refine (ih m hm k2 d2 t2 els2 keys2 ok2 _ _).mono ?_
        rintro r h' ⟨⟨b, rfl, _⟩, rfl⟩
        conv => whnf
        refine branch_of (fun hb => ?_) (fun hb => ?_)
        · conv => whnf
          exact ⟨_, _, Weak.refl _ _, ⟨_, rfl, fun e => by cases e⟩, rfl⟩
        · conv => whnf
          exact ⟨i + 1, by omega, by omega, ⟨⟨int_congr (wi64 (by omega) (by have := ok.oe; omega)), trivial⟩, trivial, HLe.refl _, ⟨rfl, rfl, trivial⟩, ⟨rfl, trivial⟩⟩⟩
      · conv => whnf
        exact ⟨_, _, Weak.refl _ _, ⟨_, rfl, fun _ => hg⟩, rfl⟩
end Go.Proofs.YtobpjbcgmdbncaaGreatDoor
