/- A part of the proof (own lemmas, no condition beyond those that each theorem states): facts on the functions that the statements of this seat reach. -/
import Derived.Test.YtdgnciclfeojnaaGreatDoorOwnD9
set_option maxRecDepth 100000
set_option linter.unusedVariables false
set_option linter.unusedSectionVars false
set_option linter.unusedSimpArgs false
namespace Go.Proofs.YtdgnciclfeojnaaGreatDoor
open Go Go.Lift

def dec0 : Dec := ⟨false, [], 0⟩
def parseF (neg : Bool) (w fr rest : List UInt8) : Option (Dec × Nat) :=
  match expE rest with
  | none => none
  | some e => some (if trimL is0 (trimR is0 (w ++ fr)) = [] then dec0 else ⟨neg, trimL is0 (trimR is0 (w ++ fr)), e - fr.length + (w ++ fr).length - (trimR is0 (w ++ fr)).length⟩, (w ++ fr).length)
def parseW (neg : Bool) (w rest : List UInt8) : Option (Dec × Nat) :=
  if w = [] ∨ (w.length > 1 ∧ w.getD 0 0 = 48) then none
  else if hasP rest [46] then (if (rest.drop 1).takeWhile isDigit = [] then none else parseF neg w ((rest.drop 1).takeWhile isDigit) ((rest.drop 1).dropWhile isDigit))
  else parseF neg w [] rest
def parseR (s : List UInt8) : Option (Dec × Nat) := parseW (cutP s [45]).2 ((cutP s [45]).1.takeWhile isDigit) ((cutP s [45]).1.dropWhile isDigit)

def Q27 (s : List UInt8) (h : Heap) : AV → Heap → Prop := fun r h' =>
  (∃ d n, parseR s = some (d, n) ∧ r = .tuple [encD d, .int .i64 n, nilE] ∧ h' = h) ∨ (parseR s = none ∧ ∃ id, h id = none ∧ r = .tuple [encD dec0, .int .i64 0, errAt id] ∧ h' = updH h id (some wrongO))

theorem cutP_le (s p : List UInt8) : (cutP s p).1.length ≤ s.length := by
  unfold cutP; split <;> simp
theorem dropWhile_len (f : UInt8 → Bool) (s : List UInt8) : (s.takeWhile f).length + (s.dropWhile f).length = s.length := by
  have := congrArg List.length (List.takeWhile_append_dropWhile (p := f) (l := s))
  rw [List.length_append] at this
  omega
theorem trimL_le (f : UInt8 → Bool) (s : List UInt8) : (trimL f s).length ≤ s.length := dropWhile_le f s

theorem expE_bounds {s : List UInt8} {e : Int} (h : expE s = some e) : -99999999 ≤ e ∧ e ≤ 99999999 := by
  unfold expE at h
  split at h
  · cases h; omega
  · split at h
    · cases h
    · unfold tailE at h
      split at h
      · cases h
      · simp only [Option.some.injEq] at h
        obtain ⟨f0, f1⟩ := foldE_bounds ((signE (s.drop 1)).2.takeWhile isDigit) 0 (by omega) (by omega) (all_takeWhile isDigit _)
        have hs : (signE (s.drop 1)).1 = 1 ∨ (signE (s.drop 1)).1 = -1 := by
          unfold signE
          repeat' split
          all_goals simp
        subst h
        unfold foldE
        rcases hs with e | e <;> rw [e] <;> omega

theorem c27 (s : List UInt8) (hs : s.length ≤ 4611686018427387904) (h : Heap) : ACalls Tryz.prog 27 [.str s] h (Q27 s h) := by
  refine ACalls.of_code tyOK Tryz.func27 rfl (by kernel_rfl) (Nat.le_of_ble_eq_true rfl) ?_
  refine ACode.upto tyOK (fun d => Nat.beq d 39) 1 ?_
  conv => whnf
  refine ACode.cut tyOK (fun d => Nat.beq d 39) 5 (fun q : Bool × List UInt8 × List UInt8 × List UInt8 => parseR s = parseF q.1 q.2.1 q.2.2.1 q.2.2.2 ∧ q.2.1.length + q.2.2.1.length + q.2.2.2.length ≤ s.length) [2] [2]
    (fun q => [(5, .bool q.1), (6, .str q.2.1), (9, .str q.2.2.1), (7, .str q.2.2.2)]) (fun _ => []) (fun _ => h) (fun _ _ => rfl) (fun _ _ => rfl) ?_ ?_
  · conv => whnf
    refine (c47 s [45] _).mono ?_
    rintro r h' ⟨rfl, rfl⟩
    conv => whnf
    have htl := cutP_le s [45]
    generalize hneg : (cutP s [45]).2 = neg
    generalize ht : (cutP s [45]).1 = t at htl
    have hspec : parseR s = parseW neg (t.takeWhile isDigit) (t.dropWhile isDigit) := by rw [parseR, hneg, ht]
    refine (c48 t (by omega) _).mono ?_
    rintro r h2 (⟨hd, rfl, rfl⟩ | ⟨hd, id, hid, rfl, rfl⟩)
    · have hlen := dropWhile_len isDigit t
      have htw := all_takeWhile isDigit t
      generalize t.takeWhile isDigit = w at hspec hd hlen htw ⊢
      generalize t.dropWhile isDigit = rest at hspec hlen ⊢
      have hwp : 0 < w.length := List.length_pos_iff.2 hd
      have good : ¬ (w.length > 1 ∧ w.getD 0 0 = 48) → parseR s = if hasP rest [46] then (if (rest.drop 1).takeWhile isDigit = [] then none else parseF neg w ((rest.drop 1).takeWhile isDigit) ((rest.drop 1).dropWhile isDigit)) else parseF neg w [] rest := fun hn => by
        rw [hspec, parseW, if_neg]
        rintro (e | e)
        · exact hd e
        · exact hn e
      have bad : (w.length > 1 ∧ w.getD 0 0 = 48) → parseR s = none := fun hn => by rw [hspec, parseW, if_pos (.inr hn)]
      clear hspec
      -- behind the guard
      have hb0 : ((bt w 0 : Int) == ((48 : UInt8).toNat : Int)) = (w.getD 0 0 == 48) := beq_toNat (w.getD 0 0) 48
      conv => whnf
      refine branch_of (fun h1 => ?_) (fun h1 => ?_)
      · have h1 : (w.length : Int) > 1 := of_decide_eq_true h1
        conv => whnf
        refine ⟨⟨by omega, by show (0 : Int) < (w.length : Int); omega⟩, ?_⟩
        conv => whnf
        refine branch_of (fun h2 => ?_) (fun h2 => ?_)
        · have h2 : ((bt w 0 : Int) == ((48 : UInt8).toNat : Int)) = true := h2
          rw [hb0] at h2
          have h2 : w.getD 0 0 = 48 := by simpa using h2
          conv => whnf
          intro id hid
          conv => whnf
          exact ⟨_, _, Weak.refl _ _, .inr ⟨bad ⟨by omega, h2⟩, id, hid, rfl, rfl⟩⟩
        · have h2 : ((bt w 0 : Int) == ((48 : UInt8).toNat : Int)) = false := h2
          rw [hb0] at h2
          have h2 : ¬ w.getD 0 0 = 48 := by simpa using h2
          have hg := good (fun hh => h2 hh.2)
          conv => whnf
          refine (c49 rest [46] _).mono ?_
          rintro r h3 ⟨rfl, rfl⟩
          conv => whnf
          refine branch_of (fun h4 => ?_) (fun h4 => ?_)
          · have h4 : hasP rest [46] = true := h4
            rw [h4] at hg
            simp only [if_true] at hg
            have hrl : 1 ≤ rest.length := by simp [hasP] at h4; omega
            conv => whnf
            refine ⟨by show (0 : Int) ≤ 1 ∧ (1 : Int) ≤ rest.length ∧ (rest.length : Int) ≤ rest.length; omega, ?_⟩
            conv => whnf
            refine (c48 (rest.drop 1) (by simp; omega) _).mono ?_
            have hl2 := dropWhile_len isDigit (rest.drop 1)
            rw [List.length_drop] at hl2
            rintro r h5 (⟨hd2, rfl, rfl⟩ | ⟨hd2, id, hid, rfl, rfl⟩)
            · rw [if_neg hd2] at hg
              conv => whnf
              exact ⟨(neg, w, (rest.drop 1).takeWhile isDigit, (rest.drop 1).dropWhile isDigit), ⟨hg, by simp only; omega⟩, ⟨rfl, rfl, rfl, rfl, trivial⟩, trivial, HLe.refl _, ⟨rfl, trivial⟩, ⟨rfl, trivial⟩⟩
            · rw [if_pos hd2] at hg
              conv => whnf
              exact ⟨_, _, Weak.refl _ _, .inr ⟨hg, id, hid, rfl, rfl⟩⟩
          · have h4 : hasP rest [46] = false := h4
            rw [h4] at hg
            simp only [Bool.false_eq_true, if_false] at hg
            conv => whnf
            exact ⟨(neg, w, [], rest), ⟨hg, by simp only [List.length_nil]; omega⟩, ⟨rfl, rfl, rfl, rfl, trivial⟩, trivial, HLe.refl _, ⟨rfl, trivial⟩, ⟨rfl, trivial⟩⟩
      · have h1 : ¬ (w.length : Int) > 1 := of_decide_eq_false h1
        have hg := good (fun hh => h1 (by omega))
        conv => whnf
        refine (c49 rest [46] _).mono ?_
        rintro r h3 ⟨rfl, rfl⟩
        conv => whnf
        refine branch_of (fun h4 => ?_) (fun h4 => ?_)
        · have h4 : hasP rest [46] = true := h4
          rw [h4] at hg
          simp only [if_true] at hg
          have hrl : 1 ≤ rest.length := by simp [hasP] at h4; omega
          conv => whnf
          refine ⟨by show (0 : Int) ≤ 1 ∧ (1 : Int) ≤ rest.length ∧ (rest.length : Int) ≤ rest.length; omega, ?_⟩
          conv => whnf
          refine (c48 (rest.drop 1) (by simp; omega) _).mono ?_
          have hl2 := dropWhile_len isDigit (rest.drop 1)
          rw [List.length_drop] at hl2
          rintro r h5 (⟨hd2, rfl, rfl⟩ | ⟨hd2, id, hid, rfl, rfl⟩)
          · rw [if_neg hd2] at hg
            conv => whnf
            exact ⟨(neg, w, (rest.drop 1).takeWhile isDigit, (rest.drop 1).dropWhile isDigit), ⟨hg, by simp only; omega⟩, ⟨rfl, rfl, rfl, rfl, trivial⟩, trivial, HLe.refl _, ⟨rfl, trivial⟩, ⟨rfl, trivial⟩⟩
          · rw [if_pos hd2] at hg
            conv => whnf
            exact ⟨_, _, Weak.refl _ _, .inr ⟨hg, id, hid, rfl, rfl⟩⟩
        · have h4 : hasP rest [46] = false := h4
          rw [h4] at hg
          simp only [Bool.false_eq_true, if_false] at hg
          conv => whnf
          exact ⟨(neg, w, [], rest), ⟨hg, by simp only [List.length_nil]; omega⟩, ⟨rfl, rfl, rfl, rfl, trivial⟩, trivial, HLe.refl _, ⟨rfl, trivial⟩, ⟨rfl, trivial⟩⟩
    · conv => whnf
      intro id2 hid2
      conv => whnf
      obtain ⟨q1, q2⟩ := updH_none hid2
      exact ⟨_, _, Weak.le (hle_under hid), .inr ⟨by rw [hspec, parseW, if_pos (.inl hd)], id2, q2, rfl, rfl⟩⟩
  · rintro ⟨neg, w, fr, rest⟩ ⟨hspec, hlen⟩
    simp only at hspec hlen
    refine ACode.go tyOK (fun d => Nat.beq d 39) ?_
    conv => whnf
    refine (c50 rest (by omega) _).mono ?_
    rintro r h' (⟨e, he, rfl, rfl⟩ | ⟨he, id, hid, rfl, rfl⟩)
    · obtain ⟨b0, b1⟩ := expE_bounds he
      simp only [parseF, he] at hspec
      conv => whnf
      refine ⟨by show ((w.length + fr.length : Nat) : Int) ≤ _; omega, ?_⟩
      conv => whnf
      have hal : (w ++ fr).length = w.length + fr.length := List.length_append
      refine (c51 (w ++ fr) (by omega) _).mono ?_
      rintro r h2 ⟨rfl, rfl⟩
      conv => whnf
      have hbl := trimR_le is0 (w ++ fr)
      refine (c33 (trimR is0 (w ++ fr)) (by omega) _).mono ?_
      rintro r h3 ⟨rfl, rfl⟩
      have hex : IntKind.i64.wrap (IntKind.i64.wrap (IntKind.i64.wrap (e - fr.length) + (w ++ fr).length) - (trimR is0 (w ++ fr)).length) = e - fr.length + (w ++ fr).length - (trimR is0 (w ++ fr)).length := by
        rw [wi64 (n := e - fr.length) (by omega) (by omega), wi64 (n := e - fr.length + (w ++ fr).length) (by omega) (by omega), wi64 (by omega) (by omega)]
      conv => whnf
      refine branch_of (fun h1 => ?_) (fun h1 => ?_)
      · have h1 : trimL is0 (trimR is0 (w ++ fr)) = [] := eq_of_beq (show (trimL is0 (trimR is0 (w ++ fr)) == []) = true from h1)
        rw [if_pos h1] at hspec
        conv => whnf
        exact ⟨_, _, Weak.refl _ _, .inl ⟨_, _, hspec, rfl, rfl⟩⟩
      · have h1 : ¬ trimL is0 (trimR is0 (w ++ fr)) = [] := ne_of_beq_false (show (trimL is0 (trimR is0 (w ++ fr)) == []) = false from h1)
        rw [if_neg h1] at hspec
        conv => whnf
        refine ⟨_, _, Weak.refl _ _, .inl ⟨_, _, hspec, ?_, rfl⟩⟩
        rw [← hex]; rfl
    · simp only [parseF, he] at hspec
      conv => whnf
      exact ⟨_, _, Weak.refl _ _, .inr ⟨hspec, id, hid, rfl, rfl⟩⟩

end Go.Proofs.YtdgnciclfeojnaaGreatDoor
