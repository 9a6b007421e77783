/- A part of the proof (own lemmas, no condition beyond those that each theorem states): facts on the functions that the statements of this seat reach. -/
import Derived.Test.YtdgnciclfeojnaaGreatDoorOwnD8
set_option maxRecDepth 100000
set_option linter.unusedVariables false
set_option linter.unusedSectionVars false
set_option linter.unusedSimpArgs false
namespace Go.Proofs.YtdgnciclfeojnaaGreatDoor
open Go Go.Lift

def stepE (n : Int) (c : UInt8) : Int := if 99999999 < n * 10 + ((c.toNat : Int) - 48) then 99999999 else n * 10 + ((c.toNat : Int) - 48)
def foldE (ds : List UInt8) : Int := ds.foldl stepE 0

/-- What stands behind 'e'. -/
def signE (t : List UInt8) : Int × List UInt8 :=
  if t = [] then (1, t) else if t.getD 0 0 = 43 then (1, t.drop 1) else if t.getD 0 0 = 45 then (-1, t.drop 1) else (1, t)
def tailE (sg : Int) (u : List UInt8) : Option Int :=
  if u.takeWhile isDigit = [] ∨ u.dropWhile isDigit ≠ [] then none else some (sg * foldE (u.takeWhile isDigit))
def expE (s : List UInt8) : Option Int :=
  if s = [] then some 0 else if s.getD 0 0 ≠ 101 ∧ s.getD 0 0 ≠ 69 then none else tailE (signE (s.drop 1)).1 (signE (s.drop 1)).2

theorem stepE_bounds {n : Int} {c : UInt8} (h0 : 0 ≤ n) (h1 : n ≤ 99999999) (hc : isDigit c = true) : 0 ≤ stepE n c ∧ stepE n c ≤ 99999999 := by
  simp only [isDigit, Bool.and_eq_true, decide_eq_true_eq] at hc
  have := u8_le.1 hc.1
  have h48 : (48 : UInt8).toNat = 48 := rfl
  unfold stepE
  split <;> omega

theorem foldE_bounds : ∀ (ds : List UInt8) (n : Int), 0 ≤ n → n ≤ 99999999 → ds.all isDigit = true → 0 ≤ ds.foldl stepE n ∧ ds.foldl stepE n ≤ 99999999
  | [], n, h0, h1, _ => ⟨h0, h1⟩
  | c :: r, n, h0, h1, ha => by
    rw [List.all_cons, Bool.and_eq_true] at ha
    obtain ⟨g0, g1⟩ := stepE_bounds h0 h1 ha.1
    exact foldE_bounds r _ g0 g1 ha.2

theorem all_takeWhile (f : UInt8 → Bool) : ∀ s : List UInt8, (s.takeWhile f).all f = true
  | [] => rfl
  | a :: r => by
    rw [List.takeWhile_cons]
    split
    · rename_i h; rw [List.all_cons, h, all_takeWhile f r]; rfl
    · rfl

theorem takeWhile_le (f : UInt8 → Bool) (s : List UInt8) : (s.takeWhile f).length ≤ s.length := by
  have := congrArg List.length (List.takeWhile_append_dropWhile (p := f) (l := s))
  rw [List.length_append] at this
  omega

/-- The rest of exponent's work, the text cut: what the model asks is the same whatever way led here. -/
def Q50 (s : List UInt8) (h : Heap) : AV → Heap → Prop := fun r h' =>
  (∃ e, expE s = some e ∧ r = .tuple [.int .i64 e, nilE] ∧ h' = h) ∨ (expE s = none ∧ ∃ id, h id = none ∧ r = .tuple [.int .i64 0, errAt id] ∧ h' = updH h id (some wrongO))

theorem c50 (s : List UInt8) (hs : s.length ≤ 9223372036854775807) (h : Heap) : ACalls Tryz.prog 50 [.str s] h (Q50 s h) := by
  refine ACalls.of_code tyOK Tryz.func50 rfl (by kernel_rfl) (Nat.le_of_ble_eq_true rfl) ?_
  refine ACode.cut tyOK (fun d => Nat.beq d 22 || Nat.beq d 56) 3 (fun _ : Unit => s ≠ [] ∧ expE s = tailE (signE (s.drop 1)).1 (signE (s.drop 1)).2) [0] [] (fun _ => []) (fun _ => []) (fun _ => h) (fun _ _ => rfl) (fun _ _ => rfl) ?_ ?_
  · conv => whnf
    refine branch_of (fun hb => ?_) (fun hb => ?_)
    · have hb : s = [] := eq_of_beq (show (s == []) = true from hb)
      conv => whnf
      exact ⟨_, _, Weak.refl _ _, .inl ⟨0, by rw [expE, if_pos hb], rfl, rfl⟩⟩
    have hne : s ≠ [] := ne_of_beq_false (show (s == []) = false from hb)
    have hpos : 0 < s.length := List.length_pos_iff.2 hne
    conv => whnf
    refine ⟨⟨by omega, by show (0 : Int) < (s.length : Int); omega⟩, ?_⟩
    conv => whnf
    have hb0 : ∀ c : UInt8, ((bt s 0 : Int) != (c.toNat : Int)) = !(s.getD 0 0 == c) := fun c => by
      have := beq_toNat (s.getD 0 0) c
      show (!((s.getD 0 0).toNat : Int) == (c.toNat : Int)) = _
      rw [this]
    have rest : (s.getD 0 0 = 101 ∨ s.getD 0 0 = 69) → expE s = tailE (signE (s.drop 1)).1 (signE (s.drop 1)).2 := fun hor => by
      rw [expE, if_neg hne, if_neg]
      rintro ⟨h1, h2⟩
      rcases hor with e | e
      · exact h1 e
      · exact h2 e
    refine branch_of (fun h1 => ?_) (fun h1 => ?_)
    · have h1 : ((bt s 0 : Int) != ((101 : UInt8).toNat : Int)) = true := h1
      rw [hb0] at h1
      have h1 : s.getD 0 0 ≠ 101 := by simpa using h1
      conv => whnf
      refine ⟨⟨by omega, by show (0 : Int) < (s.length : Int); omega⟩, ?_⟩
      conv => whnf
      refine branch_of (fun h2 => ?_) (fun h2 => ?_)
      · have h2 : ((bt s 0 : Int) != ((69 : UInt8).toNat : Int)) = true := h2
        rw [hb0] at h2
        have h2 : s.getD 0 0 ≠ 69 := by simpa using h2
        conv => whnf
        intro id hid
        conv => whnf
        exact ⟨_, _, Weak.refl _ _, .inr ⟨by rw [expE, if_neg hne, if_pos ⟨h1, h2⟩], id, hid, rfl, rfl⟩⟩
      · have h2 : ((bt s 0 : Int) != ((69 : UInt8).toNat : Int)) = false := h2
        rw [hb0] at h2
        have h2 : s.getD 0 0 = 69 := by simpa using h2
        conv => whnf
        exact ⟨(), ⟨hne, rest (.inr h2)⟩, trivial, trivial, HLe.refl _, ⟨rfl, trivial⟩, trivial⟩
    · have h1 : ((bt s 0 : Int) != ((101 : UInt8).toNat : Int)) = false := h1
      rw [hb0] at h1
      have h1 : s.getD 0 0 = 101 := by simpa using h1
      conv => whnf
      exact ⟨(), ⟨hne, rest (.inl h1)⟩, trivial, trivial, HLe.refl _, ⟨rfl, trivial⟩, trivial⟩
  rintro _ ⟨hne, hrest⟩
  have hpos : 0 < s.length := List.length_pos_iff.2 hne
  refine ACode.cut tyOK (fun d => Nat.beq d 22 || Nat.beq d 56) 3 (fun q : Int × List UInt8 => expE s = tailE q.1 q.2 ∧ q.2.length ≤ s.length ∧ (q.1 = 1 ∨ q.1 = -1)) [] [] (fun q => [(0, .str q.2), (4, .int .i64 q.1)]) (fun _ => []) (fun _ => h) (fun _ _ => rfl) (fun _ _ => rfl) ?_ ?_
  · conv => whnf
    refine ⟨by show (0 : Int) ≤ 1 ∧ (1 : Int) ≤ s.length ∧ (s.length : Int) ≤ s.length; omega, ?_⟩
    conv => whnf
    generalize ht : s.drop 1 = t at hrest
    have htl : t.length ≤ s.length := by rw [← ht]; simp
    have hb0 : ∀ c : UInt8, ((bt t 0 : Int) == (c.toNat : Int)) = (t.getD 0 0 == c) := fun c => beq_toNat (t.getD 0 0) c
    refine branch_of (fun h1 => ?_) (fun h1 => ?_)
    · have h1 : (t != []) = true := ht ▸ h1
      have htne : t ≠ [] := by simpa using h1
      have htp : 0 < t.length := List.length_pos_iff.2 htne
      conv => whnf
      refine ⟨by show (0 : Int) ≤ 0 ∧ (0 : Int) < ((s.drop 1).length : Int); rw [ht]; omega, ?_⟩
      conv => whnf
      refine branch_of (fun h2 => ?_) (fun h2 => ?_)
      · have h2 : ((bt (s.drop 1) 0 : Int) == ((43 : UInt8).toNat : Int)) = true := h2
        rw [ht, hb0] at h2
        have h2 : t.getD 0 0 = 43 := by simpa using h2
        conv => whnf
        refine ⟨by show (0 : Int) ≤ 0 ∧ (0 : Int) < ((s.drop 1).length : Int); rw [ht]; omega, ?_⟩
        conv => whnf
        refine branch_of (fun h3 => ?_) (fun h3 => ?_)
        · have h3 : ((bt (s.drop 1) 0 : Int) == ((45 : UInt8).toNat : Int)) = true := h3
          rw [ht, hb0, h2] at h3
          exact absurd h3 (by decide)
        · conv => whnf
          refine ⟨by show (0 : Int) ≤ 1 ∧ (1 : Int) ≤ ((s.drop 1).length : Int) ∧ ((s.drop 1).length : Int) ≤ (s.drop 1).length; rw [ht]; omega, ?_⟩
          conv => whnf
          refine ⟨(1, (s.drop 1).drop 1), ⟨?_, by simp, .inl rfl⟩, ⟨rfl, rfl, trivial⟩, trivial, HLe.refl _, trivial, trivial⟩
          rw [hrest, ht, signE, if_neg htne, if_pos h2]
      · have h2 : ((bt (s.drop 1) 0 : Int) == ((43 : UInt8).toNat : Int)) = false := h2
        rw [ht, hb0] at h2
        have h2 : ¬ t.getD 0 0 = 43 := by simpa using h2
        conv => whnf
        refine ⟨by show (0 : Int) ≤ 0 ∧ (0 : Int) < ((s.drop 1).length : Int); rw [ht]; omega, ?_⟩
        conv => whnf
        refine branch_of (fun h3 => ?_) (fun h3 => ?_)
        · have h3 : ((bt (s.drop 1) 0 : Int) == ((45 : UInt8).toNat : Int)) = true := h3
          rw [ht, hb0] at h3
          have h3 : t.getD 0 0 = 45 := by simpa using h3
          conv => whnf
          refine ⟨by show (0 : Int) ≤ 0 ∧ (0 : Int) < ((s.drop 1).length : Int); rw [ht]; omega, ?_⟩
          conv => whnf
          refine branch_of (fun h4 => ?_) (fun h4 => ?_)
          · conv => whnf
            refine ⟨by show (0 : Int) ≤ 1 ∧ (1 : Int) ≤ ((s.drop 1).length : Int) ∧ ((s.drop 1).length : Int) ≤ (s.drop 1).length; rw [ht]; omega, ?_⟩
            conv => whnf
            refine ⟨(-1, (s.drop 1).drop 1), ⟨?_, by simp, .inr rfl⟩, ⟨rfl, rfl, trivial⟩, trivial, HLe.refl _, trivial, trivial⟩
            rw [hrest, ht, signE, if_neg htne, if_neg h2, if_pos h3]
          · have h4 : ((bt (s.drop 1) 0 : Int) == ((45 : UInt8).toNat : Int)) = false := h4
            rw [ht, hb0, h3] at h4
            exact absurd h4 (by decide)
        · have h3 : ((bt (s.drop 1) 0 : Int) == ((45 : UInt8).toNat : Int)) = false := h3
          rw [ht, hb0] at h3
          have h3 : ¬ t.getD 0 0 = 45 := by simpa using h3
          conv => whnf
          refine ⟨(1, s.drop 1), ⟨?_, by simp, .inl rfl⟩, ⟨rfl, rfl, trivial⟩, trivial, HLe.refl _, trivial, trivial⟩
          rw [hrest, ht, signE, if_neg htne, if_neg h2, if_neg h3]
    · have h1 : (s.drop 1 != []) = false := h1
      rw [ht] at h1
      have htn : t = [] := by simpa using h1
      conv => whnf
      refine ⟨(1, s.drop 1), ⟨?_, by simp, .inl rfl⟩, ⟨rfl, rfl, trivial⟩, trivial, HLe.refl _, trivial, trivial⟩
      rw [hrest, ht, signE, if_pos htn]
  rintro ⟨sg, u⟩ ⟨hsp, hul, hsg⟩
  simp only at hsp hul hsg
  refine ACode.go tyOK (fun d => Nat.beq d 22 || Nat.beq d 56) ?_
  conv => whnf
  refine (c48 u (by omega) _).mono ?_
  rintro r h' (⟨hd, rfl, rfl⟩ | ⟨hd, id, hid, rfl, rfl⟩)
  · conv => whnf
    refine branch_of (fun h1 => ?_) (fun h1 => ?_)
    · have h1 : (u.dropWhile isDigit != []) = true := h1
      have h1 : u.dropWhile isDigit ≠ [] := by simpa using h1
      conv => whnf
      intro id hid
      conv => whnf
      exact ⟨_, _, Weak.refl _ _, .inr ⟨by rw [hsp, tailE, if_pos (.inr h1)], id, hid, rfl, rfl⟩⟩
    · have h1 : (u.dropWhile isDigit != []) = false := h1
      have h1 : u.dropWhile isDigit = [] := by simpa using h1
      have hval : expE s = some (sg * foldE (u.takeWhile isDigit)) := by
        rw [hsp, tailE, if_neg]
        rintro (h | h)
        · exact hd h
        · exact h h1
      have hall := all_takeWhile isDigit u
      have hdl := takeWhile_le isDigit u
      generalize hds : u.takeWhile isDigit = ds at hval hall hdl hd
      conv => whnf
      refine ⟨by omega, ?_⟩
      conv => whnf
      refine ACode.loop tyOK (fun d => Nat.beq d 22 || Nat.beq d 56) (fun i : Nat => i ≤ ds.length) (fun i => ds.length - i) [4, 59, 60] [] (fun i => [(61, .int .i64 (i : Int)), (8, .int .i64 ((ds.take i).foldl stepE 0))]) (fun _ => []) (fun _ => h') 0 (Nat.zero_le _) ⟨rfl, rfl, trivial⟩ trivial (HLe.refl _) (fun _ _ => rfl) (fun _ _ => rfl) ?_
      intro i hi
      obtain ⟨f0, f1⟩ := foldE_bounds (ds.take i) 0 (by omega) (by omega) (by rw [List.all_eq_true] at hall ⊢; exact fun x hx => hall x (List.mem_of_mem_take hx))
      have hlen : (ds.map byteA).length = ds.length := by simp
      conv => whnf
      refine branch_of (fun hc => ?_) (fun hc => ?_)
      · have hc : (i : Int) < ((ds.map byteA).length : Int) := of_decide_eq_true hc
        rw [hlen] at hc
        have hil : i < ds.length := by omega
        conv => whnf
        refine ⟨by show (0 : Int) ≤ i ∧ (i : Int) < ((ds.map byteA).length : Int); rw [hlen]; omega, ?_⟩
        conv => whnf
        refine ⟨byteA (ds.getD i 0), ?_, ?_⟩
        · show (ds.map byteA).getD i .undef = _
          simp [List.getD_eq_getElem?_getD, hil]
        conv => whnf
        have hdg : isDigit (ds.getD i 0) = true := List.all_eq_true.1 hall _ (by simp [List.getD_eq_getElem?_getD, hil])
        have hstep : (ds.take (i + 1)).foldl stepE 0 = stepE ((ds.take i).foldl stepE 0) (ds.getD i 0) := by
          rw [List.take_succ_eq_append_getElem hil, List.foldl_append]
          simp [List.getD_eq_getElem?_getD, hil]
        refine ⟨i + 1, by omega, by omega, ⟨⟨int_congr (wi64 (by omega) (by omega)), ?_, trivial⟩, trivial, HLe.refl _, ⟨rfl, rfl, rfl, trivial⟩, trivial⟩⟩
        rw [hstep]
        simp only [isDigit, Bool.and_eq_true, decide_eq_true_eq] at hdg
        have hd1 := u8_le.1 hdg.1
        have hd2 := u8_le.1 hdg.2
        have h48 : (48 : UInt8).toNat = 48 := rfl
        have h57 : (57 : UInt8).toNat = 57 := rfl
        generalize (ds.take i).foldl stepE 0 = n at f0 f1
        generalize ds.getD i 0 = c at hd1 hd2
        have e1 : IntKind.u8.wrap ((c.toNat : Int) - 48) = (c.toNat : Int) - 48 := wu8 (by omega) (by omega)
        have e2 : IntKind.i64.wrap (IntKind.u8.wrap ((c.toNat : Int) - 48)) = (c.toNat : Int) - 48 := by rw [e1]; exact wi64 (by omega) (by omega)
        have e3 : IntKind.i64.wrap (n * 10) = n * 10 := wi64 (by omega) (by omega)
        have e4 : IntKind.i64.wrap (n * 10 + ((c.toNat : Int) - 48)) = n * 10 + ((c.toNat : Int) - 48) := wi64 (by omega) (by omega)
        show AV.int .i64 (if (99999999 : Int) < IntKind.i64.wrap (IntKind.i64.wrap (n * 10) + IntKind.i64.wrap (IntKind.u8.wrap ((c.toNat : Int) - 48))) then 99999999 else IntKind.i64.wrap (IntKind.i64.wrap (n * 10) + IntKind.i64.wrap (IntKind.u8.wrap ((c.toNat : Int) - 48)))) = _
        rw [e2, e3, e4]; rfl
      · have hc : ¬ (i : Int) < ((ds.map byteA).length : Int) := of_decide_eq_false hc
        rw [hlen] at hc
        have hil : i = ds.length := by omega
        conv => whnf
        refine ⟨_, _, Weak.refl _ _, .inl ⟨sg * foldE ds, hval, ?_, rfl⟩⟩
        have e0 : (ds.take i).foldl stepE 0 = foldE ds := by rw [hil, List.take_length]; rfl
        rw [e0] at f0 f1
        have ew : IntKind.i64.wrap (sg * (ds.take i).foldl stepE 0) = sg * foldE ds := by
          rw [e0]
          rcases hsg with e | e <;> rw [e] <;> exact wi64 (by omega) (by omega)
        rw [← ew]; rfl
  · conv => whnf
    intro id2 hid2
    conv => whnf
    obtain ⟨q1, q2⟩ := updH_none hid2
    exact ⟨_, _, Weak.le (hle_under hid), .inr ⟨by rw [hsp, tailE, if_pos (.inl hd)], id2, q2, rfl, rfl⟩⟩

end Go.Proofs.YtdgnciclfeojnaaGreatDoor
