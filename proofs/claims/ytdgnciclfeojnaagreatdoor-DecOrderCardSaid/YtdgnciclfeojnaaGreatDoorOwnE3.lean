/- A part of the proof (own lemmas, no condition beyond those that each theorem states): facts on the functions that the statements of this seat reach. -/
import Derived.Test.YtdgnciclfeojnaaGreatDoorOwnE1
import Derived.Test.YtdgnciclfeojnaaGreatDoorOwnE2
set_option maxRecDepth 100000
set_option linter.unusedVariables false
set_option linter.unusedSectionVars false
set_option linter.unusedSimpArgs false
namespace Go.Proofs.YtdgnciclfeojnaaGreatDoor
open Go Go.Lift Go.RowKit

theorem c52 (idT idE : Nat) (x : AV) (h : Heap) (hT : h idT = some (.cells [x])) : ACalls Tryz.prog 52 [.iface 83 (.ptr idE 0), .iface 90 (.ptr idT 0)] h fun r h' => r = .bool true ∧ h' = updH h idT (some (.cells [.ptr idE 0])) := by
  refine ACalls.of_calls Tryz.func52 rfl (by kernel_rfl) fun M ρ w vs s hr => ?_
  have r0 := hr.2 0 (by simp)
  have r1 := hr.2 1 (by simp)
  have hsz := hr.1
  simp only [List.length_cons, List.length_nil] at hsz
  have hvs : vs = #[vs.getD 0 Go.undef, vs.getD 1 Go.undef] := by
    apply Array.ext
    · simp [← hsz]
    · intro i h1 h2
      have : i = 0 ∨ i = 1 := by omega
      rcases this with rfl | rfl <;> simp [Array.getD_eq_getD_getElem?, ← hsz]
  rw [hvs]
  generalize vs.getD 0 Go.undef = v0 at r0
  generalize vs.getD 1 Go.undef = v1 at r1
  have k0 : Rel M ρ (.iface 83 (.ptr idE 0)) v0 := r0
  have k1 : Rel M ρ (.iface 90 (.ptr idT 0)) v1 := r1
  clear r0 r1
  cases k0 with
  | iface _ _ u0 m0 =>
    cases k1 with
    | iface _ _ u1 m1 =>
      cases m0 with
      | ptr _ _ pE hpE =>
        cases m1 with
        | ptr _ _ pT hpT =>
          obtain ⟨p', q1, q2, arr, el, q3, q4⟩ := s.obj idT _ hT
          rw [hpT] at q1; cases q1
          have hasz := q4.1
          simp at hasz
          have hg : w.cell? ⟨0, 0, none⟩ = some (.iface 123 (.agg #[.pointer (some ⟨9, 55, none⟩)])) := by
            have := s.glob 0 _ rfl
            cases this with
            | ept _ _ _ _ _ hx hk hg cv hv hh =>
              have h1 := hv 0 (by omega)
              have h2 := hh 0 (by omega)
              have h2 : Rel M ρ (.opq (.iface 123 (.agg #[.pointer (some ⟨9, 55, none⟩)]))) (cv 0) := h2
              generalize cv 0 = z at h1 h2
              cases h2
              exact s.mem _ _ h1
          have ht0 : w.cell? ⟨pT.b, 0, none⟩ = some arr[0] := by simp [World.cell?, q3, ← hasz]
          have hf0 : w.frozen? ⟨pT.b, 0, none⟩ = false := by simp [World.frozen?, q3]
          refine Calls.mono (as_hit ⟨pE.b, 0, none⟩ ⟨pT.b, 0, none⟩ arr[0] w hg ht0 hf0) ?_
          rintro e w' ⟨rfl, rfl⟩
          obtain ⟨a1, b1⟩ := step_alloc s #[.pointer (some ⟨pT.b, 0, none⟩)] 90
          obtain ⟨a2, b2⟩ := step_alloc b1 #[.pointer (some ⟨9, 90, none⟩), .pointer (some ⟨w.heap.size, 0, none⟩), .int .u64 150] 103
          obtain ⟨a3, b3⟩ := step_alloc b2 #[.pointer (some ⟨9, 90, none⟩), .pointer (some ⟨w.heap.size, 0, none⟩), .int .u64 150] 103
          obtain ⟨a4, b4⟩ := step_alloc b3 #[.pointer (some ⟨pE.b, 0, none⟩)] 83
          obtain ⟨a5, b5⟩ := step_setCell b4 (y := .ptr idE 0) (v := .pointer (some ⟨pE.b, 0, none⟩)) hT hpT (.ptr idE 0 pE hpE)
          exact ⟨_, _, _, _, _, rfl, (((a1.trans a2).trans a3).trans a4).trans a5, b5, .bool true, rfl, rfl⟩

theorem c28 (idE : Nat) (h : Heap) (hE : h idE = some wrongO) : ACalls Tryz.prog 28 [errAt idE] h fun r h' => r = .int .i64 30 ∧ h' = h := by
  refine ACalls.of_body tyOK (fun d => Nat.beq d 3) Tryz.func28 rfl (by kernel_rfl) (Nat.le_of_ble_eq_true rfl) ?_
  conv => whnf
  intro idT hidT
  have hne : idE ≠ idT := fun e => by rw [e] at hE; rw [hE] at hidT; cases hidT
  conv => whnf
  refine (c52 idT idE _ _ (updH_same _ _ _)).mono ?_
  rintro r h' ⟨rfl, rfl⟩
  conv => whnf
  refine ⟨_, updH_same _ _ _, Nat.le_of_ble_eq_true rfl, ?_⟩
  conv => whnf
  refine ⟨.ptr idE 0, rfl, ?_⟩
  conv => whnf
  refine ⟨[.int .i64 30], ?_, Nat.le_of_ble_eq_true rfl, ?_⟩
  · rw [updH_ne _ _ _ hne, updH_ne _ _ _ hne]; exact hE
  conv => whnf
  refine ⟨.int .i64 30, rfl, ?_⟩
  conv => whnf
  exact ⟨_, _, Weak.le (hle_new2 hidT), rfl, rfl⟩

/-- What dec.Parse says. -/
def parse12 (s : List UInt8) : Dec × Int :=
  match parseR s with
  | none => (dec0, 30)
  | some (d, n) => if n > 65536 ∨ d.exp < -1000000 ∨ d.exp > 1000000 then (dec0, 31) else (d, 0)

theorem c12 (s : List UInt8) (hs : s.length ≤ 4611686018427387904) (h : Heap) : ACalls Tryz.prog 12 [.str s] h fun r h' => r = .tuple [encD (parse12 s).1, .int .i64 (parse12 s).2] ∧ h' = h := by
  refine ACalls.of_body tyOK (fun _ => false) Tryz.func12 rfl (by kernel_rfl) (Nat.le_of_ble_eq_true rfl) ?_
  conv => whnf
  refine (c27 s hs _).mono ?_
  rintro r h' (⟨d, n, hp, rfl, rfl⟩ | ⟨hp, id, hid, rfl, rfl⟩)
  · have hspec : parse12 s = if n > 65536 ∨ d.exp < -1000000 ∨ d.exp > 1000000 then (dec0, 31) else (d, 0) := by rw [parse12, hp]
    conv => whnf
    refine branch_of (fun h1 => ?_) (fun h1 => ?_)
    · have h1 : (n : Int) > 65536 := of_decide_eq_true h1
      conv => whnf
      exact ⟨_, _, Weak.refl _ _, by rw [hspec, if_pos (.inl (by omega))]; rfl, rfl⟩
    · have h1 : ¬ (n : Int) > 65536 := of_decide_eq_false h1
      conv => whnf
      refine branch_of (fun h2 => ?_) (fun h2 => ?_)
      · have h2 : d.exp < -1000000 := of_decide_eq_true h2
        conv => whnf
        exact ⟨_, _, Weak.refl _ _, by rw [hspec, if_pos (.inr (.inl h2))]; rfl, rfl⟩
      · have h2 : ¬ d.exp < -1000000 := of_decide_eq_false h2
        conv => whnf
        refine branch_of (fun h3 => ?_) (fun h3 => ?_)
        · have h3 : d.exp > 1000000 := of_decide_eq_true h3
          conv => whnf
          exact ⟨_, _, Weak.refl _ _, by rw [hspec, if_pos (.inr (.inr h3))]; rfl, rfl⟩
        · have h3 : ¬ d.exp > 1000000 := of_decide_eq_false h3
          conv => whnf
          refine ⟨_, _, Weak.refl _ _, ?_, rfl⟩
          rw [hspec, if_neg]
          · rfl
          · rintro (e | e | e)
            · omega
            · exact h2 e
            · exact h3 e
  · have hspec : parse12 s = (dec0, 30) := by rw [parse12, hp]
    conv => whnf
    refine (c28 id _ (updH_same _ _ _)).mono ?_
    rintro r h2 ⟨rfl, rfl⟩
    conv => whnf
    exact ⟨_, _, Weak.le (hle_new hid), by rw [hspec]; rfl, rfl⟩

end Go.Proofs.YtdgnciclfeojnaaGreatDoor
