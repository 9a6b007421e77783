/- A part of the proof (own lemmas, no condition beyond those that each theorem states): facts on the functions that the statements of this seat reach. -/
import Derived.Test.YtdgnciclfeojnaaGreatDoorOwnE7
set_option maxRecDepth 100000
set_option linter.unusedVariables false
set_option linter.unusedSectionVars false
set_option linter.unusedSimpArgs false
namespace Go.Proofs.YtdgnciclfeojnaaGreatDoor
open Go Go.Lift Go.RowKit

theorem mapU_flat (ns : List Int) : flat (ns.map U) = ns.map U := by
  induction ns with
  | nil => rfl
  | cons a r ih =>
    simp only [flat, List.map_cons, List.flatMap_cons] at ih ⊢
    rw [ih]; rfl

/-- A row of limbs, frozen. -/
theorem weak_limbs {id n c : Nat} {h : Heap} {ns : List Int} (hid : h id = some (.cells (ns.map U))) (hn : n = ns.length) (hc : c = n) (hm : n ≤ 9223372036854775807) : Weak (.row id 0 n c) h (limbs ns .full) (updH h id none) := by
  have hel : ∀ x ∈ ns.map U, elemOK 1 false x := fun x hx => by
    obtain ⟨y, _, rfl⟩ := List.mem_map.1 hx; exact ⟨rfl, rfl, rfl⟩
  have hfl := mapU_flat ns
  have := Weak.row (k := 1) (g := false) (els := ns.map U) (off := 0) (n := n) (c := c) true hid hel (by rw [hfl, List.drop_zero, List.take_of_length_le (by simp [hn])]) (by simp [hn]) (by simp [hn]) hm (by omega) (fun x hx => by
    obtain ⟨y, _, rfl⟩ := List.mem_map.1 hx; rfl) (fun _ => hc)
  exact this

theorem c69_one (n d : Int) (c : Cap) (hn : 0 ≤ n) (hn2 : n < 1000000000) (hd : 0 < d) (hd2 : d < 4294967296) (h : Heap) :
    ACalls Tryz.prog 69 [limbs [n] c, U d] h fun r h' => r = .tuple [limbs (trimN [n.tdiv d] 1) .full, limbs (trimN [n.tmod d] 1) .full] ∧ h' = h := by
  refine ACalls.of_body tyOK (fun s => Nat.beq s 11) Tryz.func69 rfl (by kernel_rfl) (Nat.le_of_ble_eq_true rfl) ?_
  have q0 : 0 ≤ n.tdiv d := Int.tdiv_nonneg hn (by omega)
  have q1 : n.tdiv d ≤ n := Int.tdiv_le_self _ hn
  have m0 : 0 ≤ n.tmod d := Int.tmod_nonneg _ hn
  have m1 : n.tmod d < d := Int.tmod_lt_of_pos _ hd
  have e1 : IntKind.u64.wrap n = n := wu64 (by omega) (by omega)
  have e2 : IntKind.u64.wrap d = d := wu64 (by omega) (by omega)
  conv => whnf
  refine ⟨by show (0 : Int) ≤ 1 ∧ (1 : Int) ≤ 1 ∧ ((4 : Nat) : Int) * 1 ≤ 281474976710656; omega, fun id hid => ?_⟩
  conv => whnf
  refine ACode.rounds 2 ?_
  refine ARounds.step tyOK (fun s => Nat.beq s 11) ?_
  conv => whnf
  refine ⟨by show (0 : Int) ≤ IntKind.i64.wrap (((1 : Nat) : Int) - 1) ∧ IntKind.i64.wrap (((1 : Nat) : Int) - 1) < ((1 : Nat) : Int); decide, ?_⟩
  conv => whnf
  refine ⟨U n, rfl, ?_⟩
  conv => whnf
  refine ACode.draw tyOK mixed (fun s => Nat.beq s 11) [(true, 0), (true, 1), (true, 2), (true, 3), (true, 4), (true, 5), (true, 6), (true, 7), (true, 8), (true, 9), (true, 10), (true, 11), (false, 12), (true, 13)] (by kernel_rfl) (by kernel_rfl) ?_
  conv => whnf
  have z0 : IntKind.u64.wrap (IntKind.u64.wrap (0 * 1000000000) + IntKind.u64.wrap n) = n := by rw [e1, show IntKind.u64.wrap (0 * 1000000000) = 0 by decide, Int.zero_add]; exact e1
  have z1 : IntKind.u64.wrap (n.tdiv d) = n.tdiv d := wu64 (by omega) (by omega)
  have z2 : IntKind.u32.wrap (n.tdiv d) = n.tdiv d := wu32 (by omega) (by omega)
  have z3 : IntKind.u32.wrap (n.tmod d) = n.tmod d := wu32 (by omega) (by omega)
  refine ⟨by show IntKind.u64.wrap d ≠ 0; rw [e2]; omega, ?_⟩
  conv => whnf
  refine ⟨by show IntKind.u64.wrap d ≠ 0; rw [e2]; omega, ?_⟩
  conv => whnf
  refine ⟨by show (0 : Int) ≤ IntKind.i64.wrap (((1 : Nat) : Int) - 1) ∧ IntKind.i64.wrap (((1 : Nat) : Int) - 1) < ((1 : Nat) : Int); decide, ?_⟩
  conv => whnf
  refine ⟨_, updH_same _ _ _, by show 0 + (IntKind.i64.wrap (((1 : Nat) : Int) - 1)).toNat * 1 + 1 ≤ 1; decide, ?_⟩
  conv => whnf
  refine ARounds.step tyOK (fun s => Nat.beq s 11) ?_
  conv => whnf
  have hcells : putCells [U 0] (0 + (IntKind.i64.wrap (((1 : Nat) : Int) - 1)).toNat * 1) (AV.cells (U (IntKind.u32.wrap (IntKind.u64.wrap ((IntKind.u64.wrap (IntKind.u64.wrap (0 * 1000000000) + IntKind.u64.wrap n)).tdiv (IntKind.u64.wrap d)))))) = [n.tdiv d].map U := by
    rw [z0, e2, z1, z2]; rfl
  refine ACalls.arg 0 (Nat.le_of_ble_eq_true rfl) (weak_limbs (ns := [n.tdiv d]) ((updH_same _ _ _).trans (congrArg (fun c => some (AObj.cells c)) hcells)) rfl rfl (Nat.le_of_ble_eq_true rfl)) ?_
  refine ACalls.at (args' := [limbs [n.tdiv d] .full]) rfl ((c30 [n.tdiv d]   .full (Nat.le_of_ble_eq_true rfl) _).mono ?_)
  rintro r h2 ⟨rfl, rfl⟩
  conv => whnf
  refine ACalls.at (args' := [limbs [n.tmod d] .full]) ?_ ((c30 [n.tmod d]   .full (Nat.le_of_ble_eq_true rfl) _).mono ?_)
  · show [AV.sl 1 false [U (IntKind.u32.wrap ((IntKind.u64.wrap (IntKind.u64.wrap (0 * 1000000000) + IntKind.u64.wrap n)).tmod (IntKind.u64.wrap d)))] .full] = _
    rw [z0, e2, z3]; rfl
  rintro r h2 ⟨rfl, rfl⟩
  conv => whnf
  refine ⟨_, _, Weak.le (fun i => ?_), rfl, rfl⟩
  by_cases e : i = id
  · subst e; exact .inl hid
  · exact .inr (by rw [updH_ne _ _ _ e, updH_ne _ _ _ e, updH_ne _ _ _ e])

end Go.Proofs.YtdgnciclfeojnaaGreatDoor
