/- The given statement VmKindsCardSaid (the law VmKinds, its row tied to the program, for every input): proved without a further condition. -/
import Derived.Test.YtobpjbcgmdbncaaGreatDoorOwnVF
import Derived.Test.YtobpjbcgmdbncaaGreatDoorCards
import Derived.Test.YtobpjbcgmdbncaaGreatDoorTie
import Derived.WalkKit
import Derived.ProofKit
import Derived.OpenShut
import Derived.Deep.DeepHandedRow
import Derived.Stop.Joined
import Derived.Deep.Strs
set_option maxRecDepth 1000000
set_option linter.unusedVariables false
set_option linter.unusedSectionVars false
set_option linter.unusedSimpArgs false
namespace Go.Proofs.YtobpjbcgmdbncaaGreatDoor
open Go Go.Lift Go.RowKit Go.ChangeShapes Go.WideShapes Go.ChangeAt
namespace R5
theorem own : ownKnob Tryz.prog.godebug = none := by kernel_rfl
theorem laidOut : laidOutB Tryz.prog = true := by kernel_rfl
theorem closed : closedT Tryz.prog [28, 22, 24, 9, 25, 26, 4, 3] = true := by kernel_rfl
/-- What the row lists. -/
def laidAll : List (String × DataW Unit) := Rows.vmKindsRow.laid

theorem contract {s : ChangeSpec} (hs : ∀ (H : Type) (d0 : DataW H), s.fn H [d0] = { results := [.lit (.bool true)], args := [d0] }) (hsv : s.vars = []) (H : Type) (enc : TypeId × Value → H) (W : World) (base : Nat) (args : Array Value) (ds gs : List (DataW H)) (before : List MemPlace)
    (hval : ∀ (j : Nat) t v, Tryz.f5.params[j]? = some t → args[j]? = some v → Value.okWide Tryz.prog W .any base t v)
    (hW : DataW.Whole enc Tryz.prog Tryz.f5.params.toList s.vars false W args.toList ds gs before) (hL : laidMetH Tryz.prog laidAll W) :
    Calls Tryz.prog 5 args W fun e W' => ∃ v, e = .returned v ∧ s.post enc Tryz.prog Tryz.f5 false true false false W args v W' := by
  have hW' := hW
  obtain ⟨p, q, hA0, hV, rfl, hfz, hnd⟩ := hW
  have hA : DataW.TrodAll enc Tryz.prog W 0 (fun _ => true) true Tryz.f5.params.toList args.toList ds p := hA0
  rw [Tryz.params5] at hA hval
  obtain ⟨v0, vs0, d0, ds0, p0, q0, hargs, rfl, rfl, h0, r0⟩ := trodAll_cons hA
  obtain ⟨rfl, rfl, rfl⟩ := trodAll_nil r0
  obtain rfl : args = #[v0] := by cases args; simp_all
  obtain ⟨a0, n0, ra0, sh0⟩ := arg_any closed (by decide) (hval 0 28 v0 rfl rfl) h0
  have sim := sim0 (tabs_of hL)
  have hr : Rels W.cell? rho0 [a0] #[v0] := ⟨rfl, fun i hi => by
    have hi2 : i < 1 := hi
    match i, hi2 with
    | 0, _ => exact ra0⟩
  refine Calls.mono ((law5s n0 a0 sh0 heap0).calls Tryz.func5 rfl (by kernel_rfl) sim hr) ?_
  rintro e W2 ⟨v, r, h', M', ρ', rfl, st, sm, rl, rfl, rfl⟩
  cases rl
  have hgs : gs = [] := by
    rw [hsv] at hV
    cases gs with
    | nil => rfl
    | cons _ _ => exact hV.elim
  subst hgs
  refine ⟨_, rfl, law_post laidOut (fun t ht => ?_) (bt := 4) (by kernel_rfl) Tryz.underlying4 hsv (hs H _) hW' (below_of st)⟩
  rw [Tryz.params5] at ht
  have hall : ([28] : List TypeId).all (fun t => Tryz.prog.readableRec t && Nat.ble (t + 1) Tryz.prog.types.size) = true := by kernel_rfl
  have := List.all_eq_true.1 hall t (by simpa using ht)
  simp only [Bool.and_eq_true] at this
  exact ⟨this.1, Nat.le_of_ble_eq_true this.2⟩

def laidCells : List (Nat × Array Value) := [(1, (cellsOfD (H := Unit) Rows.laid_unicode_utf8_acceptRanges).toArray), (0, (cellsOfD (H := Unit) Rows.laid_unicode_utf8_first).toArray)]
noncomputable def laidWorld (os : Os) : World :=
  { World.holding Tryz.prog os ⟨#[], #[], []⟩ with heap := layAll (World.holding Tryz.prog os ⟨#[], #[], []⟩).heap laidCells }
def z0 : Value := .agg #[.int .i64 0, .bool false, .string ⟨#[]⟩, .int .i64 0, .string ⟨#[]⟩, .slice none 0 0, .slice none 0 0]
def y0 {H : Type} : DataW H := .agg [.lit (.int .i64 0), .agg [.lit (.bool false), .lit (.string []), .lit (.int .i64 0)], .lit (.string []), .nil, .nil]
theorem laid_met (os : Os) : laidMetH Tryz.prog laidAll ((laidWorld os).forCall (fun _ _ => 0) ⟨#[], #[z0], []⟩).memory :=
  laidMetH_of_parts (laidMet_of_run' 8 (by kernel_rfl) (by kernel_rfl)) (by kernel_rfl)
theorem reads (os : Os) {H : Type} (enc : TypeId × Value → H) : ∃ places, DataW.whole enc Tryz.prog ((laidWorld os).forCall (fun _ _ => 0) ⟨#[], #[z0], []⟩).memory Tryz.f5.params.toList [] false #[z0].toList 8 = some ([y0], [], places) :=
  ⟨[], by kernel_rfl⟩

theorem lifted (os : Os) (started : os.Started) (H : Type) (enc : TypeId × Value → H) (F : Stop.Interp) :
    ReturnsInHanded {} Tryz.checked os 5 .any ((OpenSpec.ofChange Rows.vmKindsSpec).preRow enc Tryz.prog Tryz.f5 Rows.vmKindsRow.domain false Rows.vmKindsRow.laid) (((OpenSpec.ofChange Rows.vmKindsSpec).at F).post enc Tryz.prog Tryz.f5 false true false false) := by
  obtain ⟨places, hx⟩ := reads os enc
  refine returnsInHanded_of_row (C := Tryz.checked) (s := OpenSpec.ofChange Rows.vmKindsSpec) own started (by kernel_rfl) Tryz.func5
    (witness_row_at (enc := enc) (C := Tryz.checked) false (laidWorld os) #[z0] rfl (by kernel_rfl) (by kernel_rfl) (by kernel_rfl)
      (OpenSpec.preRow_of_cond 8 hx (by kernel_rfl) (fun k hk => by cases hk) (by kernel_rfl) (laid_met os))) ?_
  intro W base args ds gs before hval hW _ _ _ hL _ _
  exact contract (s := Rows.vmKindsSpec) (fun _ _ => rfl) rfl H enc W base args ds gs before hval hW hL

theorem said : Rows.VmKindsSaid :=
  OpenClaim.holds_of_cond 5 Tryz.f5 rfl rfl rfl rfl rfl rfl rfl ⟨rfl, rfl, rfl, rfl, rfl⟩ rfl rfl rfl rfl rfl (by kernel_rfl) Tryz.func5 (by kernel_rfl)
    (of_decide_eq_true (by kernel_rfl)) (by unfold Func.isWrapper; first | (rw [if_pos (by decide +kernel)]; kernel_rfl) | (rw [if_neg (by decide +kernel)]; exact ⟨rfl, rfl⟩))
    (fun os started H enc _ F => by rw [OpenClaim.pre_eq_preRow]; exact lifted os started H enc F)

theorem plain (f : FuncId) (fn : Func) (hf : Tryz.pinned.checked.prog.funcNamed "caliper/caliperlaw21.VmKinds" = some f) (hfn : Tryz.pinned.checked.prog.funcs[f]? = some fn) :
    false = Tryz.pinned.checked.prog.looks [] ∧ ∀ (j : Nat) t, fn.params[j]? = some t → Tryz.pinned.checked.prog.wantsStandIn t = false := by
  obtain rfl : f = 5 := Option.some.inj ((show Tryz.prog.funcNamed "caliper/caliperlaw21.VmKinds" = some 5 by kernel_rfl).symm.trans hf) |>.symm
  obtain rfl : fn = Tryz.f5 := (Option.some.inj (Tryz.func5.symm.trans hfn)).symm
  refine ⟨by kernel_rfl, fun j t ht => ?_⟩
  rw [Tryz.params5] at ht
  have hall : ([28] : List TypeId).all (fun t => !Tryz.prog.wantsStandIn t) = true := by kernel_rfl
  have := List.all_eq_true.1 hall t (by simpa using Array.mem_of_getElem? ht)
  exact (show Tryz.prog.wantsStandIn t = false by simpa using this)
end R5

theorem vmKindsProved : Rows.VmKindsCardSaid :=
  Claim7.holds_tied_plain_at .later [] _ _ _ _ R5.said (fun _ h => by cases h) (by kernel_rfl) (fun _ h => by cases h) vmKinds_row_tie rfl ⟨rfl, rfl⟩ (by kernel_rfl) rfl R5.plain (by kernel_rfl)

#print axioms vmKindsProved
end Go.Proofs.YtobpjbcgmdbncaaGreatDoor
