/- The given statement DecOrderCardSaid (the law DecOrder, its row tied to the program, for every input): proved without a further condition. -/
import Derived.Test.YtdgnciclfeojnaaGreatDoorOwnF2
import Derived.Test.YtdgnciclfeojnaaGreatDoorOwnG2
set_option maxRecDepth 100000
set_option linter.unusedVariables false
set_option linter.unusedSectionVars false
set_option linter.unusedSimpArgs false
namespace Go.Proofs.YtdgnciclfeojnaaGreatDoor
open Go Go.Lift Go.RowKit Go.ChangeShapes Go.WideShapes Go.ChangeAt

/-- What DecOrder asks. -/
theorem contract5 {s : ChangeSpec} (hs : ∀ (H : Type) (d1 d2 d3 : DataW H), s.fn H [d1, d2, d3] = { results := [.lit (.bool true)], args := [d1, d2, d3] }) (hsv : s.vars = []) (H : Type) (enc : TypeId × Value → H) (W : World) (base : Nat) (args : Array Value) (ds gs : List (DataW H)) (before : List MemPlace)
    (hval : ∀ (j : Nat) t v, Tryz.f5.params[j]? = some t → args[j]? = some v → Value.okWide Tryz.prog W .any base t v)
    (hW : DataW.Whole enc Tryz.prog Tryz.f5.params.toList s.vars false W args.toList ds gs before) (hL : laidMetH Tryz.prog laidAll W) :
    Calls Tryz.prog 5 args W fun e W' => ∃ v, e = .returned v ∧ s.post enc Tryz.prog Tryz.f5 false true false false W args v W' := by
  have hW' := hW
  obtain ⟨p, q, hA0, hV, rfl, hfz, hnd⟩ := hW
  have hA : DataW.TrodAll enc Tryz.prog W 0 (fun _ => true) true Tryz.f5.params.toList args.toList ds p := hA0
  rw [Tryz.params5] at hA hval
  obtain ⟨v0, vs0, d0, ds0, p0, q0, hargs, rfl, rfl, h0, r0⟩ := trodAll_cons hA
  obtain ⟨v1, vs1, d1, ds1, p1, q1, rfl, rfl, rfl, h1, r1⟩ := trodAll_cons r0
  obtain ⟨v2, vs2, d2, ds2, p2, q2, rfl, rfl, rfl, h2, r2⟩ := trodAll_cons r1
  obtain ⟨rfl, rfl, rfl⟩ := trodAll_nil r2
  obtain rfl : args = #[v0, v1, v2] := by cases args; simp_all
  obtain ⟨x, rx, ox, lx, bx1, bx2⟩ := arg_dec (hval 0 23 v0 rfl rfl) h0
  obtain ⟨y, ry, oy, ly, by1, by2⟩ := arg_dec (hval 1 23 v1 rfl rfl) h1
  obtain ⟨z, rz, oz, lz, bz1, bz2⟩ := arg_dec (hval 2 23 v2 rfl rfl) h2
  have sim := sim0 (tabs_of hL)
  have hr : Rels W.cell? rho0 [encD x, encD y, encD z] #[v0, v1, v2] := ⟨rfl, fun i hi => by
    have hi2 : i < 3 := hi
    match i, hi2 with
    | 0, _ => exact rx
    | 1, _ => exact ry
    | 2, _ => exact rz⟩
  refine Calls.mono ((law5 x y z lx ly lz heap0).calls Tryz.func5 rfl (by kernel_rfl) sim hr) ?_
  rintro e W2 ⟨v, r, h', M', ρ', rfl, st, sm, rl, rfl, rfl⟩
  cases rl
  have hgs : gs = [] := by
    rw [hsv] at hV
    cases gs with
    | nil => rfl
    | cons _ _ => exact hV.elim
  subst hgs
  refine ⟨_, rfl, law_post laidOut (fun t ht => ?_) (bt := 4) (by kernel_rfl) Tryz.underlying4 hsv (hs H _ _ _) hW' (below_of st)⟩
  rw [Tryz.params5] at ht
  have : t = 23 := by simpa using ht
  subst this
  exact ⟨by kernel_rfl, by rw [gSize]; decide⟩

theorem laid_met3 (os : Os) : laidMetH Tryz.prog laidAll ((laidWorld os).forCall (fun _ _ => 0) ⟨#[], #[d0, d0, d0], []⟩).memory :=
  laidMetH_of_parts (laidMet_of_run' 8 (by kernel_rfl) (by kernel_rfl)) (by kernel_rfl)

theorem reads3 (os : Os) {H : Type} (enc : TypeId × Value → H) : ∃ places, DataW.whole enc Tryz.prog ((laidWorld os).forCall (fun _ _ => 0) ⟨#[], #[d0, d0, d0], []⟩).memory Tryz.f5.params.toList [] false #[d0, d0, d0].toList 8 = some ([datum0, datum0, datum0], [], places) :=
  ⟨[], by kernel_rfl⟩

theorem lifted5 (os : Os) (started : os.Started) (H : Type) (enc : TypeId × Value → H) (F : Stop.Interp) :
    ReturnsInHanded {} Tryz.checked os 5 .any ((OpenSpec.ofChange Rows.decOrderSpec).preRow enc Tryz.prog Tryz.f5 Rows.decOrderRow.domain false Rows.decOrderRow.laid) (((OpenSpec.ofChange Rows.decOrderSpec).at F).post enc Tryz.prog Tryz.f5 false true false false) := by
  obtain ⟨places, hx⟩ := reads3 os enc
  refine returnsInHanded_of_row (C := Tryz.checked) (s := OpenSpec.ofChange Rows.decOrderSpec) own started (by kernel_rfl) Tryz.func5
    (witness_row_at (enc := enc) (C := Tryz.checked) false (laidWorld os) #[d0, d0, d0] rfl (by kernel_rfl) (by kernel_rfl) (by kernel_rfl)
      (OpenSpec.preRow_of_cond 8 hx (by kernel_rfl) (fun k hk => by cases hk) (by kernel_rfl) (laid_met3 os))) ?_
  intro W base args ds gs before hval hW _ _ _ hL _ _
  exact contract5 (s := Rows.decOrderSpec) (fun _ _ _ _ => rfl) rfl H enc W base args ds gs before hval hW hL

theorem said5 : Rows.DecOrderSaid :=
  OpenClaim.holds_of_cond 5 Tryz.f5 rfl rfl rfl rfl rfl rfl rfl ⟨rfl, rfl, rfl, rfl, rfl⟩ rfl rfl rfl rfl rfl (by kernel_rfl) Tryz.func5 (by kernel_rfl)
    (of_decide_eq_true (by kernel_rfl)) (by unfold Func.isWrapper; first | (rw [if_pos (by decide +kernel)]; kernel_rfl) | (rw [if_neg (by decide +kernel)]; exact ⟨rfl, rfl⟩))
    (fun os started H enc _ F => by rw [OpenClaim.pre_eq_preRow]; exact lifted5 os started H enc F)

theorem plain5 (f : FuncId) (fn : Func) (hf : Tryz.pinned.checked.prog.funcNamed "caliper/caliperlaw03.DecOrder" = some f) (hfn : Tryz.pinned.checked.prog.funcs[f]? = some fn) :
    true = Tryz.pinned.checked.prog.looks [] ∧ ∀ (j : Nat) t, fn.params[j]? = some t → Tryz.pinned.checked.prog.wantsStandIn t = false := by
  obtain rfl : f = 5 := Option.some.inj ((show Tryz.prog.funcNamed "caliper/caliperlaw03.DecOrder" = some 5 by kernel_rfl).symm.trans hf) |>.symm
  obtain rfl : fn = Tryz.f5 := (Option.some.inj (Tryz.func5.symm.trans hfn)).symm
  refine ⟨by kernel_rfl, fun j t ht => ?_⟩
  rw [Tryz.params5] at ht
  obtain rfl : t = 23 := by
    have := Array.mem_of_getElem? ht
    simpa using this
  exact (show Tryz.prog.wantsStandIn 23 = false by kernel_rfl)

theorem decOrderProved : Rows.DecOrderCardSaid :=
  Claim7.holds_tied_plain_at .later [] _ _ _ _ said5 (fun _ h => by cases h) (by kernel_rfl) (fun _ h => by cases h) decOrder_row_tie rfl ⟨rfl, rfl⟩ (by kernel_rfl) rfl plain5 (by kernel_rfl)

#print axioms decOrderProved
end Go.Proofs.YtdgnciclfeojnaaGreatDoor
