/- A part of the proof (own lemmas, no condition beyond those that each theorem states): facts on the functions that the statements of this seat reach. -/
import Derived.Test.YtdgnciclfeojnaaGreatDoorOwnF1
import Derived.Test.YtdgnciclfeojnaaGreatDoorLiftY
import Derived.Test.YtdgnciclfeojnaaGreatDoorCards
import Derived.Test.YtdgnciclfeojnaaGreatDoorTie
import Derived.WalkKit
import Derived.ProofKit
import Derived.OpenShut
import Derived.Deep.DeepHandedRow
import Derived.Stop.Joined
import Derived.Deep.Strs
set_option maxRecDepth 100000
set_option linter.unusedVariables false
set_option linter.unusedSectionVars false
set_option linter.unusedSimpArgs false
namespace Go.Proofs.YtdgnciclfeojnaaGreatDoor
open Go Go.Lift Go.RowKit Go.ChangeShapes Go.WideShapes Go.ChangeAt

theorem own : ownKnob Tryz.prog.godebug = none := by kernel_rfl
theorem laidOut : laidOutB Tryz.prog = true := by kernel_rfl
theorem gErr : Tryz.prog.globalNamed "errors.errorType" = some 0 := by kernel_rfl
theorem gPow : Tryz.prog.globalNamed "internal/strconv.uint64pow10" = some 3 := by kernel_rfl
theorem gPowT : (Tryz.prog.globals[3]?).map (·.type) = some 149 := by kernel_rfl
theorem gRt : (Tryz.prog.cutTypes.find? (·.1 == "internal/reflectlite.rtype")).map (·.2) = some 123 := by kernel_rfl
theorem gOne : ((List.range 188).filter fun t => Tryz.prog.rowNamed t [101, 114, 114, 111, 114]) = [55] := by kernel_rfl
theorem gSize : Tryz.prog.types.size = 188 := by kernel_rfl
theorem ul149 : Tryz.prog.underlying 149 = some (.array 20 92) := by kernel_rfl
theorem ul92 : Tryz.prog.underlying 92 = some (.int .u64) := by kernel_rfl
theorem cl92 : Tryz.prog.cellsOf 92 = 1 := by kernel_rfl
theorem cl149 : Tryz.prog.cellsOf 149 = 20 := by kernel_rfl

/-- What the rows of this seat list. -/
def laidAll : List (String × DataW Unit) := Rows.decComparesRow.laid
def laidDatas : List (String × DataW Unit) := laidAll.filter fun x => x.2.handleName?.isNone

theorem tabs_of {W : World} (h : laidMetH Tryz.prog laidAll W) : ∀ g x, Glob.tab g = some x → Rel W.cell? rho0 x (.pointer (some ⟨g, 0, none⟩)) := by
  have h' : laidMet Tryz.prog laidDatas W ∧ handlesMet Tryz.prog [("errors.errorType", Rows.laid_errors_errorType)] W := h
  have herr : W.cell? ⟨0, 0, none⟩ = some (.iface 123 (.agg #[.pointer (some ⟨9, 55, none⟩)])) := by
    obtain ⟨name, u, ty, e1, e2, e3, e4, e5⟩ := h'.2 _ (List.mem_singleton.2 rfl)
    have en : name = [101, 114, 114, 111, 114] := (Option.some.inj e1).symm
    subst en
    obtain rfl := Option.some.inj (gRt.symm.trans e2)
    have hm : ty ∈ (List.range 188).filter fun t => Tryz.prog.rowNamed t [101, 114, 114, 111, 114] := List.mem_filter.2 ⟨List.mem_range.2 (by rw [← gSize]; exact e3), e4⟩
    rw [gOne] at hm
    obtain rfl := List.mem_singleton.1 hm
    have hh : typeHandle Tryz.prog 55 = .pointer (some ⟨9, 55, none⟩) := by kernel_rfl
    rw [hh] at e5
    simpa using World.var?_cell gErr e5 0
  intro g x hx
  match g, hx with
  | 0, hx =>
    obtain rfl := Option.some.inj hx
    exact rel_cell rfl herr
  | 1, hx => cases hx
  | 2, hx => cases hx
  | 3, hx =>
    obtain rfl := Option.some.inj hx
    refine rel_tab (W := W) (g := 3) (k := .u64) (tab_of h'.1 (name := "internal/strconv.uint64pow10") (n := 20) ?_ gPow gPowT ul149 ul92 cl92 cl149)
    exact .tail _ (.tail _ (.head _))
  | _ + 4, hx => cases hx

/-! ### The arguments -/
theorem cl4 : Tryz.prog.cellsOf 4 = 1 := by kernel_rfl
theorem cl9 : Tryz.prog.cellsOf 9 = 1 := by kernel_rfl
theorem cl3 : Tryz.prog.cellsOf 3 = 1 := by kernel_rfl
theorem cl23 : Tryz.prog.cellsOf 23 = 3 := by kernel_rfl

def okD {H : Type} (d : Dec) (x : DataW H) : Prop := x = .agg [.lit (.bool d.neg), .lit (.string d.dig), .lit (.int .i64 d.exp)] ∧ d.dig.length ≤ 9223372036854775807 ∧ -9223372036854775808 ≤ d.exp ∧ d.exp ≤ 9223372036854775807

theorem reads_dec {H : Type} {enc : TypeId × Value → H} {W : World} (n : Nat) : ReadsAt enc Tryz.prog W 0 n 23 encD okD := fun cs x h => by
  obtain ⟨y0, y1, y2, m, rfl, hl, h0, h1, h2⟩ := Deep.trod_struct3 Tryz.underlying23 h
  simp only [cl4, cl9, cl3, cl23] at h0 h1 h2 hl
  obtain ⟨b, e0, rfl⟩ := DataW.trod_bool Tryz.underlying4 h0
  obtain ⟨s, e1, rfl, hs⟩ := DataW.trod_string Tryz.underlying9 h1
  obtain ⟨k, e2, rfl, hk⟩ := DataW.trod_int Tryz.underlying3 h2
  have hcs : cs = [.bool b, .string s, .int .i64 k] := by
    match cs, hl with
    | [c0, c1, c2], _ => simp at e0 e1 e2; rw [e0, e1, e2]
  subst hcs
  have hk2 := bounds_i64 hk
  refine ⟨⟨b, s.data.toList, k⟩, ⟨rfl, fun i hi => ?_⟩, rfl, by simpa [maxLen] using hs, hk2.1, hk2.2⟩
  have hi3 : i < 3 := hi
  match i, hi3 with
  | 0, _ => exact .bool b
  | 1, _ =>
    have hh : Rel W.cell? rho0 (.str s.data.toList) (.string ⟨s.data.toList.toArray⟩) := .str _
    have hs' : (⟨s.data.toList.toArray⟩ : ByteArray) = s := by simp
    rw [hs'] at hh
    exact hh
  | 2, _ => exact .int .i64 k

theorem arg_dec {H : Type} {enc : TypeId × Value → H} {W : World} {v : Value} {d : DataW H} {ps : List MemPlace} {b0 : Nat} (hval : Value.okWide Tryz.prog W .any b0 23 v) (hd : DataW.Trod enc Tryz.prog W 0 (fun _ => true) true 23 v d ps) :
    ∃ a : Dec, Rel W.cell? rho0 (encD a) v ∧ okD a d := arg_struct Tryz.underlying23 hval reads_dec (fun _ => rfl) hd

/-- What both forms of DecCompares ask. -/
theorem contract3 {s : ChangeSpec} (hs : ∀ (H : Type) (d1 d2 : DataW H), s.fn H [d1, d2] = { results := [.lit (.bool true)], args := [d1, d2] }) (hsv : s.vars = []) (H : Type) (enc : TypeId × Value → H) (W : World) (base : Nat) (args : Array Value) (ds gs : List (DataW H)) (before : List MemPlace)
    (hval : ∀ (j : Nat) t v, Tryz.f3.params[j]? = some t → args[j]? = some v → Value.okWide Tryz.prog W .any base t v)
    (hW : DataW.Whole enc Tryz.prog Tryz.f3.params.toList s.vars false W args.toList ds gs before) (hL : laidMetH Tryz.prog laidAll W) :
    Calls Tryz.prog 3 args W fun e W' => ∃ v, e = .returned v ∧ s.post enc Tryz.prog Tryz.f3 false true false false W args v W' := by
  have hW' := hW
  obtain ⟨p, q, hA0, hV, rfl, hfz, hnd⟩ := hW
  have hA : DataW.TrodAll enc Tryz.prog W 0 (fun _ => true) true Tryz.f3.params.toList args.toList ds p := hA0
  rw [Tryz.params3] at hA hval
  obtain ⟨v0, vs0, d0, ds0, p0, q0, hargs, rfl, rfl, h0, r0⟩ := trodAll_cons hA
  obtain ⟨v1, vs1, d1, ds1, p1, q1, rfl, rfl, rfl, h1, r1⟩ := trodAll_cons r0
  obtain ⟨rfl, rfl, rfl⟩ := trodAll_nil r1
  obtain rfl : args = #[v0, v1] := by cases args; simp_all
  obtain ⟨x, rx, ox, lx, bx1, bx2⟩ := arg_dec (hval 0 23 v0 rfl rfl) h0
  obtain ⟨y, ry, oy, ly, by1, by2⟩ := arg_dec (hval 1 23 v1 rfl rfl) h1
  have sim := sim0 (tabs_of hL)
  have hr : Rels W.cell? rho0 [encD x, encD y] #[v0, v1] := ⟨rfl, fun i hi => by
    have hi2 : i < 2 := hi
    match i, hi2 with
    | 0, _ => exact rx
    | 1, _ => exact ry⟩
  refine Calls.mono ((law3 x y lx ly heap0).calls Tryz.func3 rfl (by kernel_rfl) sim hr) ?_
  rintro e W2 ⟨v, r, h', M', ρ', rfl, st, sm, rl, rfl, rfl⟩
  cases rl
  have hgs : gs = [] := by
    rw [hsv] at hV
    cases gs with
    | nil => rfl
    | cons _ _ => exact hV.elim
  subst hgs
  refine ⟨_, rfl, law_post laidOut (fun t ht => ?_) (bt := 4) (by kernel_rfl) Tryz.underlying4 hsv (hs H _ _) hW' (below_of st)⟩
  rw [Tryz.params3] at ht
  have : t = 23 := by simpa using ht
  subst this
  exact ⟨by kernel_rfl, by rw [gSize]; decide⟩

end Go.Proofs.YtdgnciclfeojnaaGreatDoor
