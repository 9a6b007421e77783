/- A part of the proof (own lemmas, no condition beyond those that each theorem states): facts on the functions that the statements of this seat reach. -/
import Derived.Test.YtdgnciclfeojnaaGreatDoorOwnG1
set_option maxRecDepth 100000
set_option linter.unusedVariables false
set_option linter.unusedSectionVars false
set_option linter.unusedSimpArgs false
namespace Go.Proofs.YtdgnciclfeojnaaGreatDoor
open Go Go.Lift Go.RowKit Go.ChangeShapes Go.WideShapes Go.ChangeAt

/-! ### A world for the witness: the settled one, the tables laid -/
mutual
def cellsOfD {H : Type} : DataW H → List Value
  | .lit (.int k n) => [.int k n]
  | .agg ps => cellsOfDs ps
  | _ => []
def cellsOfDs {H : Type} : List (DataW H) → List Value
  | [] => []
  | d :: r => cellsOfD d ++ cellsOfDs r
end
def laidCells : List (Nat × Array Value) := [(0, #[.iface 123 (.agg #[.pointer (some ⟨9, 55, none⟩)])]), (1, (cellsOfD Rows.laid_unicode_utf8_first).toArray), (2, (cellsOfD (H := Unit) Rows.laid_unicode_utf8_acceptRanges).toArray),
  (3, (cellsOfD (H := Unit) Rows.laid_internal_strconv_uint64pow10).toArray), (7, (cellsOfD (H := Unit) Rows.laid_math_bits_deBruijn32tab).toArray), (8, (cellsOfD (H := Unit) Rows.laid_math_bits_deBruijn64tab).toArray)]
def layAll (heap : Array Obj) : List (Nat × Array Value) → Array Obj
  | [] => heap
  | (g, cs) :: r => layAll (heap.modify g fun
      | .cells _ t frozen => .cells cs t frozen
      | o => o) r
noncomputable def laidWorld (os : Os) : World :=
  { World.holding Tryz.prog os ⟨#[], #[], []⟩ with heap := layAll (World.holding Tryz.prog os ⟨#[], #[], []⟩).heap laidCells }

def d0 : Value := .agg #[.bool false, .string ⟨#[]⟩, .int .i64 0]

theorem laid_met2 (os : Os) : laidMetH Tryz.prog laidAll ((laidWorld os).forCall (fun _ _ => 0) ⟨#[], #[d0, d0], []⟩).memory :=
  laidMetH_of_parts (laidMet_of_run' 8 (by kernel_rfl) (by kernel_rfl)) (by kernel_rfl)

def datum0 {H : Type} : DataW H := .agg [.lit (.bool false), .lit (.string []), .lit (.int .i64 0)]

theorem reads2 (os : Os) {H : Type} (enc : TypeId × Value → H) : ∃ places, DataW.whole enc Tryz.prog ((laidWorld os).forCall (fun _ _ => 0) ⟨#[], #[d0, d0], []⟩).memory Tryz.f3.params.toList [] false #[d0, d0].toList 8 = some ([datum0, datum0], [], places) :=
  ⟨[], by kernel_rfl⟩

end Go.Proofs.YtdgnciclfeojnaaGreatDoor
