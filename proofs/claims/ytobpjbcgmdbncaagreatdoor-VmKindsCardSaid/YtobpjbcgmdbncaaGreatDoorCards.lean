/-
  DERIVED. GIVEN WITH THE SEED: THE CARDS: each row of YtobpjbcgmdbncaaGreatDoorRows.lean that lists a variable, with what it lists TIED to the program's text (the seventh form; the later family's looks); each row that meets fmt, with fmt's text TOLD by the authors' own Lean function (tested against real Go, not proved from fmt's source: count such statements apart). THE CARD IS WHAT COUNTS. Prove the row's statement (the work); the ties are given (YtobpjbcgmdbncaaGreatDoorTie.lean); close each card by the builder's one call (the guide's Derived/Test/ToyasCard.lean, 'card_holds'). Laid BY PROGRAM, IN A SANDBOX (cutbox-door.mjs). By AI agents, Wed Nov 11 2026. No macro, syntax, notation, axiom, sorry.
-/
import Derived.Test.YtobpjbcgmdbncaaGreatDoorRows
import GoSem.ClaimSeven
namespace Go.Proofs.YtobpjbcgmdbncaaGreatDoor
namespace Rows

/-- THE TIED CARD OF 'caliperlaw21.VmTypes'. -/
def vmTypesCard : Claim7 := { stood := { row := vmTypesRow, standIns := [], harness := (true, "8fcdf644acf64b831489b32979a456163ae11bfd12d1dcd4833c026d2ea04db6"), looks := false }, kinds := [], alts := [], laidByText := true, laidKinds := [.data, .pinned], laidTests := true, laidLooks := .later }
def VmTypesCardSaid : Prop := Claim7.holds Tryz.pinned (.plain (OpenSpec.ofChange vmTypesSpec)) vmTypesCard

/-- THE TIED CARD OF 'caliperlaw21.VmRuns'. -/
def vmRunsCard : Claim7 := { stood := { row := vmRunsRow, standIns := [], harness := (true, "8fcdf644acf64b831489b32979a456163ae11bfd12d1dcd4833c026d2ea04db6"), looks := false }, kinds := [], alts := [], laidByText := true, laidKinds := [.data, .pinned], laidTests := true, laidLooks := .later }
def VmRunsCardSaid : Prop := Claim7.holds Tryz.pinned (.plain (OpenSpec.ofChange vmRunsSpec)) vmRunsCard

/-- THE TIED CARD OF 'caliperlaw21.VmKinds'. -/
def vmKindsCard : Claim7 := { stood := { row := vmKindsRow, standIns := [], harness := (true, "8fcdf644acf64b831489b32979a456163ae11bfd12d1dcd4833c026d2ea04db6"), looks := false }, kinds := [], alts := [], laidByText := true, laidKinds := [.data, .pinned], laidTests := true, laidLooks := .later }
def VmKindsCardSaid : Prop := Claim7.holds Tryz.pinned (.plain (OpenSpec.ofChange vmKindsSpec)) vmKindsCard

/-- THE TIED CARD OF 'caliperlaw21.VmTwice'. -/
def vmTwiceCard : Claim7 := { stood := { row := vmTwiceRow, standIns := [], harness := (true, "8fcdf644acf64b831489b32979a456163ae11bfd12d1dcd4833c026d2ea04db6"), looks := false }, kinds := [], alts := [], laidByText := true, laidKinds := [.data, .pinned], laidTests := true, laidLooks := .later }
def VmTwiceCardSaid : Prop := Claim7.holds Tryz.pinned (.plain (OpenSpec.ofChange vmTwiceSpec)) vmTwiceCard

/-- THE TIED CARD OF 'caliperlaw21.VmBound'. -/
def vmBoundCard : Claim7 := { stood := { row := vmBoundRow, standIns := [], harness := (true, "8fcdf644acf64b831489b32979a456163ae11bfd12d1dcd4833c026d2ea04db6"), looks := false }, kinds := [], alts := [], laidByText := true, laidKinds := [.data, .pinned], laidTests := true, laidLooks := .later }
def VmBoundCardSaid : Prop := Claim7.holds Tryz.pinned (.plain (OpenSpec.ofChange vmBoundSpec)) vmBoundCard

/-- THE SECOND FORM's CARD OF 'caliperlaw21.VmTypes'. -/
def vmTypesUptoCard : Claim7 := { stood := { row := vmTypesUptoRow, standIns := [], harness := (true, "8fcdf644acf64b831489b32979a456163ae11bfd12d1dcd4833c026d2ea04db6"), looks := false }, kinds := [], alts := [], laidByText := true, laidKinds := [.data, .pinned], laidTests := true, laidLooks := .later }
def VmTypesUptoCardSaid : Prop := Claim7.holds Tryz.pinned (.plain (OpenSpec.upto vmTypesSpec)) vmTypesUptoCard

/-- THE SECOND FORM's CARD OF 'caliperlaw21.VmRuns'. -/
def vmRunsUptoCard : Claim7 := { stood := { row := vmRunsUptoRow, standIns := [], harness := (true, "8fcdf644acf64b831489b32979a456163ae11bfd12d1dcd4833c026d2ea04db6"), looks := false }, kinds := [], alts := [], laidByText := true, laidKinds := [.data, .pinned], laidTests := true, laidLooks := .later }
def VmRunsUptoCardSaid : Prop := Claim7.holds Tryz.pinned (.plain (OpenSpec.upto vmRunsSpec)) vmRunsUptoCard

/-- THE SECOND FORM's CARD OF 'caliperlaw21.VmKinds'. -/
def vmKindsUptoCard : Claim7 := { stood := { row := vmKindsUptoRow, standIns := [], harness := (true, "8fcdf644acf64b831489b32979a456163ae11bfd12d1dcd4833c026d2ea04db6"), looks := false }, kinds := [], alts := [], laidByText := true, laidKinds := [.data, .pinned], laidTests := true, laidLooks := .later }
def VmKindsUptoCardSaid : Prop := Claim7.holds Tryz.pinned (.plain (OpenSpec.upto vmKindsSpec)) vmKindsUptoCard

/-- THE SECOND FORM's CARD OF 'caliperlaw21.VmTwice'. -/
def vmTwiceUptoCard : Claim7 := { stood := { row := vmTwiceUptoRow, standIns := [], harness := (true, "8fcdf644acf64b831489b32979a456163ae11bfd12d1dcd4833c026d2ea04db6"), looks := false }, kinds := [], alts := [], laidByText := true, laidKinds := [.data, .pinned], laidTests := true, laidLooks := .later }
def VmTwiceUptoCardSaid : Prop := Claim7.holds Tryz.pinned (.plain (OpenSpec.upto vmTwiceSpec)) vmTwiceUptoCard

/-- THE SECOND FORM's CARD OF 'caliperlaw21.VmBound'. -/
def vmBoundUptoCard : Claim7 := { stood := { row := vmBoundUptoRow, standIns := [], harness := (true, "8fcdf644acf64b831489b32979a456163ae11bfd12d1dcd4833c026d2ea04db6"), looks := false }, kinds := [], alts := [], laidByText := true, laidKinds := [.data, .pinned], laidTests := true, laidLooks := .later }
def VmBoundUptoCardSaid : Prop := Claim7.holds Tryz.pinned (.plain (OpenSpec.upto vmBoundSpec)) vmBoundUptoCard
end Rows
end Go.Proofs.YtobpjbcgmdbncaaGreatDoor
