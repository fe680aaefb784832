/-
  DERIVED. GIVEN WITH THE SEED: THE CARDS: each row of YteoeaojebklfjaaGreatDoorRows.lean that lists a variable, with what it lists TIED to the program's text (the seventh form; the later family's looks); each row that meets fmt, with fmt's text TOLD by the authors' own Lean function (tested against real Go, not proved from fmt's source: count such statements apart). THE CARD IS WHAT COUNTS. Prove the row's statement (the work); the ties are given (YteoeaojebklfjaaGreatDoorTie.lean); close each card by the builder's one call (the guide's Derived/Test/ToyasCard.lean, 'card_holds'). Laid BY PROGRAM, IN A SANDBOX (cutbox-door.mjs). By AI agents, Wed Nov 11 2026. No macro, syntax, notation, axiom, sorry.
-/
import Derived.Test.YteoeaojebklfjaaGreatDoorRows
import GoSem.ClaimSeven
namespace Go.Proofs.YteoeaojebklfjaaGreatDoor
namespace Rows

/-- THE TIED CARD OF 'butterylaw05.PagerMany'. -/
def pagerManyCard : Claim7 := { stood := { row := pagerManyRow, standIns := [], harness := (true, "3797f56f81c4cd65a76d10772533b84d5683be40598d2661612a18dd093803d0"), looks := false }, kinds := [], alts := [], laidByText := true, laidKinds := [.data, .pinned], laidTests := true, laidLooks := .later }
def PagerManyCardSaid : Prop := Claim7.holds Tryz.pinned (.plain (OpenSpec.ofChange pagerManySpec)) pagerManyCard

/-- THE TIED CARD OF 'butterylaw05.PagerApart'. -/
def pagerApartCard : Claim7 := { stood := { row := pagerApartRow, standIns := [], harness := (true, "3797f56f81c4cd65a76d10772533b84d5683be40598d2661612a18dd093803d0"), looks := false }, kinds := [], alts := [], laidByText := true, laidKinds := [.data, .pinned], laidTests := true, laidLooks := .later }
def PagerApartCardSaid : Prop := Claim7.holds Tryz.pinned (.plain (OpenSpec.ofChange pagerApartSpec)) pagerApartCard

/-- THE TIED CARD OF 'butterylaw05.PagerPlays'. -/
def pagerPlaysCard : Claim7 := { stood := { row := pagerPlaysRow, standIns := [], harness := (true, "3797f56f81c4cd65a76d10772533b84d5683be40598d2661612a18dd093803d0"), looks := false }, kinds := [], alts := [], laidByText := true, laidKinds := [.data, .pinned], laidTests := true, laidLooks := .later }
def PagerPlaysCardSaid : Prop := Claim7.holds Tryz.pinned (.plain (OpenSpec.ofChange pagerPlaysSpec)) pagerPlaysCard

/-- THE TIED CARD OF 'butterylaw05.PagerLost'. -/
def pagerLostCard : Claim7 := { stood := { row := pagerLostRow, standIns := [], harness := (true, "3797f56f81c4cd65a76d10772533b84d5683be40598d2661612a18dd093803d0"), looks := false }, kinds := [], alts := [], laidByText := true, laidKinds := [.data, .pinned], laidTests := true, laidLooks := .later }
def PagerLostCardSaid : Prop := Claim7.holds Tryz.pinned (.plain (OpenSpec.ofChange pagerLostSpec)) pagerLostCard

/-- THE TIED CARD OF 'butterylaw05.PagerTorn'. -/
def pagerTornCard : Claim7 := { stood := { row := pagerTornRow, standIns := [], harness := (true, "3797f56f81c4cd65a76d10772533b84d5683be40598d2661612a18dd093803d0"), looks := false }, kinds := [], alts := [], laidByText := true, laidKinds := [.data, .pinned], laidTests := true, laidLooks := .later }
def PagerTornCardSaid : Prop := Claim7.holds Tryz.pinned (.plain (OpenSpec.ofChange pagerTornSpec)) pagerTornCard

/-- THE TIED CARD OF 'butterylaw05.PagerCrashes'. -/
def pagerCrashesCard : Claim7 := { stood := { row := pagerCrashesRow, standIns := [], harness := (true, "3797f56f81c4cd65a76d10772533b84d5683be40598d2661612a18dd093803d0"), looks := false }, kinds := [], alts := [], laidByText := true, laidKinds := [.data, .pinned], laidTests := true, laidLooks := .later }
def PagerCrashesCardSaid : Prop := Claim7.holds Tryz.pinned (.plain (OpenSpec.ofChange pagerCrashesSpec)) pagerCrashesCard

/-- THE SECOND FORM's CARD OF 'butterylaw05.PagerMany'. -/
def pagerManyUptoCard : Claim7 := { stood := { row := pagerManyUptoRow, standIns := [], harness := (true, "3797f56f81c4cd65a76d10772533b84d5683be40598d2661612a18dd093803d0"), looks := false }, kinds := [], alts := [], laidByText := true, laidKinds := [.data, .pinned], laidTests := true, laidLooks := .later }
def PagerManyUptoCardSaid : Prop := Claim7.holds Tryz.pinned (.plain (OpenSpec.upto pagerManySpec)) pagerManyUptoCard

/-- THE SECOND FORM's CARD OF 'butterylaw05.PagerApart'. -/
def pagerApartUptoCard : Claim7 := { stood := { row := pagerApartUptoRow, standIns := [], harness := (true, "3797f56f81c4cd65a76d10772533b84d5683be40598d2661612a18dd093803d0"), looks := false }, kinds := [], alts := [], laidByText := true, laidKinds := [.data, .pinned], laidTests := true, laidLooks := .later }
def PagerApartUptoCardSaid : Prop := Claim7.holds Tryz.pinned (.plain (OpenSpec.upto pagerApartSpec)) pagerApartUptoCard

/-- THE SECOND FORM's CARD OF 'butterylaw05.PagerPlays'. -/
def pagerPlaysUptoCard : Claim7 := { stood := { row := pagerPlaysUptoRow, standIns := [], harness := (true, "3797f56f81c4cd65a76d10772533b84d5683be40598d2661612a18dd093803d0"), looks := false }, kinds := [], alts := [], laidByText := true, laidKinds := [.data, .pinned], laidTests := true, laidLooks := .later }
def PagerPlaysUptoCardSaid : Prop := Claim7.holds Tryz.pinned (.plain (OpenSpec.upto pagerPlaysSpec)) pagerPlaysUptoCard

/-- THE SECOND FORM's CARD OF 'butterylaw05.PagerLost'. -/
def pagerLostUptoCard : Claim7 := { stood := { row := pagerLostUptoRow, standIns := [], harness := (true, "3797f56f81c4cd65a76d10772533b84d5683be40598d2661612a18dd093803d0"), looks := false }, kinds := [], alts := [], laidByText := true, laidKinds := [.data, .pinned], laidTests := true, laidLooks := .later }
def PagerLostUptoCardSaid : Prop := Claim7.holds Tryz.pinned (.plain (OpenSpec.upto pagerLostSpec)) pagerLostUptoCard

/-- THE SECOND FORM's CARD OF 'butterylaw05.PagerTorn'. -/
def pagerTornUptoCard : Claim7 := { stood := { row := pagerTornUptoRow, standIns := [], harness := (true, "3797f56f81c4cd65a76d10772533b84d5683be40598d2661612a18dd093803d0"), looks := false }, kinds := [], alts := [], laidByText := true, laidKinds := [.data, .pinned], laidTests := true, laidLooks := .later }
def PagerTornUptoCardSaid : Prop := Claim7.holds Tryz.pinned (.plain (OpenSpec.upto pagerTornSpec)) pagerTornUptoCard

/-- THE SECOND FORM's CARD OF 'butterylaw05.PagerCrashes'. -/
def pagerCrashesUptoCard : Claim7 := { stood := { row := pagerCrashesUptoRow, standIns := [], harness := (true, "3797f56f81c4cd65a76d10772533b84d5683be40598d2661612a18dd093803d0"), looks := false }, kinds := [], alts := [], laidByText := true, laidKinds := [.data, .pinned], laidTests := true, laidLooks := .later }
def PagerCrashesUptoCardSaid : Prop := Claim7.holds Tryz.pinned (.plain (OpenSpec.upto pagerCrashesSpec)) pagerCrashesUptoCard
end Rows
end Go.Proofs.YteoeaojebklfjaaGreatDoor
