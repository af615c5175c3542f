/-
  DERIVED. GIVEN WITH THE SEED: THE CARDS: each row of YtfgkgoddjemnfaaGreatDoorRows.lean that lists a variable, with what it lists TIED to the program's text (the seventh form; the later family's looks); each row that meets fmt, with fmt's text TOLD by the authors' own Lean function (tested against real Go, not proved from fmt's source: count such statements apart). THE CARD IS WHAT COUNTS. Prove the row's statement (the work); the ties are given (YtfgkgoddjemnfaaGreatDoorTie.lean); close each card by the builder's one call (the guide's Derived/Test/ToyasCard.lean, 'card_holds'). Laid BY PROGRAM, IN A SANDBOX (cutbox-door.mjs). By AI agents, Wed Nov 11 2026. No macro, syntax, notation, axiom, sorry.
-/
import Derived.Test.YtfgkgoddjemnfaaGreatDoorRows
import GoSem.ClaimSeven
namespace Go.Proofs.YtfgkgoddjemnfaaGreatDoor
namespace Rows

/-- THE TIED CARD OF 'dunnagelaw07.DirOrder'. -/
def dirOrderCard : Claim7 := { stood := { row := dirOrderRow, standIns := [], harness := (true, "9ca2ba82e18c91e88278b03ef67c559af467a93126dc4a6881f8e292fa24a423"), looks := true }, kinds := [], alts := [], laidByText := true, laidKinds := [.data, .pinned], laidTests := true, laidLooks := .later }
def DirOrderCardSaid : Prop := Claim7.holds Tryz.pinned (.plain (OpenSpec.ofChange dirOrderSpec)) dirOrderCard

/-- THE TIED CARD OF 'dunnagelaw07.DirNone'. -/
def dirNoneCard : Claim7 := { stood := { row := dirNoneRow, standIns := [], harness := (true, "9ca2ba82e18c91e88278b03ef67c559af467a93126dc4a6881f8e292fa24a423"), looks := true }, kinds := [], alts := [], laidByText := true, laidKinds := [.data, .pinned], laidTests := true, laidLooks := .later }
def DirNoneCardSaid : Prop := Claim7.holds Tryz.pinned (.plain (OpenSpec.ofChange dirNoneSpec)) dirNoneCard

/-- THE TIED CARD OF 'dunnagelaw07.DirFinds'. -/
def dirFindsCard : Claim7 := { stood := { row := dirFindsRow, standIns := [], harness := (true, "9ca2ba82e18c91e88278b03ef67c559af467a93126dc4a6881f8e292fa24a423"), looks := true }, kinds := [], alts := [], laidByText := true, laidKinds := [.data, .pinned], laidTests := true, laidLooks := .later }
def DirFindsCardSaid : Prop := Claim7.holds Tryz.pinned (.plain (OpenSpec.ofChange dirFindsSpec)) dirFindsCard

/-- THE TIED CARD OF 'dunnagelaw07.DirApart'. -/
def dirApartCard : Claim7 := { stood := { row := dirApartRow, standIns := [], harness := (true, "9ca2ba82e18c91e88278b03ef67c559af467a93126dc4a6881f8e292fa24a423"), looks := true }, kinds := [], alts := [], laidByText := true, laidKinds := [.data, .pinned], laidTests := true, laidLooks := .later }
def DirApartCardSaid : Prop := Claim7.holds Tryz.pinned (.plain (OpenSpec.ofChange dirApartSpec)) dirApartCard

/-- THE TIED CARD OF 'dunnagelaw07.DirPlays'. -/
def dirPlaysCard : Claim7 := { stood := { row := dirPlaysRow, standIns := [], harness := (true, "9ca2ba82e18c91e88278b03ef67c559af467a93126dc4a6881f8e292fa24a423"), looks := true }, kinds := [], alts := [], laidByText := true, laidKinds := [.data, .pinned], laidTests := true, laidLooks := .later }
def DirPlaysCardSaid : Prop := Claim7.holds Tryz.pinned (.plain (OpenSpec.ofChange dirPlaysSpec)) dirPlaysCard

/-- THE TIED CARD OF 'dunnagelaw07.DirGives'. -/
def dirGivesCard : Claim7 := { stood := { row := dirGivesRow, standIns := [], harness := (true, "9ca2ba82e18c91e88278b03ef67c559af467a93126dc4a6881f8e292fa24a423"), looks := true }, kinds := [], alts := [], laidByText := true, laidKinds := [.data, .pinned], laidTests := true, laidLooks := .later }
def DirGivesCardSaid : Prop := Claim7.holds Tryz.pinned (.plain (OpenSpec.ofChange dirGivesSpec)) dirGivesCard

/-- THE TIED CARD OF 'dunnagelaw07.DirPaths'. -/
def dirPathsCard : Claim7 := { stood := { row := dirPathsRow, standIns := [], harness := (true, "9ca2ba82e18c91e88278b03ef67c559af467a93126dc4a6881f8e292fa24a423"), looks := true }, kinds := [], alts := [], laidByText := true, laidKinds := [.data, .pinned], laidTests := true, laidLooks := .later }
def DirPathsCardSaid : Prop := Claim7.holds Tryz.pinned (.plain (OpenSpec.ofChange dirPathsSpec)) dirPathsCard

/-- THE TIED CARD OF 'dunnagelaw07.DirBack'. -/
def dirBackCard : Claim7 := { stood := { row := dirBackRow, standIns := [], harness := (true, "9ca2ba82e18c91e88278b03ef67c559af467a93126dc4a6881f8e292fa24a423"), looks := true }, kinds := [], alts := [], laidByText := true, laidKinds := [.data, .pinned], laidTests := true, laidLooks := .later }
def DirBackCardSaid : Prop := Claim7.holds Tryz.pinned (.plain (OpenSpec.ofChange dirBackSpec)) dirBackCard

/-- THE SECOND FORM's CARD OF 'dunnagelaw07.DirOrder'. -/
def dirOrderUptoCard : Claim7 := { stood := { row := dirOrderUptoRow, standIns := [], harness := (true, "9ca2ba82e18c91e88278b03ef67c559af467a93126dc4a6881f8e292fa24a423"), looks := true }, kinds := [], alts := [], laidByText := true, laidKinds := [.data, .pinned], laidTests := true, laidLooks := .later }
def DirOrderUptoCardSaid : Prop := Claim7.holds Tryz.pinned (.plain (OpenSpec.upto dirOrderSpec)) dirOrderUptoCard

/-- THE SECOND FORM's CARD OF 'dunnagelaw07.DirNone'. -/
def dirNoneUptoCard : Claim7 := { stood := { row := dirNoneUptoRow, standIns := [], harness := (true, "9ca2ba82e18c91e88278b03ef67c559af467a93126dc4a6881f8e292fa24a423"), looks := true }, kinds := [], alts := [], laidByText := true, laidKinds := [.data, .pinned], laidTests := true, laidLooks := .later }
def DirNoneUptoCardSaid : Prop := Claim7.holds Tryz.pinned (.plain (OpenSpec.upto dirNoneSpec)) dirNoneUptoCard

/-- THE SECOND FORM's CARD OF 'dunnagelaw07.DirFinds'. -/
def dirFindsUptoCard : Claim7 := { stood := { row := dirFindsUptoRow, standIns := [], harness := (true, "9ca2ba82e18c91e88278b03ef67c559af467a93126dc4a6881f8e292fa24a423"), looks := true }, kinds := [], alts := [], laidByText := true, laidKinds := [.data, .pinned], laidTests := true, laidLooks := .later }
def DirFindsUptoCardSaid : Prop := Claim7.holds Tryz.pinned (.plain (OpenSpec.upto dirFindsSpec)) dirFindsUptoCard

/-- THE SECOND FORM's CARD OF 'dunnagelaw07.DirApart'. -/
def dirApartUptoCard : Claim7 := { stood := { row := dirApartUptoRow, standIns := [], harness := (true, "9ca2ba82e18c91e88278b03ef67c559af467a93126dc4a6881f8e292fa24a423"), looks := true }, kinds := [], alts := [], laidByText := true, laidKinds := [.data, .pinned], laidTests := true, laidLooks := .later }
def DirApartUptoCardSaid : Prop := Claim7.holds Tryz.pinned (.plain (OpenSpec.upto dirApartSpec)) dirApartUptoCard

/-- THE SECOND FORM's CARD OF 'dunnagelaw07.DirPlays'. -/
def dirPlaysUptoCard : Claim7 := { stood := { row := dirPlaysUptoRow, standIns := [], harness := (true, "9ca2ba82e18c91e88278b03ef67c559af467a93126dc4a6881f8e292fa24a423"), looks := true }, kinds := [], alts := [], laidByText := true, laidKinds := [.data, .pinned], laidTests := true, laidLooks := .later }
def DirPlaysUptoCardSaid : Prop := Claim7.holds Tryz.pinned (.plain (OpenSpec.upto dirPlaysSpec)) dirPlaysUptoCard

/-- THE SECOND FORM's CARD OF 'dunnagelaw07.DirGives'. -/
def dirGivesUptoCard : Claim7 := { stood := { row := dirGivesUptoRow, standIns := [], harness := (true, "9ca2ba82e18c91e88278b03ef67c559af467a93126dc4a6881f8e292fa24a423"), looks := true }, kinds := [], alts := [], laidByText := true, laidKinds := [.data, .pinned], laidTests := true, laidLooks := .later }
def DirGivesUptoCardSaid : Prop := Claim7.holds Tryz.pinned (.plain (OpenSpec.upto dirGivesSpec)) dirGivesUptoCard

/-- THE SECOND FORM's CARD OF 'dunnagelaw07.DirPaths'. -/
def dirPathsUptoCard : Claim7 := { stood := { row := dirPathsUptoRow, standIns := [], harness := (true, "9ca2ba82e18c91e88278b03ef67c559af467a93126dc4a6881f8e292fa24a423"), looks := true }, kinds := [], alts := [], laidByText := true, laidKinds := [.data, .pinned], laidTests := true, laidLooks := .later }
def DirPathsUptoCardSaid : Prop := Claim7.holds Tryz.pinned (.plain (OpenSpec.upto dirPathsSpec)) dirPathsUptoCard

/-- THE SECOND FORM's CARD OF 'dunnagelaw07.DirBack'. -/
def dirBackUptoCard : Claim7 := { stood := { row := dirBackUptoRow, standIns := [], harness := (true, "9ca2ba82e18c91e88278b03ef67c559af467a93126dc4a6881f8e292fa24a423"), looks := true }, kinds := [], alts := [], laidByText := true, laidKinds := [.data, .pinned], laidTests := true, laidLooks := .later }
def DirBackUptoCardSaid : Prop := Claim7.holds Tryz.pinned (.plain (OpenSpec.upto dirBackSpec)) dirBackUptoCard
end Rows
end Go.Proofs.YtfgkgoddjemnfaaGreatDoor
