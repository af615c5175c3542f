/-
  DERIVED. GIVEN WITH THE SEED: THE CARDS: each row of YtakmplpfjcddiaaGreatDoorRows.lean that lists a variable, with what it lists TIED to the program's text (the seventh form; the later family's looks); each row that meets fmt, with fmt's text TOLD by the authors' own Lean function (tested against real Go, not proved from fmt's source: count such statements apart). THE CARD IS WHAT COUNTS. Prove the row's statement (the work); the ties are given (YtakmplpfjcddiaaGreatDoorTie.lean); close each card by the builder's one call (the guide's Derived/Test/ToyasCard.lean, 'card_holds'). Laid BY PROGRAM, IN A SANDBOX (cutbox-door.mjs). By AI agents, Wed Nov 11 2026. No macro, syntax, notation, axiom, sorry.
-/
import Derived.Test.YtakmplpfjcddiaaGreatDoorRows
import GoSem.ClaimSeven
namespace Go.Proofs.YtakmplpfjcddiaaGreatDoor
namespace Rows

/-- THE TIED CARD OF 'dunnagelaw08.FsysModes'. -/
def fsysModesCard : Claim7 := { stood := { row := fsysModesRow, standIns := [], harness := (true, "839e26d39717ec418e75e85fe60db0d113e9cde35d99f954c8d1811f8d0ace05"), looks := true }, kinds := [], alts := [], laidByText := true, laidKinds := [.data, .pinned], laidTests := true, laidLooks := .later }
def FsysModesCardSaid : Prop := Claim7.holds Tryz.pinned (.plain (OpenSpec.ofChange fsysModesSpec)) fsysModesCard

/-- THE TIED CARD OF 'dunnagelaw08.FsysNone'. -/
def fsysNoneCard : Claim7 := { stood := { row := fsysNoneRow, standIns := [], harness := (true, "839e26d39717ec418e75e85fe60db0d113e9cde35d99f954c8d1811f8d0ace05"), looks := true }, kinds := [], alts := [], laidByText := true, laidKinds := [.data, .pinned], laidTests := true, laidLooks := .later }
def FsysNoneCardSaid : Prop := Claim7.holds Tryz.pinned (.plain (OpenSpec.ofChange fsysNoneSpec)) fsysNoneCard

/-- THE TIED CARD OF 'dunnagelaw08.FsysBack'. -/
def fsysBackCard : Claim7 := { stood := { row := fsysBackRow, standIns := [], harness := (true, "839e26d39717ec418e75e85fe60db0d113e9cde35d99f954c8d1811f8d0ace05"), looks := true }, kinds := [], alts := [], laidByText := true, laidKinds := [.data, .pinned], laidTests := true, laidLooks := .later }
def FsysBackCardSaid : Prop := Claim7.holds Tryz.pinned (.plain (OpenSpec.ofChange fsysBackSpec)) fsysBackCard

/-- THE TIED CARD OF 'dunnagelaw08.FsysTurns'. -/
def fsysTurnsCard : Claim7 := { stood := { row := fsysTurnsRow, standIns := [], harness := (true, "839e26d39717ec418e75e85fe60db0d113e9cde35d99f954c8d1811f8d0ace05"), looks := true }, kinds := [], alts := [], laidByText := true, laidKinds := [.data, .pinned], laidTests := true, laidLooks := .later }
def FsysTurnsCardSaid : Prop := Claim7.holds Tryz.pinned (.plain (OpenSpec.ofChange fsysTurnsSpec)) fsysTurnsCard

/-- THE TIED CARD OF 'dunnagelaw08.FsysMoves'. -/
def fsysMovesCard : Claim7 := { stood := { row := fsysMovesRow, standIns := [], harness := (true, "839e26d39717ec418e75e85fe60db0d113e9cde35d99f954c8d1811f8d0ace05"), looks := true }, kinds := [], alts := [], laidByText := true, laidKinds := [.data, .pinned], laidTests := true, laidLooks := .later }
def FsysMovesCardSaid : Prop := Claim7.holds Tryz.pinned (.plain (OpenSpec.ofChange fsysMovesSpec)) fsysMovesCard

/-- THE TIED CARD OF 'dunnagelaw08.FsysAsks'. -/
def fsysAsksCard : Claim7 := { stood := { row := fsysAsksRow, standIns := [], harness := (true, "839e26d39717ec418e75e85fe60db0d113e9cde35d99f954c8d1811f8d0ace05"), looks := true }, kinds := [], alts := [], laidByText := true, laidKinds := [.data, .pinned], laidTests := true, laidLooks := .later }
def FsysAsksCardSaid : Prop := Claim7.holds Tryz.pinned (.plain (OpenSpec.ofChange fsysAsksSpec)) fsysAsksCard

/-- THE TIED CARD OF 'dunnagelaw08.FsysPlays'. -/
def fsysPlaysCard : Claim7 := { stood := { row := fsysPlaysRow, standIns := [], harness := (true, "839e26d39717ec418e75e85fe60db0d113e9cde35d99f954c8d1811f8d0ace05"), looks := true }, kinds := [], alts := [], laidByText := true, laidKinds := [.data, .pinned], laidTests := true, laidLooks := .later }
def FsysPlaysCardSaid : Prop := Claim7.holds Tryz.pinned (.plain (OpenSpec.ofChange fsysPlaysSpec)) fsysPlaysCard

/-- THE TIED CARD OF 'dunnagelaw08.FsysMounts'. -/
def fsysMountsCard : Claim7 := { stood := { row := fsysMountsRow, standIns := [], harness := (true, "839e26d39717ec418e75e85fe60db0d113e9cde35d99f954c8d1811f8d0ace05"), looks := true }, kinds := [], alts := [], laidByText := true, laidKinds := [.data, .pinned], laidTests := true, laidLooks := .later }
def FsysMountsCardSaid : Prop := Claim7.holds Tryz.pinned (.plain (OpenSpec.ofChange fsysMountsSpec)) fsysMountsCard

/-- THE TIED CARD OF 'dunnagelaw08.FsysCrashes'. -/
def fsysCrashesCard : Claim7 := { stood := { row := fsysCrashesRow, standIns := [], harness := (true, "839e26d39717ec418e75e85fe60db0d113e9cde35d99f954c8d1811f8d0ace05"), looks := true }, kinds := [], alts := [], laidByText := true, laidKinds := [.data, .pinned], laidTests := true, laidLooks := .later }
def FsysCrashesCardSaid : Prop := Claim7.holds Tryz.pinned (.plain (OpenSpec.ofChange fsysCrashesSpec)) fsysCrashesCard

/-- THE SECOND FORM's CARD OF 'dunnagelaw08.FsysModes'. -/
def fsysModesUptoCard : Claim7 := { stood := { row := fsysModesUptoRow, standIns := [], harness := (true, "839e26d39717ec418e75e85fe60db0d113e9cde35d99f954c8d1811f8d0ace05"), looks := true }, kinds := [], alts := [], laidByText := true, laidKinds := [.data, .pinned], laidTests := true, laidLooks := .later }
def FsysModesUptoCardSaid : Prop := Claim7.holds Tryz.pinned (.plain (OpenSpec.upto fsysModesSpec)) fsysModesUptoCard

/-- THE SECOND FORM's CARD OF 'dunnagelaw08.FsysNone'. -/
def fsysNoneUptoCard : Claim7 := { stood := { row := fsysNoneUptoRow, standIns := [], harness := (true, "839e26d39717ec418e75e85fe60db0d113e9cde35d99f954c8d1811f8d0ace05"), looks := true }, kinds := [], alts := [], laidByText := true, laidKinds := [.data, .pinned], laidTests := true, laidLooks := .later }
def FsysNoneUptoCardSaid : Prop := Claim7.holds Tryz.pinned (.plain (OpenSpec.upto fsysNoneSpec)) fsysNoneUptoCard

/-- THE SECOND FORM's CARD OF 'dunnagelaw08.FsysBack'. -/
def fsysBackUptoCard : Claim7 := { stood := { row := fsysBackUptoRow, standIns := [], harness := (true, "839e26d39717ec418e75e85fe60db0d113e9cde35d99f954c8d1811f8d0ace05"), looks := true }, kinds := [], alts := [], laidByText := true, laidKinds := [.data, .pinned], laidTests := true, laidLooks := .later }
def FsysBackUptoCardSaid : Prop := Claim7.holds Tryz.pinned (.plain (OpenSpec.upto fsysBackSpec)) fsysBackUptoCard

/-- THE SECOND FORM's CARD OF 'dunnagelaw08.FsysTurns'. -/
def fsysTurnsUptoCard : Claim7 := { stood := { row := fsysTurnsUptoRow, standIns := [], harness := (true, "839e26d39717ec418e75e85fe60db0d113e9cde35d99f954c8d1811f8d0ace05"), looks := true }, kinds := [], alts := [], laidByText := true, laidKinds := [.data, .pinned], laidTests := true, laidLooks := .later }
def FsysTurnsUptoCardSaid : Prop := Claim7.holds Tryz.pinned (.plain (OpenSpec.upto fsysTurnsSpec)) fsysTurnsUptoCard

/-- THE SECOND FORM's CARD OF 'dunnagelaw08.FsysMoves'. -/
def fsysMovesUptoCard : Claim7 := { stood := { row := fsysMovesUptoRow, standIns := [], harness := (true, "839e26d39717ec418e75e85fe60db0d113e9cde35d99f954c8d1811f8d0ace05"), looks := true }, kinds := [], alts := [], laidByText := true, laidKinds := [.data, .pinned], laidTests := true, laidLooks := .later }
def FsysMovesUptoCardSaid : Prop := Claim7.holds Tryz.pinned (.plain (OpenSpec.upto fsysMovesSpec)) fsysMovesUptoCard

/-- THE SECOND FORM's CARD OF 'dunnagelaw08.FsysAsks'. -/
def fsysAsksUptoCard : Claim7 := { stood := { row := fsysAsksUptoRow, standIns := [], harness := (true, "839e26d39717ec418e75e85fe60db0d113e9cde35d99f954c8d1811f8d0ace05"), looks := true }, kinds := [], alts := [], laidByText := true, laidKinds := [.data, .pinned], laidTests := true, laidLooks := .later }
def FsysAsksUptoCardSaid : Prop := Claim7.holds Tryz.pinned (.plain (OpenSpec.upto fsysAsksSpec)) fsysAsksUptoCard

/-- THE SECOND FORM's CARD OF 'dunnagelaw08.FsysPlays'. -/
def fsysPlaysUptoCard : Claim7 := { stood := { row := fsysPlaysUptoRow, standIns := [], harness := (true, "839e26d39717ec418e75e85fe60db0d113e9cde35d99f954c8d1811f8d0ace05"), looks := true }, kinds := [], alts := [], laidByText := true, laidKinds := [.data, .pinned], laidTests := true, laidLooks := .later }
def FsysPlaysUptoCardSaid : Prop := Claim7.holds Tryz.pinned (.plain (OpenSpec.upto fsysPlaysSpec)) fsysPlaysUptoCard

/-- THE SECOND FORM's CARD OF 'dunnagelaw08.FsysMounts'. -/
def fsysMountsUptoCard : Claim7 := { stood := { row := fsysMountsUptoRow, standIns := [], harness := (true, "839e26d39717ec418e75e85fe60db0d113e9cde35d99f954c8d1811f8d0ace05"), looks := true }, kinds := [], alts := [], laidByText := true, laidKinds := [.data, .pinned], laidTests := true, laidLooks := .later }
def FsysMountsUptoCardSaid : Prop := Claim7.holds Tryz.pinned (.plain (OpenSpec.upto fsysMountsSpec)) fsysMountsUptoCard

/-- THE SECOND FORM's CARD OF 'dunnagelaw08.FsysCrashes'. -/
def fsysCrashesUptoCard : Claim7 := { stood := { row := fsysCrashesUptoRow, standIns := [], harness := (true, "839e26d39717ec418e75e85fe60db0d113e9cde35d99f954c8d1811f8d0ace05"), looks := true }, kinds := [], alts := [], laidByText := true, laidKinds := [.data, .pinned], laidTests := true, laidLooks := .later }
def FsysCrashesUptoCardSaid : Prop := Claim7.holds Tryz.pinned (.plain (OpenSpec.upto fsysCrashesSpec)) fsysCrashesUptoCard
end Rows
end Go.Proofs.YtakmplpfjcddiaaGreatDoor
