/-
  DERIVED. GIVEN WITH THE SEED: THE CARDS: each row of YtjolgckkoidhgaaGreatDoorRows.lean that lists a variable, with what it lists TIED to the program's text (the seventh form; the later family's looks); each row that meets fmt, with fmt's text TOLD by the authors' own Lean function (tested against real Go, not proved from fmt's source: count such statements apart). THE CARD IS WHAT COUNTS. Prove the row's statement (the work); the ties are given (YtjolgckkoidhgaaGreatDoorTie.lean); close each card by the builder's one call (the guide's Derived/Test/ToyasCard.lean, 'card_holds'). Laid BY PROGRAM, IN A SANDBOX (cutbox-door.mjs). By AI agents, Wed Nov 11 2026. No macro, syntax, notation, axiom, sorry.
-/
import Derived.Test.YtjolgckkoidhgaaGreatDoorRows
import GoSem.ClaimSeven
namespace Go.Proofs.YtjolgckkoidhgaaGreatDoor
namespace Rows

/-- THE TIED CARD OF 'dunnagelaw14.UnionNone'. -/
def unionNoneCard : Claim7 := { stood := { row := unionNoneRow, standIns := [], harness := (true, "8ff657fce02ca3e9785c853bea94c490d72ff4d590a7e1cf4686e752732f0dc1"), looks := true }, kinds := [], alts := [], laidByText := true, laidKinds := [.data, .pinned], laidTests := true, laidLooks := .later }
def UnionNoneCardSaid : Prop := Claim7.holds Tryz.pinned (.plain (OpenSpec.ofChange unionNoneSpec)) unionNoneCard

/-- THE SECOND FORM's CARD OF 'dunnagelaw14.UnionNone'. -/
def unionNoneUptoCard : Claim7 := { stood := { row := unionNoneUptoRow, standIns := [], harness := (true, "8ff657fce02ca3e9785c853bea94c490d72ff4d590a7e1cf4686e752732f0dc1"), looks := true }, kinds := [], alts := [], laidByText := true, laidKinds := [.data, .pinned], laidTests := true, laidLooks := .later }
def UnionNoneUptoCardSaid : Prop := Claim7.holds Tryz.pinned (.plain (OpenSpec.upto unionNoneSpec)) unionNoneUptoCard
end Rows
end Go.Proofs.YtjolgckkoidhgaaGreatDoor
