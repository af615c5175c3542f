/-
  DERIVED. GIVEN WITH THE SEED: THE CARDS: each row of YtjolgckkoidhgaaDoorRows.lean that lists a variable, with what it lists TIED to the program's text (the seventh form; the later family's looks); each row that meets fmt, with fmt's text TOLD by the authors' own Lean function (tested against real Go, not proved from fmt's source: count such statements apart). THE CARD IS WHAT COUNTS. Prove the row's statement (the work); the ties are given (YtjolgckkoidhgaaDoorTie.lean); close each card by the builder's one call (the guide's Derived/Test/ToyasCard.lean, 'card_holds'). Laid BY PROGRAM, IN A SANDBOX (cutbox-door.mjs). By AI agents, Wed Nov 11 2026. No macro, syntax, notation, axiom, sorry.
-/
import Derived.Test.YtjolgckkoidhgaaDoorRows
import GoSem.ClaimSeven
namespace Go.Proofs.YtjolgckkoidhgaaDoor
namespace Rows

/-- THE TIED CARD OF 'dunnagelaw14.UnionIdle'. -/
def unionIdleCard : Claim7 := { stood := { row := unionIdleRow, standIns := [], harness := (true, "adf3365bacb69a92c5cb451be14e7073c7680d2a764cb7fd3ec4c0ee1d0ff582"), looks := false }, kinds := [], alts := [], laidByText := true, laidKinds := [.data, .pinned], laidTests := true, laidLooks := .later }
def UnionIdleCardSaid : Prop := Claim7.holds Tryd.pinned (.plain (OpenSpec.ofChange unionIdleSpec)) unionIdleCard

/-- THE TIED CARD OF 'dunnagelaw14.UnionGone'. -/
def unionGoneCard : Claim7 := { stood := { row := unionGoneRow, standIns := [], harness := (true, "adf3365bacb69a92c5cb451be14e7073c7680d2a764cb7fd3ec4c0ee1d0ff582"), looks := false }, kinds := [], alts := [], laidByText := true, laidKinds := [.data, .pinned], laidTests := true, laidLooks := .later }
def UnionGoneCardSaid : Prop := Claim7.holds Tryd.pinned (.plain (OpenSpec.ofChange unionGoneSpec)) unionGoneCard

/-- THE TIED CARD OF 'dunnagelaw14.UnionTree'. -/
def unionTreeCard : Claim7 := { stood := { row := unionTreeRow, standIns := [], harness := (true, "adf3365bacb69a92c5cb451be14e7073c7680d2a764cb7fd3ec4c0ee1d0ff582"), looks := false }, kinds := [], alts := [], laidByText := true, laidKinds := [.data, .pinned], laidTests := true, laidLooks := .later }
def UnionTreeCardSaid : Prop := Claim7.holds Tryd.pinned (.plain (OpenSpec.ofChange unionTreeSpec)) unionTreeCard

/-- THE SECOND FORM's CARD OF 'dunnagelaw14.UnionIdle'. -/
def unionIdleUptoCard : Claim7 := { stood := { row := unionIdleUptoRow, standIns := [], harness := (true, "adf3365bacb69a92c5cb451be14e7073c7680d2a764cb7fd3ec4c0ee1d0ff582"), looks := false }, kinds := [], alts := [], laidByText := true, laidKinds := [.data, .pinned], laidTests := true, laidLooks := .later }
def UnionIdleUptoCardSaid : Prop := Claim7.holds Tryd.pinned (.plain (OpenSpec.upto unionIdleSpec)) unionIdleUptoCard

/-- THE SECOND FORM's CARD OF 'dunnagelaw14.UnionGone'. -/
def unionGoneUptoCard : Claim7 := { stood := { row := unionGoneUptoRow, standIns := [], harness := (true, "adf3365bacb69a92c5cb451be14e7073c7680d2a764cb7fd3ec4c0ee1d0ff582"), looks := false }, kinds := [], alts := [], laidByText := true, laidKinds := [.data, .pinned], laidTests := true, laidLooks := .later }
def UnionGoneUptoCardSaid : Prop := Claim7.holds Tryd.pinned (.plain (OpenSpec.upto unionGoneSpec)) unionGoneUptoCard

/-- THE SECOND FORM's CARD OF 'dunnagelaw14.UnionTree'. -/
def unionTreeUptoCard : Claim7 := { stood := { row := unionTreeUptoRow, standIns := [], harness := (true, "adf3365bacb69a92c5cb451be14e7073c7680d2a764cb7fd3ec4c0ee1d0ff582"), looks := false }, kinds := [], alts := [], laidByText := true, laidKinds := [.data, .pinned], laidTests := true, laidLooks := .later }
def UnionTreeUptoCardSaid : Prop := Claim7.holds Tryd.pinned (.plain (OpenSpec.upto unionTreeSpec)) unionTreeUptoCard
end Rows
end Go.Proofs.YtjolgckkoidhgaaDoor
