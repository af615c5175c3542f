/-
  NARROWER THAN 'FOR EVERY INPUT', by the rows' own cells (each row's printed sentence says how): FsysModes: laid · FsysNone: laid · FsysBack: laid · FsysTurns: laid · FsysMoves: laid · FsysAsks: laid · FsysPlays: laid · FsysMounts: laid · FsysCrashes: laid.
  DERIVED. THE GIVEN ROWS OF THIS SEAT. 9 by the template 'for every input the law returns true; each argument reads behind the call as it read before'; 0 by the template 'total and deterministic' (their statements: YtakmplpfjcddiaaGreatDoorTotals.lean).
  GIVEN WITH THE SEED: the statements are not yours to turn. If you find one false, say at which input.
  Laid BY PROGRAM, IN A SANDBOX (cutbox-rows.mjs): the forced cells as the released guide's own fill.sh prints them over the translation d2f42868e5ea36f4… (all of the seat's roots in one cut). By AI agents, Wed Nov 11 2026. No macro, syntax, notation, axiom, sorry.
-/
import Derived.Test.YtakmplpfjcddiaaGreatDoorChecked
import GoSem.PinnedTables
import GoSem.Claim
import GoSem.ClaimJoined
import GoSem.ClaimMapViews
import Derived.JoinedTies
import Derived.KernelRfl
namespace Go.Proofs.YtakmplpfjcddiaaGreatDoor
/- THE CELL 'sum', in the pinned program and in every row, IS THE sha256 OF THE DUMP (.gsa) THAT YtakmplpfjcddiaaGreatDoorProg.lean LOADS. Nothing in Lean hashes anything: it is a label: what it is worth is what the hold of that sum in a sandbox is worth. -/
noncomputable def Tryz.pinned : Pinned := { name := "ytakmplpfjcddiaagreatdoor", sum := "d2f42868e5ea36f4ae0de2667382096cf30d277d2a1148a1ace2a5615c268067", checked := Tryz.checked }
namespace Rows
def none {H : Type} : Left H := { results := [], args := [] }

/- WHAT THE LISTED PACKAGE-LEVEL VARIABLES READ AS WHEN THE CALL BEGINS. Each datum BY PROGRAM (the guide's laid-datum.mjs) off the statement by which the dump's own 'gosem.cut.vars' lays the variable. In a bare row this is a premise. The card (YtakmplpfjcddiaaGreatDoorCards.lean) ties it to the program's text. -/
def laid_unicode_utf8_acceptRanges {H : Type} : DataW H := .agg [.agg [.lit (.int .u8 128), .lit (.int .u8 191)], .agg [.lit (.int .u8 160), .lit (.int .u8 191)], .agg [.lit (.int .u8 128), .lit (.int .u8 159)], .agg [.lit (.int .u8 144), .lit (.int .u8 191)], .agg [.lit (.int .u8 128), .lit (.int .u8 143)], .agg [.lit (.int .u8 0), .lit (.int .u8 0)], .agg [.lit (.int .u8 0), .lit (.int .u8 0)], .agg [.lit (.int .u8 0), .lit (.int .u8 0)], .agg [.lit (.int .u8 0), .lit (.int .u8 0)], .agg [.lit (.int .u8 0), .lit (.int .u8 0)], .agg [.lit (.int .u8 0), .lit (.int .u8 0)], .agg [.lit (.int .u8 0), .lit (.int .u8 0)], .agg [.lit (.int .u8 0), .lit (.int .u8 0)], .agg [.lit (.int .u8 0), .lit (.int .u8 0)], .agg [.lit (.int .u8 0), .lit (.int .u8 0)], .agg [.lit (.int .u8 0), .lit (.int .u8 0)]]
/-- One of Go's own tables, pinned by name: the form's constant. -/
def laid_unicode_utf8_first : DataW Unit := Go.Pinned.utf8First

/-- 'dunnagelaw08.FsysModes': WHATEVER THE INPUT: true; the input reads as it did. -/
def fsysModesSpec : ChangeSpec := { name := "fsysModes", fn := fun _ => fun
  | [d] => { results := [.lit (.bool true)], args := [d] }
  | _ => none }
def fsysModesRow : OpenClaim := { program := "ytakmplpfjcddiaagreatdoor", sum := "d2f42868e5ea36f4ae0de2667382096cf30d277d2a1148a1ace2a5615c268067", func := "dunnage/dunnagelaw08.FsysModes", spec := "fsysModes", inPlace := ["internal/bytealg.CountString", "internal/bytealg.IndexByteString", "internal/bytealg.IndexString"], unfollowed := true, recurses := true, named := ["unicode/utf8.first", "unicode/utf8.acceptRanges", "internal/bytealg.MaxLen"], apart := false, laid := [("unicode/utf8.acceptRanges", laid_unicode_utf8_acceptRanges), ("unicode/utf8.first", laid_unicode_utf8_first)] }
def FsysModesSaid : Prop := fsysModesRow.holds Tryz.pinned (OpenSpec.ofChange fsysModesSpec)

/-- ITS FALSE NEIGHBOUR: 'it returns false'. Refute it at one input. -/
def fsysModesWrong : ChangeSpec := { name := "fsysModes", fn := fun _ => fun
  | [d] => { results := [.lit (.bool false)], args := [d] }
  | _ => none }
def FsysModesWrongFalsely : Prop := fsysModesRow.holds Tryz.pinned (OpenSpec.ofChange fsysModesWrong)

/-- 'dunnagelaw08.FsysNone': WHATEVER THE INPUT: true; the input reads as it did. -/
def fsysNoneSpec : ChangeSpec := { name := "fsysNone", fn := fun _ => fun
  | [d1, d2] => { results := [.lit (.bool true)], args := [d1, d2] }
  | _ => none }
def fsysNoneRow : OpenClaim := { program := "ytakmplpfjcddiaagreatdoor", sum := "d2f42868e5ea36f4ae0de2667382096cf30d277d2a1148a1ace2a5615c268067", func := "dunnage/dunnagelaw08.FsysNone", spec := "fsysNone", inPlace := ["internal/bytealg.CountString", "internal/bytealg.IndexByteString", "internal/bytealg.IndexString"], unfollowed := true, recurses := true, named := ["unicode/utf8.first", "unicode/utf8.acceptRanges", "internal/bytealg.MaxLen"], apart := false, laid := [("unicode/utf8.acceptRanges", laid_unicode_utf8_acceptRanges), ("unicode/utf8.first", laid_unicode_utf8_first)] }
def FsysNoneSaid : Prop := fsysNoneRow.holds Tryz.pinned (OpenSpec.ofChange fsysNoneSpec)

/-- ITS FALSE NEIGHBOUR: 'it returns false'. Refute it at one input. -/
def fsysNoneWrong : ChangeSpec := { name := "fsysNone", fn := fun _ => fun
  | [d1, d2] => { results := [.lit (.bool false)], args := [d1, d2] }
  | _ => none }
def FsysNoneWrongFalsely : Prop := fsysNoneRow.holds Tryz.pinned (OpenSpec.ofChange fsysNoneWrong)

/-- 'dunnagelaw08.FsysBack': WHATEVER THE INPUT: true; the input reads as it did. -/
def fsysBackSpec : ChangeSpec := { name := "fsysBack", fn := fun _ => fun
  | [d1, d2] => { results := [.lit (.bool true)], args := [d1, d2] }
  | _ => none }
def fsysBackRow : OpenClaim := { program := "ytakmplpfjcddiaagreatdoor", sum := "d2f42868e5ea36f4ae0de2667382096cf30d277d2a1148a1ace2a5615c268067", func := "dunnage/dunnagelaw08.FsysBack", spec := "fsysBack", inPlace := ["internal/bytealg.CountString", "internal/bytealg.IndexByteString", "internal/bytealg.IndexString"], unfollowed := true, recurses := true, named := ["unicode/utf8.first", "unicode/utf8.acceptRanges", "internal/bytealg.MaxLen"], apart := false, laid := [("unicode/utf8.acceptRanges", laid_unicode_utf8_acceptRanges), ("unicode/utf8.first", laid_unicode_utf8_first)] }
def FsysBackSaid : Prop := fsysBackRow.holds Tryz.pinned (OpenSpec.ofChange fsysBackSpec)

/-- ITS FALSE NEIGHBOUR: 'it returns false'. Refute it at one input. -/
def fsysBackWrong : ChangeSpec := { name := "fsysBack", fn := fun _ => fun
  | [d1, d2] => { results := [.lit (.bool false)], args := [d1, d2] }
  | _ => none }
def FsysBackWrongFalsely : Prop := fsysBackRow.holds Tryz.pinned (OpenSpec.ofChange fsysBackWrong)

/-- 'dunnagelaw08.FsysTurns': WHATEVER THE INPUT: true; the input reads as it did. -/
def fsysTurnsSpec : ChangeSpec := { name := "fsysTurns", fn := fun _ => fun
  | [d1, d2, d3] => { results := [.lit (.bool true)], args := [d1, d2, d3] }
  | _ => none }
def fsysTurnsRow : OpenClaim := { program := "ytakmplpfjcddiaagreatdoor", sum := "d2f42868e5ea36f4ae0de2667382096cf30d277d2a1148a1ace2a5615c268067", func := "dunnage/dunnagelaw08.FsysTurns", spec := "fsysTurns", inPlace := ["internal/bytealg.CountString", "internal/bytealg.IndexByteString", "internal/bytealg.IndexString"], unfollowed := true, recurses := true, named := ["unicode/utf8.first", "unicode/utf8.acceptRanges", "internal/bytealg.MaxLen"], apart := false, laid := [("unicode/utf8.acceptRanges", laid_unicode_utf8_acceptRanges), ("unicode/utf8.first", laid_unicode_utf8_first)] }
def FsysTurnsSaid : Prop := fsysTurnsRow.holds Tryz.pinned (OpenSpec.ofChange fsysTurnsSpec)

/-- ITS FALSE NEIGHBOUR: 'it returns false'. Refute it at one input. -/
def fsysTurnsWrong : ChangeSpec := { name := "fsysTurns", fn := fun _ => fun
  | [d1, d2, d3] => { results := [.lit (.bool false)], args := [d1, d2, d3] }
  | _ => none }
def FsysTurnsWrongFalsely : Prop := fsysTurnsRow.holds Tryz.pinned (OpenSpec.ofChange fsysTurnsWrong)

/-- 'dunnagelaw08.FsysMoves': WHATEVER THE INPUT: true; the input reads as it did. -/
def fsysMovesSpec : ChangeSpec := { name := "fsysMoves", fn := fun _ => fun
  | [d1, d2, d3] => { results := [.lit (.bool true)], args := [d1, d2, d3] }
  | _ => none }
def fsysMovesRow : OpenClaim := { program := "ytakmplpfjcddiaagreatdoor", sum := "d2f42868e5ea36f4ae0de2667382096cf30d277d2a1148a1ace2a5615c268067", func := "dunnage/dunnagelaw08.FsysMoves", spec := "fsysMoves", inPlace := ["internal/bytealg.CountString", "internal/bytealg.IndexByteString", "internal/bytealg.IndexString"], unfollowed := true, recurses := true, named := ["unicode/utf8.first", "unicode/utf8.acceptRanges", "internal/bytealg.MaxLen"], apart := false, laid := [("unicode/utf8.acceptRanges", laid_unicode_utf8_acceptRanges), ("unicode/utf8.first", laid_unicode_utf8_first)] }
def FsysMovesSaid : Prop := fsysMovesRow.holds Tryz.pinned (OpenSpec.ofChange fsysMovesSpec)

/-- ITS FALSE NEIGHBOUR: 'it returns false'. Refute it at one input. -/
def fsysMovesWrong : ChangeSpec := { name := "fsysMoves", fn := fun _ => fun
  | [d1, d2, d3] => { results := [.lit (.bool false)], args := [d1, d2, d3] }
  | _ => none }
def FsysMovesWrongFalsely : Prop := fsysMovesRow.holds Tryz.pinned (OpenSpec.ofChange fsysMovesWrong)

/-- 'dunnagelaw08.FsysAsks': WHATEVER THE INPUT: true; the input reads as it did. -/
def fsysAsksSpec : ChangeSpec := { name := "fsysAsks", fn := fun _ => fun
  | [d1, d2] => { results := [.lit (.bool true)], args := [d1, d2] }
  | _ => none }
def fsysAsksRow : OpenClaim := { program := "ytakmplpfjcddiaagreatdoor", sum := "d2f42868e5ea36f4ae0de2667382096cf30d277d2a1148a1ace2a5615c268067", func := "dunnage/dunnagelaw08.FsysAsks", spec := "fsysAsks", inPlace := ["internal/bytealg.CountString", "internal/bytealg.IndexByteString", "internal/bytealg.IndexString"], unfollowed := true, recurses := true, named := ["unicode/utf8.first", "unicode/utf8.acceptRanges", "internal/bytealg.MaxLen"], apart := false, laid := [("unicode/utf8.acceptRanges", laid_unicode_utf8_acceptRanges), ("unicode/utf8.first", laid_unicode_utf8_first)] }
def FsysAsksSaid : Prop := fsysAsksRow.holds Tryz.pinned (OpenSpec.ofChange fsysAsksSpec)

/-- ITS FALSE NEIGHBOUR: 'it returns false'. Refute it at one input. -/
def fsysAsksWrong : ChangeSpec := { name := "fsysAsks", fn := fun _ => fun
  | [d1, d2] => { results := [.lit (.bool false)], args := [d1, d2] }
  | _ => none }
def FsysAsksWrongFalsely : Prop := fsysAsksRow.holds Tryz.pinned (OpenSpec.ofChange fsysAsksWrong)

/-- 'dunnagelaw08.FsysPlays': WHATEVER THE INPUT: true; the input reads as it did. -/
def fsysPlaysSpec : ChangeSpec := { name := "fsysPlays", fn := fun _ => fun
  | [d1, d2] => { results := [.lit (.bool true)], args := [d1, d2] }
  | _ => none }
def fsysPlaysRow : OpenClaim := { program := "ytakmplpfjcddiaagreatdoor", sum := "d2f42868e5ea36f4ae0de2667382096cf30d277d2a1148a1ace2a5615c268067", func := "dunnage/dunnagelaw08.FsysPlays", spec := "fsysPlays", inPlace := ["internal/bytealg.CountString", "internal/bytealg.IndexByteString", "internal/bytealg.IndexString"], unfollowed := true, recurses := true, named := ["unicode/utf8.first", "unicode/utf8.acceptRanges", "internal/bytealg.MaxLen"], apart := false, laid := [("unicode/utf8.acceptRanges", laid_unicode_utf8_acceptRanges), ("unicode/utf8.first", laid_unicode_utf8_first)] }
def FsysPlaysSaid : Prop := fsysPlaysRow.holds Tryz.pinned (OpenSpec.ofChange fsysPlaysSpec)

/-- ITS FALSE NEIGHBOUR: 'it returns false'. Refute it at one input. -/
def fsysPlaysWrong : ChangeSpec := { name := "fsysPlays", fn := fun _ => fun
  | [d1, d2] => { results := [.lit (.bool false)], args := [d1, d2] }
  | _ => none }
def FsysPlaysWrongFalsely : Prop := fsysPlaysRow.holds Tryz.pinned (OpenSpec.ofChange fsysPlaysWrong)

/-- 'dunnagelaw08.FsysMounts': WHATEVER THE INPUT: true; the input reads as it did. -/
def fsysMountsSpec : ChangeSpec := { name := "fsysMounts", fn := fun _ => fun
  | [d1, d2] => { results := [.lit (.bool true)], args := [d1, d2] }
  | _ => none }
def fsysMountsRow : OpenClaim := { program := "ytakmplpfjcddiaagreatdoor", sum := "d2f42868e5ea36f4ae0de2667382096cf30d277d2a1148a1ace2a5615c268067", func := "dunnage/dunnagelaw08.FsysMounts", spec := "fsysMounts", inPlace := ["internal/bytealg.CountString", "internal/bytealg.IndexByteString", "internal/bytealg.IndexString"], unfollowed := true, recurses := true, named := ["unicode/utf8.first", "unicode/utf8.acceptRanges", "internal/bytealg.MaxLen"], apart := false, laid := [("unicode/utf8.acceptRanges", laid_unicode_utf8_acceptRanges), ("unicode/utf8.first", laid_unicode_utf8_first)] }
def FsysMountsSaid : Prop := fsysMountsRow.holds Tryz.pinned (OpenSpec.ofChange fsysMountsSpec)

/-- ITS FALSE NEIGHBOUR: 'it returns false'. Refute it at one input. -/
def fsysMountsWrong : ChangeSpec := { name := "fsysMounts", fn := fun _ => fun
  | [d1, d2] => { results := [.lit (.bool false)], args := [d1, d2] }
  | _ => none }
def FsysMountsWrongFalsely : Prop := fsysMountsRow.holds Tryz.pinned (OpenSpec.ofChange fsysMountsWrong)

/-- 'dunnagelaw08.FsysCrashes': WHATEVER THE INPUT: true; the input reads as it did. -/
def fsysCrashesSpec : ChangeSpec := { name := "fsysCrashes", fn := fun _ => fun
  | [d1, d2, d3] => { results := [.lit (.bool true)], args := [d1, d2, d3] }
  | _ => none }
def fsysCrashesRow : OpenClaim := { program := "ytakmplpfjcddiaagreatdoor", sum := "d2f42868e5ea36f4ae0de2667382096cf30d277d2a1148a1ace2a5615c268067", func := "dunnage/dunnagelaw08.FsysCrashes", spec := "fsysCrashes", inPlace := ["internal/bytealg.CountString", "internal/bytealg.IndexByteString", "internal/bytealg.IndexString"], unfollowed := true, recurses := true, named := ["unicode/utf8.first", "unicode/utf8.acceptRanges", "internal/bytealg.MaxLen"], apart := false, laid := [("unicode/utf8.acceptRanges", laid_unicode_utf8_acceptRanges), ("unicode/utf8.first", laid_unicode_utf8_first)] }
def FsysCrashesSaid : Prop := fsysCrashesRow.holds Tryz.pinned (OpenSpec.ofChange fsysCrashesSpec)

/-- ITS FALSE NEIGHBOUR: 'it returns false'. Refute it at one input. -/
def fsysCrashesWrong : ChangeSpec := { name := "fsysCrashes", fn := fun _ => fun
  | [d1, d2, d3] => { results := [.lit (.bool false)], args := [d1, d2, d3] }
  | _ => none }
def FsysCrashesWrongFalsely : Prop := fsysCrashesRow.holds Tryz.pinned (OpenSpec.ofChange fsysCrashesWrong)

/- THE SECOND FORM. 'bulk': how many values and letters a reading holds, each counted each time it is reached (what is shared counts as often as it is met; a slice's spare places count too). A statement '..UptoSaid' is the law's where the arguments, and the package variables that the reading takes, are together of bulk at most 1048576: NARROWER than '..Said'. Prove '..Said' where nothing that the law and all that it calls make is longer than what came in: it says more and counts as full. Else prove '..UptoSaid'. A law counts once. -/
mutual
def uptoBulk {H : Type} : DataW H → Nat
  | .lit (.string bytes) => bytes.length + 1
  | .lit _ => 1
  | .nil => 1
  | .ptr d => uptoBulk d + 1
  | .slice elems spare => uptoBulkAll elems + uptoBulkAll spare + 1
  | .agg parts => uptoBulkAll parts + 1
  | .iface _ d => uptoBulk d + 1
  | .map entries => uptoBulkEntries entries + 1
  | .held _ => 1
def uptoBulkAll {H : Type} : List (DataW H) → Nat
  | [] => 0
  | d :: r => uptoBulk d + uptoBulkAll r
def uptoBulkEntries {H : Type} : List (Lit × DataW H) → Nat
  | [] => 0
  | x :: r => uptoBulkEntry x + uptoBulkEntries r
def uptoBulkEntry {H : Type} : Lit × DataW H → Nat
  | (.string bytes, d) => bytes.length + uptoBulk d + 1
  | (_, d) => uptoBulk d + 1
 end
def uptoSmall : (H : Type) → List (DataW H) → Bool := fun _ ds => decide (uptoBulkAll ds ≤ 1048576)
def OpenSpec.upto (s : _root_.Go.ChangeSpec) : _root_.Go.OpenSpec := { _root_.Go.OpenSpec.ofChange s with cond := some uptoSmall }

/-- 'dunnagelaw08.FsysModes', WHERE WHAT IT READS IS OF BULK AT MOST 1048576: true; the input reads as it did. -/
def fsysModesUptoRow : OpenClaim := { program := "ytakmplpfjcddiaagreatdoor", sum := "d2f42868e5ea36f4ae0de2667382096cf30d277d2a1148a1ace2a5615c268067", func := "dunnage/dunnagelaw08.FsysModes", spec := "fsysModes", inPlace := ["internal/bytealg.CountString", "internal/bytealg.IndexByteString", "internal/bytealg.IndexString"], unfollowed := true, recurses := true, named := ["unicode/utf8.first", "unicode/utf8.acceptRanges", "internal/bytealg.MaxLen"], apart := false, laid := [("unicode/utf8.acceptRanges", laid_unicode_utf8_acceptRanges), ("unicode/utf8.first", laid_unicode_utf8_first)], narrowed := true }
def FsysModesUptoSaid : Prop := fsysModesUptoRow.holds Tryz.pinned (OpenSpec.upto fsysModesSpec)

/-- 'dunnagelaw08.FsysNone', WHERE WHAT IT READS IS OF BULK AT MOST 1048576: true; the input reads as it did. -/
def fsysNoneUptoRow : OpenClaim := { program := "ytakmplpfjcddiaagreatdoor", sum := "d2f42868e5ea36f4ae0de2667382096cf30d277d2a1148a1ace2a5615c268067", func := "dunnage/dunnagelaw08.FsysNone", spec := "fsysNone", inPlace := ["internal/bytealg.CountString", "internal/bytealg.IndexByteString", "internal/bytealg.IndexString"], unfollowed := true, recurses := true, named := ["unicode/utf8.first", "unicode/utf8.acceptRanges", "internal/bytealg.MaxLen"], apart := false, laid := [("unicode/utf8.acceptRanges", laid_unicode_utf8_acceptRanges), ("unicode/utf8.first", laid_unicode_utf8_first)], narrowed := true }
def FsysNoneUptoSaid : Prop := fsysNoneUptoRow.holds Tryz.pinned (OpenSpec.upto fsysNoneSpec)

/-- 'dunnagelaw08.FsysBack', WHERE WHAT IT READS IS OF BULK AT MOST 1048576: true; the input reads as it did. -/
def fsysBackUptoRow : OpenClaim := { program := "ytakmplpfjcddiaagreatdoor", sum := "d2f42868e5ea36f4ae0de2667382096cf30d277d2a1148a1ace2a5615c268067", func := "dunnage/dunnagelaw08.FsysBack", spec := "fsysBack", inPlace := ["internal/bytealg.CountString", "internal/bytealg.IndexByteString", "internal/bytealg.IndexString"], unfollowed := true, recurses := true, named := ["unicode/utf8.first", "unicode/utf8.acceptRanges", "internal/bytealg.MaxLen"], apart := false, laid := [("unicode/utf8.acceptRanges", laid_unicode_utf8_acceptRanges), ("unicode/utf8.first", laid_unicode_utf8_first)], narrowed := true }
def FsysBackUptoSaid : Prop := fsysBackUptoRow.holds Tryz.pinned (OpenSpec.upto fsysBackSpec)

/-- 'dunnagelaw08.FsysTurns', WHERE WHAT IT READS IS OF BULK AT MOST 1048576: true; the input reads as it did. -/
def fsysTurnsUptoRow : OpenClaim := { program := "ytakmplpfjcddiaagreatdoor", sum := "d2f42868e5ea36f4ae0de2667382096cf30d277d2a1148a1ace2a5615c268067", func := "dunnage/dunnagelaw08.FsysTurns", spec := "fsysTurns", inPlace := ["internal/bytealg.CountString", "internal/bytealg.IndexByteString", "internal/bytealg.IndexString"], unfollowed := true, recurses := true, named := ["unicode/utf8.first", "unicode/utf8.acceptRanges", "internal/bytealg.MaxLen"], apart := false, laid := [("unicode/utf8.acceptRanges", laid_unicode_utf8_acceptRanges), ("unicode/utf8.first", laid_unicode_utf8_first)], narrowed := true }
def FsysTurnsUptoSaid : Prop := fsysTurnsUptoRow.holds Tryz.pinned (OpenSpec.upto fsysTurnsSpec)

/-- 'dunnagelaw08.FsysMoves', WHERE WHAT IT READS IS OF BULK AT MOST 1048576: true; the input reads as it did. -/
def fsysMovesUptoRow : OpenClaim := { program := "ytakmplpfjcddiaagreatdoor", sum := "d2f42868e5ea36f4ae0de2667382096cf30d277d2a1148a1ace2a5615c268067", func := "dunnage/dunnagelaw08.FsysMoves", spec := "fsysMoves", inPlace := ["internal/bytealg.CountString", "internal/bytealg.IndexByteString", "internal/bytealg.IndexString"], unfollowed := true, recurses := true, named := ["unicode/utf8.first", "unicode/utf8.acceptRanges", "internal/bytealg.MaxLen"], apart := false, laid := [("unicode/utf8.acceptRanges", laid_unicode_utf8_acceptRanges), ("unicode/utf8.first", laid_unicode_utf8_first)], narrowed := true }
def FsysMovesUptoSaid : Prop := fsysMovesUptoRow.holds Tryz.pinned (OpenSpec.upto fsysMovesSpec)

/-- 'dunnagelaw08.FsysAsks', WHERE WHAT IT READS IS OF BULK AT MOST 1048576: true; the input reads as it did. -/
def fsysAsksUptoRow : OpenClaim := { program := "ytakmplpfjcddiaagreatdoor", sum := "d2f42868e5ea36f4ae0de2667382096cf30d277d2a1148a1ace2a5615c268067", func := "dunnage/dunnagelaw08.FsysAsks", spec := "fsysAsks", inPlace := ["internal/bytealg.CountString", "internal/bytealg.IndexByteString", "internal/bytealg.IndexString"], unfollowed := true, recurses := true, named := ["unicode/utf8.first", "unicode/utf8.acceptRanges", "internal/bytealg.MaxLen"], apart := false, laid := [("unicode/utf8.acceptRanges", laid_unicode_utf8_acceptRanges), ("unicode/utf8.first", laid_unicode_utf8_first)], narrowed := true }
def FsysAsksUptoSaid : Prop := fsysAsksUptoRow.holds Tryz.pinned (OpenSpec.upto fsysAsksSpec)

/-- 'dunnagelaw08.FsysPlays', WHERE WHAT IT READS IS OF BULK AT MOST 1048576: true; the input reads as it did. -/
def fsysPlaysUptoRow : OpenClaim := { program := "ytakmplpfjcddiaagreatdoor", sum := "d2f42868e5ea36f4ae0de2667382096cf30d277d2a1148a1ace2a5615c268067", func := "dunnage/dunnagelaw08.FsysPlays", spec := "fsysPlays", inPlace := ["internal/bytealg.CountString", "internal/bytealg.IndexByteString", "internal/bytealg.IndexString"], unfollowed := true, recurses := true, named := ["unicode/utf8.first", "unicode/utf8.acceptRanges", "internal/bytealg.MaxLen"], apart := false, laid := [("unicode/utf8.acceptRanges", laid_unicode_utf8_acceptRanges), ("unicode/utf8.first", laid_unicode_utf8_first)], narrowed := true }
def FsysPlaysUptoSaid : Prop := fsysPlaysUptoRow.holds Tryz.pinned (OpenSpec.upto fsysPlaysSpec)

/-- 'dunnagelaw08.FsysMounts', WHERE WHAT IT READS IS OF BULK AT MOST 1048576: true; the input reads as it did. -/
def fsysMountsUptoRow : OpenClaim := { program := "ytakmplpfjcddiaagreatdoor", sum := "d2f42868e5ea36f4ae0de2667382096cf30d277d2a1148a1ace2a5615c268067", func := "dunnage/dunnagelaw08.FsysMounts", spec := "fsysMounts", inPlace := ["internal/bytealg.CountString", "internal/bytealg.IndexByteString", "internal/bytealg.IndexString"], unfollowed := true, recurses := true, named := ["unicode/utf8.first", "unicode/utf8.acceptRanges", "internal/bytealg.MaxLen"], apart := false, laid := [("unicode/utf8.acceptRanges", laid_unicode_utf8_acceptRanges), ("unicode/utf8.first", laid_unicode_utf8_first)], narrowed := true }
def FsysMountsUptoSaid : Prop := fsysMountsUptoRow.holds Tryz.pinned (OpenSpec.upto fsysMountsSpec)

/-- 'dunnagelaw08.FsysCrashes', WHERE WHAT IT READS IS OF BULK AT MOST 1048576: true; the input reads as it did. -/
def fsysCrashesUptoRow : OpenClaim := { program := "ytakmplpfjcddiaagreatdoor", sum := "d2f42868e5ea36f4ae0de2667382096cf30d277d2a1148a1ace2a5615c268067", func := "dunnage/dunnagelaw08.FsysCrashes", spec := "fsysCrashes", inPlace := ["internal/bytealg.CountString", "internal/bytealg.IndexByteString", "internal/bytealg.IndexString"], unfollowed := true, recurses := true, named := ["unicode/utf8.first", "unicode/utf8.acceptRanges", "internal/bytealg.MaxLen"], apart := false, laid := [("unicode/utf8.acceptRanges", laid_unicode_utf8_acceptRanges), ("unicode/utf8.first", laid_unicode_utf8_first)], narrowed := true }
def FsysCrashesUptoSaid : Prop := fsysCrashesUptoRow.holds Tryz.pinned (OpenSpec.upto fsysCrashesSpec)

end Rows
end Go.Proofs.YtakmplpfjcddiaaGreatDoor
