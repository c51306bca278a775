/-
  NARROWER THAN 'FOR EVERY INPUT', by the rows' own cells (each row's printed sentence says how): StreamAppliesMatchSpec: loops, laid · StreamGatesMatchSpec: loops, laid · StreamDeltasMatchSpec: loops, laid · StreamWindowsMatchSpec: loops, laid · StreamKeysMatchSpec: loops, laid · StreamUpsertsLeadBack: loops, laid.
  DERIVED. THE GIVEN ROWS OF THIS SEAT. 6 by the template 'for every input the law returns true; each argument reads behind the call as it read before'; 0 by the template 'total and deterministic' (their statements: YthejmnmkbldacaaGreatDoorTotals.lean).
  GIVEN WITH THE SEED: the statements are not yours to turn. If you find one false, say at which input.
  Laid BY PROGRAM, IN A SANDBOX (cutbox-rows.mjs): the forced cells as the released guide's own fill.sh prints them over the translation edf34f070f1239c7… (all of the seat's roots in one cut). By AI agents, Wed Nov 11 2026. No macro, syntax, notation, axiom, sorry.
-/
import Derived.Test.YthejmnmkbldacaaGreatDoorChecked
import GoSem.PinnedTables
import GoSem.Claim
import GoSem.ClaimJoined
import GoSem.ClaimMapViews
import Derived.JoinedTies
import Derived.KernelRfl
namespace Go.Proofs.YthejmnmkbldacaaGreatDoor
/- THE CELL 'sum', in the pinned program and in every row, IS THE sha256 OF THE DUMP (.gsa) THAT YthejmnmkbldacaaGreatDoorProg.lean LOADS. Nothing in Lean hashes anything: it is a label: what it is worth is what the hold of that sum in a sandbox is worth. -/
noncomputable def Tryz.pinned : Pinned := { name := "ythejmnmkbldacaagreatdoor", sum := "edf34f070f1239c7bbff53f0f30bcc0bcff5c217fdf16579067ed1fb9a767ade", checked := Tryz.checked }
namespace Rows
def none {H : Type} : Left H := { results := [], args := [] }

/- WHAT THE LISTED PACKAGE-LEVEL VARIABLES READ AS WHEN THE CALL BEGINS. Each datum BY PROGRAM (the guide's laid-datum.mjs) off the statement by which the dump's own 'gosem.cut.vars' lays the variable. In a bare row this is a premise. The card (YthejmnmkbldacaaGreatDoorCards.lean) ties it to the program's text. -/
def laid_unicode_utf8_acceptRanges {H : Type} : DataW H := .agg [.agg [.lit (.int .u8 128), .lit (.int .u8 191)], .agg [.lit (.int .u8 160), .lit (.int .u8 191)], .agg [.lit (.int .u8 128), .lit (.int .u8 159)], .agg [.lit (.int .u8 144), .lit (.int .u8 191)], .agg [.lit (.int .u8 128), .lit (.int .u8 143)], .agg [.lit (.int .u8 0), .lit (.int .u8 0)], .agg [.lit (.int .u8 0), .lit (.int .u8 0)], .agg [.lit (.int .u8 0), .lit (.int .u8 0)], .agg [.lit (.int .u8 0), .lit (.int .u8 0)], .agg [.lit (.int .u8 0), .lit (.int .u8 0)], .agg [.lit (.int .u8 0), .lit (.int .u8 0)], .agg [.lit (.int .u8 0), .lit (.int .u8 0)], .agg [.lit (.int .u8 0), .lit (.int .u8 0)], .agg [.lit (.int .u8 0), .lit (.int .u8 0)], .agg [.lit (.int .u8 0), .lit (.int .u8 0)], .agg [.lit (.int .u8 0), .lit (.int .u8 0)]]
/-- One of Go's own tables, pinned by name: the form's constant. -/
def laid_unicode_utf8_first : DataW Unit := Go.Pinned.utf8First

/-- 'boathouselaw9.StreamAppliesMatchSpec': WHATEVER THE INPUT: true; the input reads as it did. -/
def streamAppliesMatchSpecSpec : ChangeSpec := { name := "streamAppliesMatchSpec", fn := fun _ => fun
  | [d1, d2, d3] => { results := [.lit (.bool true)], args := [d1, d2, d3] }
  | _ => none }
def streamAppliesMatchSpecRow : OpenClaim := { program := "ythejmnmkbldacaagreatdoor", sum := "edf34f070f1239c7bbff53f0f30bcc0bcff5c217fdf16579067ed1fb9a767ade", func := "boathouse/boathouselaw9.StreamAppliesMatchSpec", spec := "streamAppliesMatchSpec", inPlace := ["math/bits.Add64", "math/bits.Sub64"], unfollowed := true, recurses := true, named := ["unicode/utf8.first", "unicode/utf8.acceptRanges"], loops := true, apart := false, laid := [("unicode/utf8.acceptRanges", laid_unicode_utf8_acceptRanges), ("unicode/utf8.first", laid_unicode_utf8_first)] }
def StreamAppliesMatchSpecSaid : Prop := streamAppliesMatchSpecRow.holds Tryz.pinned (OpenSpec.ofChange streamAppliesMatchSpecSpec)

/-- ITS FALSE NEIGHBOUR: 'it returns false'. Refute it at one input. -/
def streamAppliesMatchSpecWrong : ChangeSpec := { name := "streamAppliesMatchSpec", fn := fun _ => fun
  | [d1, d2, d3] => { results := [.lit (.bool false)], args := [d1, d2, d3] }
  | _ => none }
def StreamAppliesMatchSpecWrongFalsely : Prop := streamAppliesMatchSpecRow.holds Tryz.pinned (OpenSpec.ofChange streamAppliesMatchSpecWrong)

/-- 'boathouselaw9.StreamGatesMatchSpec': WHATEVER THE INPUT: true; the input reads as it did. -/
def streamGatesMatchSpecSpec : ChangeSpec := { name := "streamGatesMatchSpec", fn := fun _ => fun
  | [d1, d2, d3, d4] => { results := [.lit (.bool true)], args := [d1, d2, d3, d4] }
  | _ => none }
def streamGatesMatchSpecRow : OpenClaim := { program := "ythejmnmkbldacaagreatdoor", sum := "edf34f070f1239c7bbff53f0f30bcc0bcff5c217fdf16579067ed1fb9a767ade", func := "boathouse/boathouselaw9.StreamGatesMatchSpec", spec := "streamGatesMatchSpec", inPlace := ["math/bits.Add64", "math/bits.Sub64"], unfollowed := true, recurses := true, named := ["unicode/utf8.first", "unicode/utf8.acceptRanges"], loops := true, apart := false, laid := [("unicode/utf8.acceptRanges", laid_unicode_utf8_acceptRanges), ("unicode/utf8.first", laid_unicode_utf8_first)] }
def StreamGatesMatchSpecSaid : Prop := streamGatesMatchSpecRow.holds Tryz.pinned (OpenSpec.ofChange streamGatesMatchSpecSpec)

/-- ITS FALSE NEIGHBOUR: 'it returns false'. Refute it at one input. -/
def streamGatesMatchSpecWrong : ChangeSpec := { name := "streamGatesMatchSpec", fn := fun _ => fun
  | [d1, d2, d3, d4] => { results := [.lit (.bool false)], args := [d1, d2, d3, d4] }
  | _ => none }
def StreamGatesMatchSpecWrongFalsely : Prop := streamGatesMatchSpecRow.holds Tryz.pinned (OpenSpec.ofChange streamGatesMatchSpecWrong)

/-- 'boathouselaw9.StreamDeltasMatchSpec': WHATEVER THE INPUT: true; the input reads as it did. -/
def streamDeltasMatchSpecSpec : ChangeSpec := { name := "streamDeltasMatchSpec", fn := fun _ => fun
  | [d1, d2, d3] => { results := [.lit (.bool true)], args := [d1, d2, d3] }
  | _ => none }
def streamDeltasMatchSpecRow : OpenClaim := { program := "ythejmnmkbldacaagreatdoor", sum := "edf34f070f1239c7bbff53f0f30bcc0bcff5c217fdf16579067ed1fb9a767ade", func := "boathouse/boathouselaw9.StreamDeltasMatchSpec", spec := "streamDeltasMatchSpec", inPlace := ["math/bits.Add64", "math/bits.Sub64"], unfollowed := true, recurses := true, named := ["unicode/utf8.first", "unicode/utf8.acceptRanges"], loops := true, apart := false, laid := [("unicode/utf8.acceptRanges", laid_unicode_utf8_acceptRanges), ("unicode/utf8.first", laid_unicode_utf8_first)] }
def StreamDeltasMatchSpecSaid : Prop := streamDeltasMatchSpecRow.holds Tryz.pinned (OpenSpec.ofChange streamDeltasMatchSpecSpec)

/-- ITS FALSE NEIGHBOUR: 'it returns false'. Refute it at one input. -/
def streamDeltasMatchSpecWrong : ChangeSpec := { name := "streamDeltasMatchSpec", fn := fun _ => fun
  | [d1, d2, d3] => { results := [.lit (.bool false)], args := [d1, d2, d3] }
  | _ => none }
def StreamDeltasMatchSpecWrongFalsely : Prop := streamDeltasMatchSpecRow.holds Tryz.pinned (OpenSpec.ofChange streamDeltasMatchSpecWrong)

/-- 'boathouselaw9.StreamWindowsMatchSpec': WHATEVER THE INPUT: true; the input reads as it did. -/
def streamWindowsMatchSpecSpec : ChangeSpec := { name := "streamWindowsMatchSpec", fn := fun _ => fun
  | [d1, d2, d3, d4, d5, d6, d7, d8] => { results := [.lit (.bool true)], args := [d1, d2, d3, d4, d5, d6, d7, d8] }
  | _ => none }
def streamWindowsMatchSpecRow : OpenClaim := { program := "ythejmnmkbldacaagreatdoor", sum := "edf34f070f1239c7bbff53f0f30bcc0bcff5c217fdf16579067ed1fb9a767ade", func := "boathouse/boathouselaw9.StreamWindowsMatchSpec", spec := "streamWindowsMatchSpec", inPlace := ["math/bits.Add64", "math/bits.Sub64"], unfollowed := true, recurses := true, named := ["unicode/utf8.first", "unicode/utf8.acceptRanges"], loops := true, apart := false, laid := [("unicode/utf8.acceptRanges", laid_unicode_utf8_acceptRanges), ("unicode/utf8.first", laid_unicode_utf8_first)] }
def StreamWindowsMatchSpecSaid : Prop := streamWindowsMatchSpecRow.holds Tryz.pinned (OpenSpec.ofChange streamWindowsMatchSpecSpec)

/-- ITS FALSE NEIGHBOUR: 'it returns false'. Refute it at one input. -/
def streamWindowsMatchSpecWrong : ChangeSpec := { name := "streamWindowsMatchSpec", fn := fun _ => fun
  | [d1, d2, d3, d4, d5, d6, d7, d8] => { results := [.lit (.bool false)], args := [d1, d2, d3, d4, d5, d6, d7, d8] }
  | _ => none }
def StreamWindowsMatchSpecWrongFalsely : Prop := streamWindowsMatchSpecRow.holds Tryz.pinned (OpenSpec.ofChange streamWindowsMatchSpecWrong)

/-- 'boathouselaw9.StreamKeysMatchSpec': WHATEVER THE INPUT: true; the input reads as it did. -/
def streamKeysMatchSpecSpec : ChangeSpec := { name := "streamKeysMatchSpec", fn := fun _ => fun
  | [d1, d2, d3] => { results := [.lit (.bool true)], args := [d1, d2, d3] }
  | _ => none }
def streamKeysMatchSpecRow : OpenClaim := { program := "ythejmnmkbldacaagreatdoor", sum := "edf34f070f1239c7bbff53f0f30bcc0bcff5c217fdf16579067ed1fb9a767ade", func := "boathouse/boathouselaw9.StreamKeysMatchSpec", spec := "streamKeysMatchSpec", inPlace := ["math/bits.Add64", "math/bits.Sub64"], unfollowed := true, recurses := true, named := ["unicode/utf8.first", "unicode/utf8.acceptRanges"], loops := true, apart := false, laid := [("unicode/utf8.acceptRanges", laid_unicode_utf8_acceptRanges), ("unicode/utf8.first", laid_unicode_utf8_first)] }
def StreamKeysMatchSpecSaid : Prop := streamKeysMatchSpecRow.holds Tryz.pinned (OpenSpec.ofChange streamKeysMatchSpecSpec)

/-- ITS FALSE NEIGHBOUR: 'it returns false'. Refute it at one input. -/
def streamKeysMatchSpecWrong : ChangeSpec := { name := "streamKeysMatchSpec", fn := fun _ => fun
  | [d1, d2, d3] => { results := [.lit (.bool false)], args := [d1, d2, d3] }
  | _ => none }
def StreamKeysMatchSpecWrongFalsely : Prop := streamKeysMatchSpecRow.holds Tryz.pinned (OpenSpec.ofChange streamKeysMatchSpecWrong)

/-- 'boathouselaw9.StreamUpsertsLeadBack': WHATEVER THE INPUT: true; the input reads as it did. -/
def streamUpsertsLeadBackSpec : ChangeSpec := { name := "streamUpsertsLeadBack", fn := fun _ => fun
  | [d1, d2] => { results := [.lit (.bool true)], args := [d1, d2] }
  | _ => none }
def streamUpsertsLeadBackRow : OpenClaim := { program := "ythejmnmkbldacaagreatdoor", sum := "edf34f070f1239c7bbff53f0f30bcc0bcff5c217fdf16579067ed1fb9a767ade", func := "boathouse/boathouselaw9.StreamUpsertsLeadBack", spec := "streamUpsertsLeadBack", inPlace := ["math/bits.Add64", "math/bits.Sub64"], unfollowed := true, recurses := true, named := ["unicode/utf8.first", "unicode/utf8.acceptRanges"], loops := true, apart := false, laid := [("unicode/utf8.acceptRanges", laid_unicode_utf8_acceptRanges), ("unicode/utf8.first", laid_unicode_utf8_first)] }
def StreamUpsertsLeadBackSaid : Prop := streamUpsertsLeadBackRow.holds Tryz.pinned (OpenSpec.ofChange streamUpsertsLeadBackSpec)

/-- ITS FALSE NEIGHBOUR: 'it returns false'. Refute it at one input. -/
def streamUpsertsLeadBackWrong : ChangeSpec := { name := "streamUpsertsLeadBack", fn := fun _ => fun
  | [d1, d2] => { results := [.lit (.bool false)], args := [d1, d2] }
  | _ => none }
def StreamUpsertsLeadBackWrongFalsely : Prop := streamUpsertsLeadBackRow.holds Tryz.pinned (OpenSpec.ofChange streamUpsertsLeadBackWrong)

/- THE SECOND FORM. 'bulk': how many values and letters a reading holds, each counted each time it is reached (what is shared counts as often as it is met; a slice's spare places count too). A statement '..UptoSaid' is the law's where the arguments, and the package variables that the reading takes, are together of bulk at most 1048576: NARROWER than '..Said'. Prove '..Said' where nothing that the law and all that it calls make is longer than what came in: it says more and counts as full. Else prove '..UptoSaid'. A law counts once. -/
mutual
def uptoBulk {H : Type} : DataW H → Nat
  | .lit (.string bytes) => bytes.length + 1
  | .lit _ => 1
  | .nil => 1
  | .ptr d => uptoBulk d + 1
  | .slice elems spare => uptoBulkAll elems + uptoBulkAll spare + 1
  | .agg parts => uptoBulkAll parts + 1
  | .iface _ d => uptoBulk d + 1
  | .map entries => uptoBulkEntries entries + 1
  | .held _ => 1
def uptoBulkAll {H : Type} : List (DataW H) → Nat
  | [] => 0
  | d :: r => uptoBulk d + uptoBulkAll r
def uptoBulkEntries {H : Type} : List (Lit × DataW H) → Nat
  | [] => 0
  | x :: r => uptoBulkEntry x + uptoBulkEntries r
def uptoBulkEntry {H : Type} : Lit × DataW H → Nat
  | (.string bytes, d) => bytes.length + uptoBulk d + 1
  | (_, d) => uptoBulk d + 1
 end
def uptoSmall : (H : Type) → List (DataW H) → Bool := fun _ ds => decide (uptoBulkAll ds ≤ 1048576)
def OpenSpec.upto (s : _root_.Go.ChangeSpec) : _root_.Go.OpenSpec := { _root_.Go.OpenSpec.ofChange s with cond := some uptoSmall }

/-- 'boathouselaw9.StreamAppliesMatchSpec', WHERE WHAT IT READS IS OF BULK AT MOST 1048576: true; the input reads as it did. -/
def streamAppliesMatchSpecUptoRow : OpenClaim := { program := "ythejmnmkbldacaagreatdoor", sum := "edf34f070f1239c7bbff53f0f30bcc0bcff5c217fdf16579067ed1fb9a767ade", func := "boathouse/boathouselaw9.StreamAppliesMatchSpec", spec := "streamAppliesMatchSpec", inPlace := ["math/bits.Add64", "math/bits.Sub64"], unfollowed := true, recurses := true, named := ["unicode/utf8.first", "unicode/utf8.acceptRanges"], loops := true, apart := false, laid := [("unicode/utf8.acceptRanges", laid_unicode_utf8_acceptRanges), ("unicode/utf8.first", laid_unicode_utf8_first)], narrowed := true }
def StreamAppliesMatchSpecUptoSaid : Prop := streamAppliesMatchSpecUptoRow.holds Tryz.pinned (OpenSpec.upto streamAppliesMatchSpecSpec)

/-- 'boathouselaw9.StreamGatesMatchSpec', WHERE WHAT IT READS IS OF BULK AT MOST 1048576: true; the input reads as it did. -/
def streamGatesMatchSpecUptoRow : OpenClaim := { program := "ythejmnmkbldacaagreatdoor", sum := "edf34f070f1239c7bbff53f0f30bcc0bcff5c217fdf16579067ed1fb9a767ade", func := "boathouse/boathouselaw9.StreamGatesMatchSpec", spec := "streamGatesMatchSpec", inPlace := ["math/bits.Add64", "math/bits.Sub64"], unfollowed := true, recurses := true, named := ["unicode/utf8.first", "unicode/utf8.acceptRanges"], loops := true, apart := false, laid := [("unicode/utf8.acceptRanges", laid_unicode_utf8_acceptRanges), ("unicode/utf8.first", laid_unicode_utf8_first)], narrowed := true }
def StreamGatesMatchSpecUptoSaid : Prop := streamGatesMatchSpecUptoRow.holds Tryz.pinned (OpenSpec.upto streamGatesMatchSpecSpec)

/-- 'boathouselaw9.StreamDeltasMatchSpec', WHERE WHAT IT READS IS OF BULK AT MOST 1048576: true; the input reads as it did. -/
def streamDeltasMatchSpecUptoRow : OpenClaim := { program := "ythejmnmkbldacaagreatdoor", sum := "edf34f070f1239c7bbff53f0f30bcc0bcff5c217fdf16579067ed1fb9a767ade", func := "boathouse/boathouselaw9.StreamDeltasMatchSpec", spec := "streamDeltasMatchSpec", inPlace := ["math/bits.Add64", "math/bits.Sub64"], unfollowed := true, recurses := true, named := ["unicode/utf8.first", "unicode/utf8.acceptRanges"], loops := true, apart := false, laid := [("unicode/utf8.acceptRanges", laid_unicode_utf8_acceptRanges), ("unicode/utf8.first", laid_unicode_utf8_first)], narrowed := true }
def StreamDeltasMatchSpecUptoSaid : Prop := streamDeltasMatchSpecUptoRow.holds Tryz.pinned (OpenSpec.upto streamDeltasMatchSpecSpec)

/-- 'boathouselaw9.StreamWindowsMatchSpec', WHERE WHAT IT READS IS OF BULK AT MOST 1048576: true; the input reads as it did. -/
def streamWindowsMatchSpecUptoRow : OpenClaim := { program := "ythejmnmkbldacaagreatdoor", sum := "edf34f070f1239c7bbff53f0f30bcc0bcff5c217fdf16579067ed1fb9a767ade", func := "boathouse/boathouselaw9.StreamWindowsMatchSpec", spec := "streamWindowsMatchSpec", inPlace := ["math/bits.Add64", "math/bits.Sub64"], unfollowed := true, recurses := true, named := ["unicode/utf8.first", "unicode/utf8.acceptRanges"], loops := true, apart := false, laid := [("unicode/utf8.acceptRanges", laid_unicode_utf8_acceptRanges), ("unicode/utf8.first", laid_unicode_utf8_first)], narrowed := true }
def StreamWindowsMatchSpecUptoSaid : Prop := streamWindowsMatchSpecUptoRow.holds Tryz.pinned (OpenSpec.upto streamWindowsMatchSpecSpec)

/-- 'boathouselaw9.StreamKeysMatchSpec', WHERE WHAT IT READS IS OF BULK AT MOST 1048576: true; the input reads as it did. -/
def streamKeysMatchSpecUptoRow : OpenClaim := { program := "ythejmnmkbldacaagreatdoor", sum := "edf34f070f1239c7bbff53f0f30bcc0bcff5c217fdf16579067ed1fb9a767ade", func := "boathouse/boathouselaw9.StreamKeysMatchSpec", spec := "streamKeysMatchSpec", inPlace := ["math/bits.Add64", "math/bits.Sub64"], unfollowed := true, recurses := true, named := ["unicode/utf8.first", "unicode/utf8.acceptRanges"], loops := true, apart := false, laid := [("unicode/utf8.acceptRanges", laid_unicode_utf8_acceptRanges), ("unicode/utf8.first", laid_unicode_utf8_first)], narrowed := true }
def StreamKeysMatchSpecUptoSaid : Prop := streamKeysMatchSpecUptoRow.holds Tryz.pinned (OpenSpec.upto streamKeysMatchSpecSpec)

/-- 'boathouselaw9.StreamUpsertsLeadBack', WHERE WHAT IT READS IS OF BULK AT MOST 1048576: true; the input reads as it did. -/
def streamUpsertsLeadBackUptoRow : OpenClaim := { program := "ythejmnmkbldacaagreatdoor", sum := "edf34f070f1239c7bbff53f0f30bcc0bcff5c217fdf16579067ed1fb9a767ade", func := "boathouse/boathouselaw9.StreamUpsertsLeadBack", spec := "streamUpsertsLeadBack", inPlace := ["math/bits.Add64", "math/bits.Sub64"], unfollowed := true, recurses := true, named := ["unicode/utf8.first", "unicode/utf8.acceptRanges"], loops := true, apart := false, laid := [("unicode/utf8.acceptRanges", laid_unicode_utf8_acceptRanges), ("unicode/utf8.first", laid_unicode_utf8_first)], narrowed := true }
def StreamUpsertsLeadBackUptoSaid : Prop := streamUpsertsLeadBackUptoRow.holds Tryz.pinned (OpenSpec.upto streamUpsertsLeadBackSpec)

end Rows
end Go.Proofs.YthejmnmkbldacaaGreatDoor
