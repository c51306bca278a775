/-
  DERIVED. GIVEN WITH THE SEED: THE CARDS: each row of YthejmnmkbldacaaGreatDoorRows.lean that lists a variable, with what it lists TIED to the program's text (the seventh form; the later family's looks); each row that meets fmt, with fmt's text TOLD by the authors' own Lean function (tested against real Go, not proved from fmt's source: count such statements apart). THE CARD IS WHAT COUNTS. Prove the row's statement (the work); the ties are given (YthejmnmkbldacaaGreatDoorTie.lean); close each card by the builder's one call (the guide's Derived/Test/ToyasCard.lean, 'card_holds'). Laid BY PROGRAM, IN A SANDBOX (cutbox-door.mjs). By AI agents, Wed Nov 11 2026. No macro, syntax, notation, axiom, sorry.
-/
import Derived.Test.YthejmnmkbldacaaGreatDoorRows
import GoSem.ClaimSeven
namespace Go.Proofs.YthejmnmkbldacaaGreatDoor
namespace Rows

/-- THE TIED CARD OF 'boathouselaw9.StreamAppliesMatchSpec'. -/
def streamAppliesMatchSpecCard : Claim7 := { stood := { row := streamAppliesMatchSpecRow, standIns := [], harness := (true, "6cfef63d0cdc0b8da4cf7166daef21ecd48013d5d0be79e06398682bc54dea57"), looks := false }, kinds := [], alts := [], laidByText := true, laidKinds := [.data, .pinned], laidTests := true, laidLooks := .later }
def StreamAppliesMatchSpecCardSaid : Prop := Claim7.holds Tryz.pinned (.plain (OpenSpec.ofChange streamAppliesMatchSpecSpec)) streamAppliesMatchSpecCard

/-- THE TIED CARD OF 'boathouselaw9.StreamGatesMatchSpec'. -/
def streamGatesMatchSpecCard : Claim7 := { stood := { row := streamGatesMatchSpecRow, standIns := [], harness := (true, "6cfef63d0cdc0b8da4cf7166daef21ecd48013d5d0be79e06398682bc54dea57"), looks := false }, kinds := [], alts := [], laidByText := true, laidKinds := [.data, .pinned], laidTests := true, laidLooks := .later }
def StreamGatesMatchSpecCardSaid : Prop := Claim7.holds Tryz.pinned (.plain (OpenSpec.ofChange streamGatesMatchSpecSpec)) streamGatesMatchSpecCard

/-- THE TIED CARD OF 'boathouselaw9.StreamDeltasMatchSpec'. -/
def streamDeltasMatchSpecCard : Claim7 := { stood := { row := streamDeltasMatchSpecRow, standIns := [], harness := (true, "6cfef63d0cdc0b8da4cf7166daef21ecd48013d5d0be79e06398682bc54dea57"), looks := false }, kinds := [], alts := [], laidByText := true, laidKinds := [.data, .pinned], laidTests := true, laidLooks := .later }
def StreamDeltasMatchSpecCardSaid : Prop := Claim7.holds Tryz.pinned (.plain (OpenSpec.ofChange streamDeltasMatchSpecSpec)) streamDeltasMatchSpecCard

/-- THE TIED CARD OF 'boathouselaw9.StreamWindowsMatchSpec'. -/
def streamWindowsMatchSpecCard : Claim7 := { stood := { row := streamWindowsMatchSpecRow, standIns := [], harness := (true, "6cfef63d0cdc0b8da4cf7166daef21ecd48013d5d0be79e06398682bc54dea57"), looks := false }, kinds := [], alts := [], laidByText := true, laidKinds := [.data, .pinned], laidTests := true, laidLooks := .later }
def StreamWindowsMatchSpecCardSaid : Prop := Claim7.holds Tryz.pinned (.plain (OpenSpec.ofChange streamWindowsMatchSpecSpec)) streamWindowsMatchSpecCard

/-- THE TIED CARD OF 'boathouselaw9.StreamKeysMatchSpec'. -/
def streamKeysMatchSpecCard : Claim7 := { stood := { row := streamKeysMatchSpecRow, standIns := [], harness := (true, "6cfef63d0cdc0b8da4cf7166daef21ecd48013d5d0be79e06398682bc54dea57"), looks := false }, kinds := [], alts := [], laidByText := true, laidKinds := [.data, .pinned], laidTests := true, laidLooks := .later }
def StreamKeysMatchSpecCardSaid : Prop := Claim7.holds Tryz.pinned (.plain (OpenSpec.ofChange streamKeysMatchSpecSpec)) streamKeysMatchSpecCard

/-- THE TIED CARD OF 'boathouselaw9.StreamUpsertsLeadBack'. -/
def streamUpsertsLeadBackCard : Claim7 := { stood := { row := streamUpsertsLeadBackRow, standIns := [], harness := (true, "6cfef63d0cdc0b8da4cf7166daef21ecd48013d5d0be79e06398682bc54dea57"), looks := false }, kinds := [], alts := [], laidByText := true, laidKinds := [.data, .pinned], laidTests := true, laidLooks := .later }
def StreamUpsertsLeadBackCardSaid : Prop := Claim7.holds Tryz.pinned (.plain (OpenSpec.ofChange streamUpsertsLeadBackSpec)) streamUpsertsLeadBackCard

/-- THE SECOND FORM's CARD OF 'boathouselaw9.StreamAppliesMatchSpec'. -/
def streamAppliesMatchSpecUptoCard : Claim7 := { stood := { row := streamAppliesMatchSpecUptoRow, standIns := [], harness := (true, "6cfef63d0cdc0b8da4cf7166daef21ecd48013d5d0be79e06398682bc54dea57"), looks := false }, kinds := [], alts := [], laidByText := true, laidKinds := [.data, .pinned], laidTests := true, laidLooks := .later }
def StreamAppliesMatchSpecUptoCardSaid : Prop := Claim7.holds Tryz.pinned (.plain (OpenSpec.upto streamAppliesMatchSpecSpec)) streamAppliesMatchSpecUptoCard

/-- THE SECOND FORM's CARD OF 'boathouselaw9.StreamGatesMatchSpec'. -/
def streamGatesMatchSpecUptoCard : Claim7 := { stood := { row := streamGatesMatchSpecUptoRow, standIns := [], harness := (true, "6cfef63d0cdc0b8da4cf7166daef21ecd48013d5d0be79e06398682bc54dea57"), looks := false }, kinds := [], alts := [], laidByText := true, laidKinds := [.data, .pinned], laidTests := true, laidLooks := .later }
def StreamGatesMatchSpecUptoCardSaid : Prop := Claim7.holds Tryz.pinned (.plain (OpenSpec.upto streamGatesMatchSpecSpec)) streamGatesMatchSpecUptoCard

/-- THE SECOND FORM's CARD OF 'boathouselaw9.StreamDeltasMatchSpec'. -/
def streamDeltasMatchSpecUptoCard : Claim7 := { stood := { row := streamDeltasMatchSpecUptoRow, standIns := [], harness := (true, "6cfef63d0cdc0b8da4cf7166daef21ecd48013d5d0be79e06398682bc54dea57"), looks := false }, kinds := [], alts := [], laidByText := true, laidKinds := [.data, .pinned], laidTests := true, laidLooks := .later }
def StreamDeltasMatchSpecUptoCardSaid : Prop := Claim7.holds Tryz.pinned (.plain (OpenSpec.upto streamDeltasMatchSpecSpec)) streamDeltasMatchSpecUptoCard

/-- THE SECOND FORM's CARD OF 'boathouselaw9.StreamWindowsMatchSpec'. -/
def streamWindowsMatchSpecUptoCard : Claim7 := { stood := { row := streamWindowsMatchSpecUptoRow, standIns := [], harness := (true, "6cfef63d0cdc0b8da4cf7166daef21ecd48013d5d0be79e06398682bc54dea57"), looks := false }, kinds := [], alts := [], laidByText := true, laidKinds := [.data, .pinned], laidTests := true, laidLooks := .later }
def StreamWindowsMatchSpecUptoCardSaid : Prop := Claim7.holds Tryz.pinned (.plain (OpenSpec.upto streamWindowsMatchSpecSpec)) streamWindowsMatchSpecUptoCard

/-- THE SECOND FORM's CARD OF 'boathouselaw9.StreamKeysMatchSpec'. -/
def streamKeysMatchSpecUptoCard : Claim7 := { stood := { row := streamKeysMatchSpecUptoRow, standIns := [], harness := (true, "6cfef63d0cdc0b8da4cf7166daef21ecd48013d5d0be79e06398682bc54dea57"), looks := false }, kinds := [], alts := [], laidByText := true, laidKinds := [.data, .pinned], laidTests := true, laidLooks := .later }
def StreamKeysMatchSpecUptoCardSaid : Prop := Claim7.holds Tryz.pinned (.plain (OpenSpec.upto streamKeysMatchSpecSpec)) streamKeysMatchSpecUptoCard

/-- THE SECOND FORM's CARD OF 'boathouselaw9.StreamUpsertsLeadBack'. -/
def streamUpsertsLeadBackUptoCard : Claim7 := { stood := { row := streamUpsertsLeadBackUptoRow, standIns := [], harness := (true, "6cfef63d0cdc0b8da4cf7166daef21ecd48013d5d0be79e06398682bc54dea57"), looks := false }, kinds := [], alts := [], laidByText := true, laidKinds := [.data, .pinned], laidTests := true, laidLooks := .later }
def StreamUpsertsLeadBackUptoCardSaid : Prop := Claim7.holds Tryz.pinned (.plain (OpenSpec.upto streamUpsertsLeadBackSpec)) streamUpsertsLeadBackUptoCard
end Rows
end Go.Proofs.YthejmnmkbldacaaGreatDoor
