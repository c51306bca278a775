/-
  DERIVED. GIVEN WITH THE SEED: THE CARDS: each row of YthejmnmkbldacaaDoorRows.lean that lists a variable, with what it lists TIED to the program's text (the seventh form; the later family's looks); each row that meets fmt, with fmt's text TOLD by the authors' own Lean function (tested against real Go, not proved from fmt's source: count such statements apart). THE CARD IS WHAT COUNTS. Prove the row's statement (the work); the ties are given (YthejmnmkbldacaaDoorTie.lean); close each card by the builder's one call (the guide's Derived/Test/ToyasCard.lean, 'card_holds'). Laid BY PROGRAM, IN A SANDBOX (cutbox-door.mjs). By AI agents, Wed Nov 11 2026. No macro, syntax, notation, axiom, sorry.
-/
import Derived.Test.YthejmnmkbldacaaDoorRows
import GoSem.ClaimSeven
namespace Go.Proofs.YthejmnmkbldacaaDoor
namespace Rows

/-- THE TIED CARD OF 'boathouselaw9.StreamGatesAreOrdered'. -/
def streamGatesAreOrderedCard : Claim7 := { stood := { row := streamGatesAreOrderedRow, standIns := [], harness := (true, "f677c3513b88a2ce475ce7e4f82771dadf7eda616d22067c15caac70c81420f7"), looks := false }, kinds := [], alts := [], laidByText := true, laidKinds := [.data, .pinned], laidTests := true, laidLooks := .later }
def StreamGatesAreOrderedCardSaid : Prop := Claim7.holds Tryd.pinned (.plain (OpenSpec.ofChange streamGatesAreOrderedSpec)) streamGatesAreOrderedCard

/-- THE TIED CARD OF 'boathouselaw10.HouseRanksAreWithinTheirError'. -/
def houseRanksAreWithinTheirErrorCard : Claim7 := { stood := { row := houseRanksAreWithinTheirErrorRow, standIns := [], harness := (true, "f677c3513b88a2ce475ce7e4f82771dadf7eda616d22067c15caac70c81420f7"), looks := false }, kinds := [], alts := [], laidByText := true, laidKinds := [.data, .data, .data, .pinned], laidTests := true, laidLooks := .later }
def HouseRanksAreWithinTheirErrorCardSaid : Prop := Claim7.holds Tryd.pinned (.plain (OpenSpec.ofChange houseRanksAreWithinTheirErrorSpec)) houseRanksAreWithinTheirErrorCard

/-- THE TIED CARD OF 'boathouselaw10.HouseUniquesMatchSpec'. -/
def houseUniquesMatchSpecCard : Claim7 := { stood := { row := houseUniquesMatchSpecRow, standIns := [], harness := (true, "f677c3513b88a2ce475ce7e4f82771dadf7eda616d22067c15caac70c81420f7"), looks := false }, kinds := [], alts := [], laidByText := true, laidKinds := [.data, .pinned], laidTests := true, laidLooks := .later }
def HouseUniquesMatchSpecCardSaid : Prop := Claim7.holds Tryd.pinned (.plain (OpenSpec.ofChange houseUniquesMatchSpecSpec)) houseUniquesMatchSpecCard

/-- THE TIED CARD OF 'boathouselaw10.HouseHeavyIsWithinItsError'. -/
def houseHeavyIsWithinItsErrorCard : Claim7 := { stood := { row := houseHeavyIsWithinItsErrorRow, standIns := [], harness := (true, "f677c3513b88a2ce475ce7e4f82771dadf7eda616d22067c15caac70c81420f7"), looks := false }, kinds := [], alts := [], laidByText := true, laidKinds := [.data, .pinned], laidTests := true, laidLooks := .later }
def HouseHeavyIsWithinItsErrorCardSaid : Prop := Claim7.holds Tryd.pinned (.plain (OpenSpec.ofChange houseHeavyIsWithinItsErrorSpec)) houseHeavyIsWithinItsErrorCard

/-- THE SECOND FORM's CARD OF 'boathouselaw9.StreamGatesAreOrdered'. -/
def streamGatesAreOrderedUptoCard : Claim7 := { stood := { row := streamGatesAreOrderedUptoRow, standIns := [], harness := (true, "f677c3513b88a2ce475ce7e4f82771dadf7eda616d22067c15caac70c81420f7"), looks := false }, kinds := [], alts := [], laidByText := true, laidKinds := [.data, .pinned], laidTests := true, laidLooks := .later }
def StreamGatesAreOrderedUptoCardSaid : Prop := Claim7.holds Tryd.pinned (.plain (OpenSpec.upto streamGatesAreOrderedSpec)) streamGatesAreOrderedUptoCard

/-- THE SECOND FORM's CARD OF 'boathouselaw10.HouseRanksAreWithinTheirError'. -/
def houseRanksAreWithinTheirErrorUptoCard : Claim7 := { stood := { row := houseRanksAreWithinTheirErrorUptoRow, standIns := [], harness := (true, "f677c3513b88a2ce475ce7e4f82771dadf7eda616d22067c15caac70c81420f7"), looks := false }, kinds := [], alts := [], laidByText := true, laidKinds := [.data, .data, .data, .pinned], laidTests := true, laidLooks := .later }
def HouseRanksAreWithinTheirErrorUptoCardSaid : Prop := Claim7.holds Tryd.pinned (.plain (OpenSpec.upto houseRanksAreWithinTheirErrorSpec)) houseRanksAreWithinTheirErrorUptoCard

/-- THE SECOND FORM's CARD OF 'boathouselaw10.HouseUniquesMatchSpec'. -/
def houseUniquesMatchSpecUptoCard : Claim7 := { stood := { row := houseUniquesMatchSpecUptoRow, standIns := [], harness := (true, "f677c3513b88a2ce475ce7e4f82771dadf7eda616d22067c15caac70c81420f7"), looks := false }, kinds := [], alts := [], laidByText := true, laidKinds := [.data, .pinned], laidTests := true, laidLooks := .later }
def HouseUniquesMatchSpecUptoCardSaid : Prop := Claim7.holds Tryd.pinned (.plain (OpenSpec.upto houseUniquesMatchSpecSpec)) houseUniquesMatchSpecUptoCard

/-- THE SECOND FORM's CARD OF 'boathouselaw10.HouseHeavyIsWithinItsError'. -/
def houseHeavyIsWithinItsErrorUptoCard : Claim7 := { stood := { row := houseHeavyIsWithinItsErrorUptoRow, standIns := [], harness := (true, "f677c3513b88a2ce475ce7e4f82771dadf7eda616d22067c15caac70c81420f7"), looks := false }, kinds := [], alts := [], laidByText := true, laidKinds := [.data, .pinned], laidTests := true, laidLooks := .later }
def HouseHeavyIsWithinItsErrorUptoCardSaid : Prop := Claim7.holds Tryd.pinned (.plain (OpenSpec.upto houseHeavyIsWithinItsErrorSpec)) houseHeavyIsWithinItsErrorUptoCard
end Rows
end Go.Proofs.YthejmnmkbldacaaDoor
