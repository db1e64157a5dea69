/-
  DERIVED. GIVEN WITH THE SEED: THE CARDS: each row of YtijedffphgckmaaGreatDoorRows.lean that lists a variable, with what it lists TIED to the program's text (the seventh form; the later family's looks); each row that meets fmt, with fmt's text TOLD by the authors' own Lean function (tested against real Go, not proved from fmt's source: count such statements apart). THE CARD IS WHAT COUNTS. Prove the row's statement (the work); the ties are given (YtijedffphgckmaaGreatDoorTie.lean); close each card by the builder's one call (the guide's Derived/Test/ToyasCard.lean, 'card_holds'). Laid BY PROGRAM, IN A SANDBOX (cutbox-door.mjs). By AI agents, Wed Nov 11 2026. No macro, syntax, notation, axiom, sorry.
-/
import Derived.Test.YtijedffphgckmaaGreatDoorRows
import GoSem.ClaimSeven
namespace Go.Proofs.YtijedffphgckmaaGreatDoor
namespace Rows

/-- THE TIED CARD OF 'nadirlaw13.OrderMatchesReference'. -/
def orderMatchesReferenceCard : Claim7 := { stood := { row := orderMatchesReferenceRow, standIns := [], harness := (true, "18de58711402dfe56bf3aa4605f9f51f3113a8593fda71afa1ee229d558c2b9d"), looks := true }, kinds := [], alts := [], laidByText := true, laidKinds := [.data, .data, .data, .data, .sentinel, .sentinel, .pinned], laidTests := true, laidLooks := .later }
def OrderMatchesReferenceCardSaid : Prop := Claim7.holds Tryz.pinned (.plain (OpenSpec.ofChange orderMatchesReferenceSpec)) orderMatchesReferenceCard

/-- THE TIED CARD OF 'nadirlaw13.OrderWordsMatchReference'. -/
def orderWordsMatchReferenceCard : Claim7 := { stood := { row := orderWordsMatchReferenceRow, standIns := [], harness := (true, "18de58711402dfe56bf3aa4605f9f51f3113a8593fda71afa1ee229d558c2b9d"), looks := true }, kinds := [], alts := [], laidByText := true, laidKinds := [.data, .data, .data, .data, .sentinel, .sentinel, .pinned], laidTests := true, laidLooks := .later }
def OrderWordsMatchReferenceCardSaid : Prop := Claim7.holds Tryz.pinned (.plain (OpenSpec.ofChange orderWordsMatchReferenceSpec)) orderWordsMatchReferenceCard

/-- THE TIED CARD OF 'nadirlaw13.OrderThereAndBack'. -/
def orderThereAndBackCard : Claim7 := { stood := { row := orderThereAndBackRow, standIns := [], harness := (true, "18de58711402dfe56bf3aa4605f9f51f3113a8593fda71afa1ee229d558c2b9d"), looks := true }, kinds := [], alts := [], laidByText := true, laidKinds := [.data, .data, .data, .data, .sentinel, .sentinel, .pinned], laidTests := true, laidLooks := .later }
def OrderThereAndBackCardSaid : Prop := Claim7.holds Tryz.pinned (.plain (OpenSpec.ofChange orderThereAndBackSpec)) orderThereAndBackCard

/-- THE TIED CARD OF 'nadirlaw13.OrderFirstWrong'. -/
def orderFirstWrongCard : Claim7 := { stood := { row := orderFirstWrongRow, standIns := [], harness := (true, "18de58711402dfe56bf3aa4605f9f51f3113a8593fda71afa1ee229d558c2b9d"), looks := true }, kinds := [], alts := [], laidByText := true, laidKinds := [.data, .data, .data, .data, .sentinel, .sentinel, .pinned], laidTests := true, laidLooks := .later }
def OrderFirstWrongCardSaid : Prop := Claim7.holds Tryz.pinned (.plain (OpenSpec.ofChange orderFirstWrongSpec)) orderFirstWrongCard

/-- THE TIED CARD OF 'nadirlaw13.OrderParts'. -/
def orderPartsCard : Claim7 := { stood := { row := orderPartsRow, standIns := [], harness := (true, "18de58711402dfe56bf3aa4605f9f51f3113a8593fda71afa1ee229d558c2b9d"), looks := true }, kinds := [], alts := [], laidByText := true, laidKinds := [.data, .data, .data, .data, .sentinel, .sentinel, .pinned], laidTests := true, laidLooks := .later }
def OrderPartsCardSaid : Prop := Claim7.holds Tryz.pinned (.plain (OpenSpec.ofChange orderPartsSpec)) orderPartsCard

/-- THE TIED CARD OF 'nadirlaw13.OrderShots'. -/
def orderShotsCard : Claim7 := { stood := { row := orderShotsRow, standIns := [], harness := (true, "18de58711402dfe56bf3aa4605f9f51f3113a8593fda71afa1ee229d558c2b9d"), looks := true }, kinds := [], alts := [], laidByText := true, laidKinds := [.data, .data, .data, .data, .sentinel, .sentinel, .pinned], laidTests := true, laidLooks := .later }
def OrderShotsCardSaid : Prop := Claim7.holds Tryz.pinned (.plain (OpenSpec.ofChange orderShotsSpec)) orderShotsCard

/-- THE TIED CARD OF 'nadirlaw13.OrderRoom'. -/
def orderRoomCard : Claim7 := { stood := { row := orderRoomRow, standIns := [], harness := (true, "18de58711402dfe56bf3aa4605f9f51f3113a8593fda71afa1ee229d558c2b9d"), looks := true }, kinds := [], alts := [], laidByText := true, laidKinds := [.data, .data, .data, .data, .sentinel, .sentinel, .pinned], laidTests := true, laidLooks := .later }
def OrderRoomCardSaid : Prop := Claim7.holds Tryz.pinned (.plain (OpenSpec.ofChange orderRoomSpec)) orderRoomCard

/-- THE SECOND FORM's CARD OF 'nadirlaw13.OrderMatchesReference'. -/
def orderMatchesReferenceUptoCard : Claim7 := { stood := { row := orderMatchesReferenceUptoRow, standIns := [], harness := (true, "18de58711402dfe56bf3aa4605f9f51f3113a8593fda71afa1ee229d558c2b9d"), looks := true }, kinds := [], alts := [], laidByText := true, laidKinds := [.data, .data, .data, .data, .sentinel, .sentinel, .pinned], laidTests := true, laidLooks := .later }
def OrderMatchesReferenceUptoCardSaid : Prop := Claim7.holds Tryz.pinned (.plain (OpenSpec.upto orderMatchesReferenceSpec)) orderMatchesReferenceUptoCard

/-- THE SECOND FORM's CARD OF 'nadirlaw13.OrderWordsMatchReference'. -/
def orderWordsMatchReferenceUptoCard : Claim7 := { stood := { row := orderWordsMatchReferenceUptoRow, standIns := [], harness := (true, "18de58711402dfe56bf3aa4605f9f51f3113a8593fda71afa1ee229d558c2b9d"), looks := true }, kinds := [], alts := [], laidByText := true, laidKinds := [.data, .data, .data, .data, .sentinel, .sentinel, .pinned], laidTests := true, laidLooks := .later }
def OrderWordsMatchReferenceUptoCardSaid : Prop := Claim7.holds Tryz.pinned (.plain (OpenSpec.upto orderWordsMatchReferenceSpec)) orderWordsMatchReferenceUptoCard

/-- THE SECOND FORM's CARD OF 'nadirlaw13.OrderThereAndBack'. -/
def orderThereAndBackUptoCard : Claim7 := { stood := { row := orderThereAndBackUptoRow, standIns := [], harness := (true, "18de58711402dfe56bf3aa4605f9f51f3113a8593fda71afa1ee229d558c2b9d"), looks := true }, kinds := [], alts := [], laidByText := true, laidKinds := [.data, .data, .data, .data, .sentinel, .sentinel, .pinned], laidTests := true, laidLooks := .later }
def OrderThereAndBackUptoCardSaid : Prop := Claim7.holds Tryz.pinned (.plain (OpenSpec.upto orderThereAndBackSpec)) orderThereAndBackUptoCard

/-- THE SECOND FORM's CARD OF 'nadirlaw13.OrderFirstWrong'. -/
def orderFirstWrongUptoCard : Claim7 := { stood := { row := orderFirstWrongUptoRow, standIns := [], harness := (true, "18de58711402dfe56bf3aa4605f9f51f3113a8593fda71afa1ee229d558c2b9d"), looks := true }, kinds := [], alts := [], laidByText := true, laidKinds := [.data, .data, .data, .data, .sentinel, .sentinel, .pinned], laidTests := true, laidLooks := .later }
def OrderFirstWrongUptoCardSaid : Prop := Claim7.holds Tryz.pinned (.plain (OpenSpec.upto orderFirstWrongSpec)) orderFirstWrongUptoCard

/-- THE SECOND FORM's CARD OF 'nadirlaw13.OrderParts'. -/
def orderPartsUptoCard : Claim7 := { stood := { row := orderPartsUptoRow, standIns := [], harness := (true, "18de58711402dfe56bf3aa4605f9f51f3113a8593fda71afa1ee229d558c2b9d"), looks := true }, kinds := [], alts := [], laidByText := true, laidKinds := [.data, .data, .data, .data, .sentinel, .sentinel, .pinned], laidTests := true, laidLooks := .later }
def OrderPartsUptoCardSaid : Prop := Claim7.holds Tryz.pinned (.plain (OpenSpec.upto orderPartsSpec)) orderPartsUptoCard

/-- THE SECOND FORM's CARD OF 'nadirlaw13.OrderShots'. -/
def orderShotsUptoCard : Claim7 := { stood := { row := orderShotsUptoRow, standIns := [], harness := (true, "18de58711402dfe56bf3aa4605f9f51f3113a8593fda71afa1ee229d558c2b9d"), looks := true }, kinds := [], alts := [], laidByText := true, laidKinds := [.data, .data, .data, .data, .sentinel, .sentinel, .pinned], laidTests := true, laidLooks := .later }
def OrderShotsUptoCardSaid : Prop := Claim7.holds Tryz.pinned (.plain (OpenSpec.upto orderShotsSpec)) orderShotsUptoCard

/-- THE SECOND FORM's CARD OF 'nadirlaw13.OrderRoom'. -/
def orderRoomUptoCard : Claim7 := { stood := { row := orderRoomUptoRow, standIns := [], harness := (true, "18de58711402dfe56bf3aa4605f9f51f3113a8593fda71afa1ee229d558c2b9d"), looks := true }, kinds := [], alts := [], laidByText := true, laidKinds := [.data, .data, .data, .data, .sentinel, .sentinel, .pinned], laidTests := true, laidLooks := .later }
def OrderRoomUptoCardSaid : Prop := Claim7.holds Tryz.pinned (.plain (OpenSpec.upto orderRoomSpec)) orderRoomUptoCard
end Rows
end Go.Proofs.YtijedffphgckmaaGreatDoor
