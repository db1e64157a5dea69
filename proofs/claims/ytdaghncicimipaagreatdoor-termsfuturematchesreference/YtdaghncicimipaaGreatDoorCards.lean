/-
  DERIVED. GIVEN WITH THE SEED: THE CARDS: each row of YtdaghncicimipaaGreatDoorRows.lean that lists a variable, with what it lists TIED to the program's text (the seventh form; the later family's looks); each row that meets fmt, with fmt's text TOLD by the authors' own Lean function (tested against real Go, not proved from fmt's source: count such statements apart). THE CARD IS WHAT COUNTS. Prove the row's statement (the work); the ties are given (YtdaghncicimipaaGreatDoorTie.lean); close each card by the builder's one call (the guide's Derived/Test/ToyasCard.lean, 'card_holds'). Laid BY PROGRAM, IN A SANDBOX (cutbox-door.mjs). By AI agents, Wed Nov 11 2026. No macro, syntax, notation, axiom, sorry.
-/
import Derived.Test.YtdaghncicimipaaGreatDoorRows
import GoSem.ClaimSeven
namespace Go.Proofs.YtdaghncicimipaaGreatDoor
namespace Rows

/-- THE TIED CARD OF 'nadirlaw15.TermsMatchesReference'. -/
def termsMatchesReferenceCard : Claim7 := { stood := { row := termsMatchesReferenceRow, standIns := [], harness := (true, "5e2e828d2708027ebb90369a6b2c5c6ba2ae0f54b1600aa7ac86bce92e7263ac"), looks := false }, kinds := [], alts := [], laidByText := true, laidKinds := [.data, .data], laidTests := true, laidLooks := .later }
def TermsMatchesReferenceCardSaid : Prop := Claim7.holds Tryz.pinned (.plain (OpenSpec.ofChange termsMatchesReferenceSpec)) termsMatchesReferenceCard

/-- THE TIED CARD OF 'nadirlaw15.TermsFutureMatchesReference'. -/
def termsFutureMatchesReferenceCard : Claim7 := { stood := { row := termsFutureMatchesReferenceRow, standIns := [], harness := (true, "5e2e828d2708027ebb90369a6b2c5c6ba2ae0f54b1600aa7ac86bce92e7263ac"), looks := false }, kinds := [], alts := [], laidByText := true, laidKinds := [.data, .data], laidTests := true, laidLooks := .later }
def TermsFutureMatchesReferenceCardSaid : Prop := Claim7.holds Tryz.pinned (.plain (OpenSpec.ofChange termsFutureMatchesReferenceSpec)) termsFutureMatchesReferenceCard

/-- THE TIED CARD OF 'nadirlaw15.TermsMore'. -/
def termsMoreCard : Claim7 := { stood := { row := termsMoreRow, standIns := [], harness := (true, "5e2e828d2708027ebb90369a6b2c5c6ba2ae0f54b1600aa7ac86bce92e7263ac"), looks := false }, kinds := [], alts := [], laidByText := true, laidKinds := [.data, .data], laidTests := true, laidLooks := .later }
def TermsMoreCardSaid : Prop := Claim7.holds Tryz.pinned (.plain (OpenSpec.ofChange termsMoreSpec)) termsMoreCard

/-- THE TIED CARD OF 'nadirlaw15.TermsFinish'. -/
def termsFinishCard : Claim7 := { stood := { row := termsFinishRow, standIns := [], harness := (true, "5e2e828d2708027ebb90369a6b2c5c6ba2ae0f54b1600aa7ac86bce92e7263ac"), looks := false }, kinds := [], alts := [], laidByText := true, laidKinds := [.data, .data], laidTests := true, laidLooks := .later }
def TermsFinishCardSaid : Prop := Claim7.holds Tryz.pinned (.plain (OpenSpec.ofChange termsFinishSpec)) termsFinishCard

/-- THE TIED CARD OF 'nadirlaw15.TermsDoom'. -/
def termsDoomCard : Claim7 := { stood := { row := termsDoomRow, standIns := [], harness := (true, "5e2e828d2708027ebb90369a6b2c5c6ba2ae0f54b1600aa7ac86bce92e7263ac"), looks := false }, kinds := [], alts := [], laidByText := true, laidKinds := [.data, .data], laidTests := true, laidLooks := .later }
def TermsDoomCardSaid : Prop := Claim7.holds Tryz.pinned (.plain (OpenSpec.ofChange termsDoomSpec)) termsDoomCard

/-- THE TIED CARD OF 'nadirlaw15.TermsUses'. -/
def termsUsesCard : Claim7 := { stood := { row := termsUsesRow, standIns := [], harness := (true, "5e2e828d2708027ebb90369a6b2c5c6ba2ae0f54b1600aa7ac86bce92e7263ac"), looks := false }, kinds := [], alts := [], laidByText := true, laidKinds := [.data, .data], laidTests := true, laidLooks := .later }
def TermsUsesCardSaid : Prop := Claim7.holds Tryz.pinned (.plain (OpenSpec.ofChange termsUsesSpec)) termsUsesCard

/-- THE SECOND FORM's CARD OF 'nadirlaw15.TermsMatchesReference'. -/
def termsMatchesReferenceUptoCard : Claim7 := { stood := { row := termsMatchesReferenceUptoRow, standIns := [], harness := (true, "5e2e828d2708027ebb90369a6b2c5c6ba2ae0f54b1600aa7ac86bce92e7263ac"), looks := false }, kinds := [], alts := [], laidByText := true, laidKinds := [.data, .data], laidTests := true, laidLooks := .later }
def TermsMatchesReferenceUptoCardSaid : Prop := Claim7.holds Tryz.pinned (.plain (OpenSpec.upto termsMatchesReferenceSpec)) termsMatchesReferenceUptoCard

/-- THE SECOND FORM's CARD OF 'nadirlaw15.TermsFutureMatchesReference'. -/
def termsFutureMatchesReferenceUptoCard : Claim7 := { stood := { row := termsFutureMatchesReferenceUptoRow, standIns := [], harness := (true, "5e2e828d2708027ebb90369a6b2c5c6ba2ae0f54b1600aa7ac86bce92e7263ac"), looks := false }, kinds := [], alts := [], laidByText := true, laidKinds := [.data, .data], laidTests := true, laidLooks := .later }
def TermsFutureMatchesReferenceUptoCardSaid : Prop := Claim7.holds Tryz.pinned (.plain (OpenSpec.upto termsFutureMatchesReferenceSpec)) termsFutureMatchesReferenceUptoCard

/-- THE SECOND FORM's CARD OF 'nadirlaw15.TermsMore'. -/
def termsMoreUptoCard : Claim7 := { stood := { row := termsMoreUptoRow, standIns := [], harness := (true, "5e2e828d2708027ebb90369a6b2c5c6ba2ae0f54b1600aa7ac86bce92e7263ac"), looks := false }, kinds := [], alts := [], laidByText := true, laidKinds := [.data, .data], laidTests := true, laidLooks := .later }
def TermsMoreUptoCardSaid : Prop := Claim7.holds Tryz.pinned (.plain (OpenSpec.upto termsMoreSpec)) termsMoreUptoCard

/-- THE SECOND FORM's CARD OF 'nadirlaw15.TermsFinish'. -/
def termsFinishUptoCard : Claim7 := { stood := { row := termsFinishUptoRow, standIns := [], harness := (true, "5e2e828d2708027ebb90369a6b2c5c6ba2ae0f54b1600aa7ac86bce92e7263ac"), looks := false }, kinds := [], alts := [], laidByText := true, laidKinds := [.data, .data], laidTests := true, laidLooks := .later }
def TermsFinishUptoCardSaid : Prop := Claim7.holds Tryz.pinned (.plain (OpenSpec.upto termsFinishSpec)) termsFinishUptoCard

/-- THE SECOND FORM's CARD OF 'nadirlaw15.TermsDoom'. -/
def termsDoomUptoCard : Claim7 := { stood := { row := termsDoomUptoRow, standIns := [], harness := (true, "5e2e828d2708027ebb90369a6b2c5c6ba2ae0f54b1600aa7ac86bce92e7263ac"), looks := false }, kinds := [], alts := [], laidByText := true, laidKinds := [.data, .data], laidTests := true, laidLooks := .later }
def TermsDoomUptoCardSaid : Prop := Claim7.holds Tryz.pinned (.plain (OpenSpec.upto termsDoomSpec)) termsDoomUptoCard

/-- THE SECOND FORM's CARD OF 'nadirlaw15.TermsUses'. -/
def termsUsesUptoCard : Claim7 := { stood := { row := termsUsesUptoRow, standIns := [], harness := (true, "5e2e828d2708027ebb90369a6b2c5c6ba2ae0f54b1600aa7ac86bce92e7263ac"), looks := false }, kinds := [], alts := [], laidByText := true, laidKinds := [.data, .data], laidTests := true, laidLooks := .later }
def TermsUsesUptoCardSaid : Prop := Claim7.holds Tryz.pinned (.plain (OpenSpec.upto termsUsesSpec)) termsUsesUptoCard
end Rows
end Go.Proofs.YtdaghncicimipaaGreatDoor
