/-
  DERIVED. GIVEN WITH THE SEED: THE CARDS: each row of YtfbicphocelpeaaGreatDoorRows.lean that lists a variable, with what it lists TIED to the program's text (the seventh form; the later family's looks); each row that meets fmt, with fmt's text TOLD by the authors' own Lean function (tested against real Go, not proved from fmt's source: count such statements apart). THE CARD IS WHAT COUNTS. Prove the row's statement (the work); the ties are given (YtfbicphocelpeaaGreatDoorTie.lean); close each card by the builder's one call (the guide's Derived/Test/ToyasCard.lean, 'card_holds'). Laid BY PROGRAM, IN A SANDBOX (cutbox-door.mjs). By AI agents, Wed Nov 11 2026. No macro, syntax, notation, axiom, sorry.
-/
import Derived.Test.YtfbicphocelpeaaGreatDoorRows
import GoSem.ClaimSeven
namespace Go.Proofs.YtfbicphocelpeaaGreatDoor
namespace Rows

/-- THE TIED CARD OF 'nadirlaw15.TermsTexts'. -/
def termsTextsCard : Claim7 := { stood := { row := termsTextsRow, standIns := [], harness := (true, "667b9fa5937a2512abeb71c14eade52cb19b3a6d182f4bfa079ea106fd576d0d"), looks := true }, kinds := [], alts := [], laidByText := true, laidKinds := [.data, .data, .data, .data, .sentinel, .sentinel, .pinned], laidTests := true, laidLooks := .later }
def TermsTextsCardSaid : Prop := Claim7.holds Tryz.pinned (.plain (OpenSpec.ofChange termsTextsSpec)) termsTextsCard

/-- THE SECOND FORM's CARD OF 'nadirlaw15.TermsTexts'. -/
def termsTextsUptoCard : Claim7 := { stood := { row := termsTextsUptoRow, standIns := [], harness := (true, "667b9fa5937a2512abeb71c14eade52cb19b3a6d182f4bfa079ea106fd576d0d"), looks := true }, kinds := [], alts := [], laidByText := true, laidKinds := [.data, .data, .data, .data, .sentinel, .sentinel, .pinned], laidTests := true, laidLooks := .later }
def TermsTextsUptoCardSaid : Prop := Claim7.holds Tryz.pinned (.plain (OpenSpec.upto termsTextsSpec)) termsTextsUptoCard
end Rows
end Go.Proofs.YtfbicphocelpeaaGreatDoor
