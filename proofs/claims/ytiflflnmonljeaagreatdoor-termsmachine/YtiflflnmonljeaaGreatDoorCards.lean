/-
  DERIVED. GIVEN WITH THE SEED: THE CARDS: each row of YtiflflnmonljeaaGreatDoorRows.lean that lists a variable, with what it lists TIED to the program's text (the seventh form; the later family's looks); each row that meets fmt, with fmt's text TOLD by the authors' own Lean function (tested against real Go, not proved from fmt's source: count such statements apart). THE CARD IS WHAT COUNTS. Prove the row's statement (the work); the ties are given (YtiflflnmonljeaaGreatDoorTie.lean); close each card by the builder's one call (the guide's Derived/Test/ToyasCard.lean, 'card_holds'). Laid BY PROGRAM, IN A SANDBOX (cutbox-door.mjs). By AI agents, Wed Nov 11 2026. No macro, syntax, notation, axiom, sorry.
-/
import Derived.Test.YtiflflnmonljeaaGreatDoorRows
import GoSem.ClaimSeven
namespace Go.Proofs.YtiflflnmonljeaaGreatDoor
namespace Rows

/-- THE TIED CARD OF 'nadirlaw15.TermsMachine'. -/
def termsMachineCard : Claim7 := { stood := { row := termsMachineRow, standIns := [], harness := (true, "0713debc5133836212d2147f868d7ee637342a6ad3f599a379efe8461ccd1671"), looks := false }, kinds := [], alts := [], laidByText := true, laidKinds := [.data, .data], laidTests := true, laidLooks := .later }
def TermsMachineCardSaid : Prop := Claim7.holds Tryz.pinned (.plain (OpenSpec.ofChange termsMachineSpec)) termsMachineCard

/-- THE SECOND FORM's CARD OF 'nadirlaw15.TermsMachine'. -/
def termsMachineUptoCard : Claim7 := { stood := { row := termsMachineUptoRow, standIns := [], harness := (true, "0713debc5133836212d2147f868d7ee637342a6ad3f599a379efe8461ccd1671"), looks := false }, kinds := [], alts := [], laidByText := true, laidKinds := [.data, .data], laidTests := true, laidLooks := .later }
def TermsMachineUptoCardSaid : Prop := Claim7.holds Tryz.pinned (.plain (OpenSpec.upto termsMachineSpec)) termsMachineUptoCard
end Rows
end Go.Proofs.YtiflflnmonljeaaGreatDoor
