/-
  DERIVED. GIVEN WITH THE SEED: THE CARDS: each row of YthigfnjbabcfnaaGreatDoorRows.lean that lists a variable, with what it lists TIED to the program's text (the seventh form; the later family's looks); each row that meets fmt, with fmt's text TOLD by the authors' own Lean function (tested against real Go, not proved from fmt's source: count such statements apart). THE CARD IS WHAT COUNTS. Prove the row's statement (the work); the ties are given (YthigfnjbabcfnaaGreatDoorTie.lean); close each card by the builder's one call (the guide's Derived/Test/ToyasCard.lean, 'card_holds'). Laid BY PROGRAM, IN A SANDBOX (cutbox-door.mjs). By AI agents, Wed Nov 11 2026. No macro, syntax, notation, axiom, sorry.
-/
import Derived.Test.YthigfnjbabcfnaaGreatDoorRows
import GoSem.ClaimSeven
namespace Go.Proofs.YthigfnjbabcfnaaGreatDoor
namespace Rows

/-- THE TIED CARD OF 'ripostelaw09.StratNames'. -/
def stratNamesCard : Claim7 := { stood := { row := stratNamesRow, standIns := [], harness := (true, "4181692667e31413760a8f5cff7f37bef1a2a82b927e91f82a90f021409d1c6f"), looks := false }, kinds := [], alts := [], laidByText := true, laidKinds := [.data, .data, .data], laidTests := true, laidLooks := .later }
def StratNamesCardSaid : Prop := Claim7.holds Tryz.pinned (.plain (OpenSpec.ofChange stratNamesSpec)) stratNamesCard

/-- THE SECOND FORM's CARD OF 'ripostelaw09.StratNames'. -/
def stratNamesUptoCard : Claim7 := { stood := { row := stratNamesUptoRow, standIns := [], harness := (true, "4181692667e31413760a8f5cff7f37bef1a2a82b927e91f82a90f021409d1c6f"), looks := false }, kinds := [], alts := [], laidByText := true, laidKinds := [.data, .data, .data], laidTests := true, laidLooks := .later }
def StratNamesUptoCardSaid : Prop := Claim7.holds Tryz.pinned (.plain (OpenSpec.upto stratNamesSpec)) stratNamesUptoCard
end Rows
end Go.Proofs.YthigfnjbabcfnaaGreatDoor
