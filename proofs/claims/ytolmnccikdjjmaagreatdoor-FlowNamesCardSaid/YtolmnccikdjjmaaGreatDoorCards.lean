/-
  DERIVED. GIVEN WITH THE SEED: THE CARDS: each row of YtolmnccikdjjmaaGreatDoorRows.lean that lists a variable, with what it lists TIED to the program's text (the seventh form; the later family's looks); each row that meets fmt, with fmt's text TOLD by the authors' own Lean function (tested against real Go, not proved from fmt's source: count such statements apart). THE CARD IS WHAT COUNTS. Prove the row's statement (the work); the ties are given (YtolmnccikdjjmaaGreatDoorTie.lean); close each card by the builder's one call (the guide's Derived/Test/ToyasCard.lean, 'card_holds'). Laid BY PROGRAM, IN A SANDBOX (cutbox-door.mjs). By AI agents, Wed Nov 11 2026. No macro, syntax, notation, axiom, sorry.
-/
import Derived.Test.YtolmnccikdjjmaaGreatDoorRows
import GoSem.ClaimSeven
namespace Go.Proofs.YtolmnccikdjjmaaGreatDoor
namespace Rows

/-- THE TIED CARD OF 'ripostelaw27.FlowNames'. -/
def flowNamesCard : Claim7 := { stood := { row := flowNamesRow, standIns := [], harness := (true, "de9e6fd82bce24839ecedaae440c6faf23e35fef5d310b0b2545be3ec92684ef"), looks := false }, kinds := [], alts := [], laidByText := true, laidKinds := [.data, .data, .data], laidTests := true, laidLooks := .later }
def FlowNamesCardSaid : Prop := Claim7.holds Tryz.pinned (.plain (OpenSpec.ofChange flowNamesSpec)) flowNamesCard

/-- THE SECOND FORM's CARD OF 'ripostelaw27.FlowNames'. -/
def flowNamesUptoCard : Claim7 := { stood := { row := flowNamesUptoRow, standIns := [], harness := (true, "de9e6fd82bce24839ecedaae440c6faf23e35fef5d310b0b2545be3ec92684ef"), looks := false }, kinds := [], alts := [], laidByText := true, laidKinds := [.data, .data, .data], laidTests := true, laidLooks := .later }
def FlowNamesUptoCardSaid : Prop := Claim7.holds Tryz.pinned (.plain (OpenSpec.upto flowNamesSpec)) flowNamesUptoCard
end Rows
end Go.Proofs.YtolmnccikdjjmaaGreatDoor
