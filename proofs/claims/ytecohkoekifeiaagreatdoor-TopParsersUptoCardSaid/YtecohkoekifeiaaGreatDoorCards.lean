/-
  DERIVED. GIVEN WITH THE SEED: THE CARDS: each row of YtecohkoekifeiaaGreatDoorRows.lean that lists a variable, with what it lists TIED to the program's text (the seventh form; the later family's looks); each row that meets fmt, with fmt's text TOLD by the authors' own Lean function (tested against real Go, not proved from fmt's source: count such statements apart). THE CARD IS WHAT COUNTS. Prove the row's statement (the work); the ties are given (YtecohkoekifeiaaGreatDoorTie.lean); close each card by the builder's one call (the guide's Derived/Test/ToyasCard.lean, 'card_holds'). Laid BY PROGRAM, IN A SANDBOX (cutbox-door.mjs). By AI agents, Wed Nov 11 2026. No macro, syntax, notation, axiom, sorry.
-/
import Derived.Test.YtecohkoekifeiaaGreatDoorRows
import GoSem.ClaimSeven
namespace Go.Proofs.YtecohkoekifeiaaGreatDoor
namespace Rows

/-- THE TIED CARD OF 'hustingstop.TopParsers'. -/
def topParsersCard : Claim7 := { stood := { row := topParsersRow, standIns := [], harness := (true, "456ff1f1e5b5d676e3ccead398e004f3278fc3b1c07757867c9cc4748b719223"), looks := true }, kinds := [], alts := [], laidByText := true, laidKinds := [.pinned, .data, .sentinel, .sentinel, .data, .data, .data], laidTests := true, laidLooks := .later }
def TopParsersCardSaid : Prop := Claim7.holds Tryz.pinned (.plain (OpenSpec.ofChange topParsersSpec)) topParsersCard

/-- THE SECOND FORM's CARD OF 'hustingstop.TopParsers'. -/
def topParsersUptoCard : Claim7 := { stood := { row := topParsersUptoRow, standIns := [], harness := (true, "456ff1f1e5b5d676e3ccead398e004f3278fc3b1c07757867c9cc4748b719223"), looks := true }, kinds := [], alts := [], laidByText := true, laidKinds := [.pinned, .data, .sentinel, .sentinel, .data, .data, .data], laidTests := true, laidLooks := .later }
def TopParsersUptoCardSaid : Prop := Claim7.holds Tryz.pinned (.plain (OpenSpec.upto topParsersSpec)) topParsersUptoCard
end Rows
end Go.Proofs.YtecohkoekifeiaaGreatDoor
