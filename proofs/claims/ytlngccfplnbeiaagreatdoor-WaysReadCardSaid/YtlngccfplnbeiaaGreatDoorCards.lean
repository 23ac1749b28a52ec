/-
  DERIVED. GIVEN WITH THE SEED: THE CARDS: each row of YtlngccfplnbeiaaGreatDoorRows.lean that lists a variable, with what it lists TIED to the program's text (the seventh form; the later family's looks); each row that meets fmt, with fmt's text TOLD by the authors' own Lean function (tested against real Go, not proved from fmt's source: count such statements apart). THE CARD IS WHAT COUNTS. Prove the row's statement (the work); the ties are given (YtlngccfplnbeiaaGreatDoorTie.lean); close each card by the builder's one call (the guide's Derived/Test/ToyasCard.lean, 'card_holds'). Laid BY PROGRAM, IN A SANDBOX (cutbox-door.mjs). By AI agents, Wed Nov 11 2026. No macro, syntax, notation, axiom, sorry.
-/
import Derived.Test.YtlngccfplnbeiaaGreatDoorRows
import GoSem.ClaimSeven
namespace Go.Proofs.YtlngccfplnbeiaaGreatDoor
namespace Rows

/-- THE TIED CARD OF 'tarnlaw2.WaysRead'. -/
def waysReadCard : Claim7 := { stood := { row := waysReadRow, standIns := [], harness := (true, "b487a2b418507f3df74502b086cb44be3580d29bf531e0a3ebd7043597c3024e"), looks := true }, kinds := [], alts := [], laidByText := true, laidKinds := [.data, .data, .data, .data, .sentinel, .sentinel, .pinned], laidTests := true, laidLooks := .later }
def WaysReadCardSaid : Prop := Claim7.holds Tryz.pinned (.plain (OpenSpec.ofChange waysReadSpec)) waysReadCard

/-- THE TIED CARD OF 'tarnlaw2.WaysPrint'. -/
def waysPrintCard : Claim7 := { stood := { row := waysPrintRow, standIns := [], harness := (true, "b487a2b418507f3df74502b086cb44be3580d29bf531e0a3ebd7043597c3024e"), looks := true }, kinds := [], alts := [], laidByText := true, laidKinds := [.data, .data, .data, .data, .sentinel, .sentinel, .pinned], laidTests := true, laidLooks := .later }
def WaysPrintCardSaid : Prop := Claim7.holds Tryz.pinned (.plain (OpenSpec.ofChange waysPrintSpec)) waysPrintCard

/-- THE SECOND FORM's CARD OF 'tarnlaw2.WaysRead'. -/
def waysReadUptoCard : Claim7 := { stood := { row := waysReadUptoRow, standIns := [], harness := (true, "b487a2b418507f3df74502b086cb44be3580d29bf531e0a3ebd7043597c3024e"), looks := true }, kinds := [], alts := [], laidByText := true, laidKinds := [.data, .data, .data, .data, .sentinel, .sentinel, .pinned], laidTests := true, laidLooks := .later }
def WaysReadUptoCardSaid : Prop := Claim7.holds Tryz.pinned (.plain (OpenSpec.upto waysReadSpec)) waysReadUptoCard

/-- THE SECOND FORM's CARD OF 'tarnlaw2.WaysPrint'. -/
def waysPrintUptoCard : Claim7 := { stood := { row := waysPrintUptoRow, standIns := [], harness := (true, "b487a2b418507f3df74502b086cb44be3580d29bf531e0a3ebd7043597c3024e"), looks := true }, kinds := [], alts := [], laidByText := true, laidKinds := [.data, .data, .data, .data, .sentinel, .sentinel, .pinned], laidTests := true, laidLooks := .later }
def WaysPrintUptoCardSaid : Prop := Claim7.holds Tryz.pinned (.plain (OpenSpec.upto waysPrintSpec)) waysPrintUptoCard
end Rows
end Go.Proofs.YtlngccfplnbeiaaGreatDoor
