/-
  DERIVED. GIVEN WITH THE SEED: THE CARDS: each row of YteebpnooijknoaaDoorRows.lean that lists a variable, with what it lists TIED to the program's text (the seventh form; the later family's looks); each row that meets fmt, with fmt's text TOLD by the authors' own Lean function (tested against real Go, not proved from fmt's source: count such statements apart). THE CARD IS WHAT COUNTS. Prove the row's statement (the work); the ties are given (YteebpnooijknoaaDoorTie.lean); close each card by the builder's one call (the guide's Derived/Test/ToyasCard.lean, 'card_holds'). Laid BY PROGRAM, IN A SANDBOX (cutbox-door.mjs). By AI agents, Wed Nov 11 2026. No macro, syntax, notation, axiom, sorry.
-/
import Derived.Test.YteebpnooijknoaaDoorRows
import GoSem.ClaimSeven
namespace Go.Proofs.YteebpnooijknoaaDoor
namespace Rows

/-- THE TIED CARD OF 'tarnlaw2.RiversRead'. -/
def riversReadCard : Claim7 := { stood := { row := riversReadRow, standIns := [], harness := (true, "0fc8a0397117aea3532099c0be6b45d01390ffb22d3b05f1560e867c6c3bdbbc"), looks := true }, kinds := [], alts := [], laidByText := true, laidKinds := [.data, .data, .data, .data, .sentinel, .sentinel, .pinned], laidTests := true, laidLooks := .later }
def RiversReadCardSaid : Prop := Claim7.holds Tryd.pinned (.plain (OpenSpec.ofChange riversReadSpec)) riversReadCard

/-- THE SECOND FORM's CARD OF 'tarnlaw2.RiversRead'. -/
def riversReadUptoCard : Claim7 := { stood := { row := riversReadUptoRow, standIns := [], harness := (true, "0fc8a0397117aea3532099c0be6b45d01390ffb22d3b05f1560e867c6c3bdbbc"), looks := true }, kinds := [], alts := [], laidByText := true, laidKinds := [.data, .data, .data, .data, .sentinel, .sentinel, .pinned], laidTests := true, laidLooks := .later }
def RiversReadUptoCardSaid : Prop := Claim7.holds Tryd.pinned (.plain (OpenSpec.upto riversReadSpec)) riversReadUptoCard
end Rows
end Go.Proofs.YteebpnooijknoaaDoor
