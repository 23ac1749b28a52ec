/-
  No cell of these rows narrows 'for every input' (looked for: loops, veiled, ifaces, maps, wideKeys, modest, calm, conditions, laid).
  DERIVED. THE GIVEN ROWS OF THIS SEAT. 3 by the template 'for every input the law returns true; each argument reads behind the call as it read before'; 0 by the template 'total and deterministic' (their statements: YthibohbaaljnkaaTotals.lean).
  GIVEN WITH THE SEED: the statements are not yours to turn. If you find one false, say at which input.
  Laid BY PROGRAM, IN A SANDBOX (cutbox-rows.mjs): the forced cells as the released guide's own fill.sh prints them over the translation fedd6bb592053680… (all of the seat's roots in one cut). By AI agents, Wed Nov 11 2026. No macro, syntax, notation, axiom, sorry.
-/
import Derived.Test.YthibohbaaljnkaaChecked
import GoSem.Claim
import GoSem.ClaimJoined
import GoSem.ClaimMapViews
import Derived.JoinedTies
import Derived.KernelRfl
namespace Go.Proofs.Ythibohbaaljnkaa
/- THE CELL 'sum', in the pinned program and in every row, IS THE sha256 OF THE DUMP (.gsa) THAT YthibohbaaljnkaaProg.lean LOADS. Nothing in Lean hashes anything: it is a label: what it is worth is what the hold of that sum in a sandbox is worth. -/
noncomputable def Try.pinned : Pinned := { name := "ythibohbaaljnkaa", sum := "fedd6bb592053680ef0e990300725572207d78419eaa5c60d71f223876113cdd", checked := Try.checked }
namespace Rows
def none {H : Type} : Left H := { results := [], args := [] }

/-- 'tarnlaw2.BuildsAsSaid': WHATEVER THE INPUT: true; the input reads as it did. -/
def buildsAsSaidSpec : ChangeSpec := { name := "buildsAsSaid", fn := fun _ => fun
  | [d1, d2, d3, d4, d5] => { results := [.lit (.bool true)], args := [d1, d2, d3, d4, d5] }
  | _ => none }
def buildsAsSaidRow : OpenClaim := { program := "ythibohbaaljnkaa", sum := "fedd6bb592053680ef0e990300725572207d78419eaa5c60d71f223876113cdd", func := "tarnfell/tarnlaw2.BuildsAsSaid", spec := "buildsAsSaid", inPlace := ["math.sqrt", "math.Float64bits", "math.Float64frombits", "math.Float32bits"], unfollowed := true, recurses := true, apart := false }
def BuildsAsSaidSaid : Prop := buildsAsSaidRow.holds Try.pinned (OpenSpec.ofChange buildsAsSaidSpec)

/-- ITS FALSE NEIGHBOUR: 'it returns false'. Refute it at one input. -/
def buildsAsSaidWrong : ChangeSpec := { name := "buildsAsSaid", fn := fun _ => fun
  | [d1, d2, d3, d4, d5] => { results := [.lit (.bool false)], args := [d1, d2, d3, d4, d5] }
  | _ => none }
def BuildsAsSaidWrongFalsely : Prop := buildsAsSaidRow.holds Try.pinned (OpenSpec.ofChange buildsAsSaidWrong)

/-- 'tarnlaw2.BedsMatch': WHATEVER THE INPUT: true; the input reads as it did. -/
def bedsMatchSpec : ChangeSpec := { name := "bedsMatch", fn := fun _ => fun
  | [d1, d2, d3, d4] => { results := [.lit (.bool true)], args := [d1, d2, d3, d4] }
  | _ => none }
def bedsMatchRow : OpenClaim := { program := "ythibohbaaljnkaa", sum := "fedd6bb592053680ef0e990300725572207d78419eaa5c60d71f223876113cdd", func := "tarnfell/tarnlaw2.BedsMatch", spec := "bedsMatch", inPlace := ["math.Float64bits", "math.Float64frombits", "math.sqrt", "math.Float32bits", "math.Float32frombits"], unfollowed := true, recurses := true, apart := false }
def BedsMatchSaid : Prop := bedsMatchRow.holds Try.pinned (OpenSpec.ofChange bedsMatchSpec)

/-- ITS FALSE NEIGHBOUR: 'it returns false'. Refute it at one input. -/
def bedsMatchWrong : ChangeSpec := { name := "bedsMatch", fn := fun _ => fun
  | [d1, d2, d3, d4] => { results := [.lit (.bool false)], args := [d1, d2, d3, d4] }
  | _ => none }
def BedsMatchWrongFalsely : Prop := bedsMatchRow.holds Try.pinned (OpenSpec.ofChange bedsMatchWrong)

/-- 'tarntop.TopNets': WHATEVER THE INPUT: true; the input reads as it did. -/
def topNetsSpec : ChangeSpec := { name := "topNets", fn := fun _ => fun
  | [d1, d2, d3, d4] => { results := [.lit (.bool true)], args := [d1, d2, d3, d4] }
  | _ => none }
def topNetsRow : OpenClaim := { program := "ythibohbaaljnkaa", sum := "fedd6bb592053680ef0e990300725572207d78419eaa5c60d71f223876113cdd", func := "tarnfell/tarntop.TopNets", spec := "topNets", inPlace := ["math.Float64bits", "math.Float64frombits"], unfollowed := true, recurses := true, apart := false }
def TopNetsSaid : Prop := topNetsRow.holds Try.pinned (OpenSpec.ofChange topNetsSpec)

/-- ITS FALSE NEIGHBOUR: 'it returns false'. Refute it at one input. -/
def topNetsWrong : ChangeSpec := { name := "topNets", fn := fun _ => fun
  | [d1, d2, d3, d4] => { results := [.lit (.bool false)], args := [d1, d2, d3, d4] }
  | _ => none }
def TopNetsWrongFalsely : Prop := topNetsRow.holds Try.pinned (OpenSpec.ofChange topNetsWrong)

/- THE SECOND FORM. 'bulk': how many values and letters a reading holds, each counted each time it is reached (what is shared counts as often as it is met; a slice's spare places count too). A statement '..UptoSaid' is the law's where the arguments, and the package variables that the reading takes, are together of bulk at most 1048576: NARROWER than '..Said'. Prove '..Said' where nothing that the law and all that it calls make is longer than what came in: it says more and counts as full. Else prove '..UptoSaid'. A law counts once. -/
mutual
def uptoBulk {H : Type} : DataW H → Nat
  | .lit (.string bytes) => bytes.length + 1
  | .lit _ => 1
  | .nil => 1
  | .ptr d => uptoBulk d + 1
  | .slice elems spare => uptoBulkAll elems + uptoBulkAll spare + 1
  | .agg parts => uptoBulkAll parts + 1
  | .iface _ d => uptoBulk d + 1
  | .map entries => uptoBulkEntries entries + 1
  | .held _ => 1
def uptoBulkAll {H : Type} : List (DataW H) → Nat
  | [] => 0
  | d :: r => uptoBulk d + uptoBulkAll r
def uptoBulkEntries {H : Type} : List (Lit × DataW H) → Nat
  | [] => 0
  | x :: r => uptoBulkEntry x + uptoBulkEntries r
def uptoBulkEntry {H : Type} : Lit × DataW H → Nat
  | (.string bytes, d) => bytes.length + uptoBulk d + 1
  | (_, d) => uptoBulk d + 1
 end
def uptoSmall : (H : Type) → List (DataW H) → Bool := fun _ ds => decide (uptoBulkAll ds ≤ 1048576)
def OpenSpec.upto (s : _root_.Go.ChangeSpec) : _root_.Go.OpenSpec := { _root_.Go.OpenSpec.ofChange s with cond := some uptoSmall }

/-- 'tarnlaw2.BuildsAsSaid', WHERE WHAT IT READS IS OF BULK AT MOST 1048576: true; the input reads as it did. -/
def buildsAsSaidUptoRow : OpenClaim := { program := "ythibohbaaljnkaa", sum := "fedd6bb592053680ef0e990300725572207d78419eaa5c60d71f223876113cdd", func := "tarnfell/tarnlaw2.BuildsAsSaid", spec := "buildsAsSaid", inPlace := ["math.sqrt", "math.Float64bits", "math.Float64frombits", "math.Float32bits"], unfollowed := true, recurses := true, apart := false, narrowed := true }
def BuildsAsSaidUptoSaid : Prop := buildsAsSaidUptoRow.holds Try.pinned (OpenSpec.upto buildsAsSaidSpec)

/-- 'tarnlaw2.BedsMatch', WHERE WHAT IT READS IS OF BULK AT MOST 1048576: true; the input reads as it did. -/
def bedsMatchUptoRow : OpenClaim := { program := "ythibohbaaljnkaa", sum := "fedd6bb592053680ef0e990300725572207d78419eaa5c60d71f223876113cdd", func := "tarnfell/tarnlaw2.BedsMatch", spec := "bedsMatch", inPlace := ["math.Float64bits", "math.Float64frombits", "math.sqrt", "math.Float32bits", "math.Float32frombits"], unfollowed := true, recurses := true, apart := false, narrowed := true }
def BedsMatchUptoSaid : Prop := bedsMatchUptoRow.holds Try.pinned (OpenSpec.upto bedsMatchSpec)

/-- 'tarntop.TopNets', WHERE WHAT IT READS IS OF BULK AT MOST 1048576: true; the input reads as it did. -/
def topNetsUptoRow : OpenClaim := { program := "ythibohbaaljnkaa", sum := "fedd6bb592053680ef0e990300725572207d78419eaa5c60d71f223876113cdd", func := "tarnfell/tarntop.TopNets", spec := "topNets", inPlace := ["math.Float64bits", "math.Float64frombits"], unfollowed := true, recurses := true, apart := false, narrowed := true }
def TopNetsUptoSaid : Prop := topNetsUptoRow.holds Try.pinned (OpenSpec.upto topNetsSpec)

end Rows
end Go.Proofs.Ythibohbaaljnkaa
