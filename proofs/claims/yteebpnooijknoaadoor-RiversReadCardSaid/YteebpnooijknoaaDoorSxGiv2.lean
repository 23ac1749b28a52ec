/- Own library: more functions of Go's library that the walk takes by their contracts: strings.Cut, strings.Count. -/
import Derived.Test.YteebpnooijknoaaDoorSxGiv
import Derived.Lib.CutLaws
namespace Sx
open Go Go.RowKit Go.Sort
variable [WB]
set_option linter.all false

def cutL (s sep : ByteArray) : List UInt8 × List UInt8 × Bool := Lib.cut s.data.toList sep.data.toList
def cutP (s sep : ByteArray) : Option (ByteArray × ByteArray × Bool) := if s.size < 4294967281 then some (⟨(cutL s sep).1.toArray⟩, ⟨(cutL s sep).2.1.toArray⟩, (cutL s sep).2.2) else none
def countP (s sep : ByteArray) : Option Int := if s.size < 4294967281 ∧ 1 ≤ sep.size then some (Lib.countB s sep : Int) else none
section
variable {P : Program} {f : FuncId} {D : PH} {F : List Assert}
theorem given_cut {g : Nat} (hg : P.globalNamed "internal/bytealg.MaxLen" = some g) (hm : ∃ m : Int, ∀ {D : PH} {As : List Assert} {w : World}, SInv D As w → ∀ g, P.globalNamed "internal/bytealg.MaxLen" = some g → w.cell? ⟨g, 0, none⟩ = some (.int .i64 m))
    (hc : ∀ (s sep : ByteArray) (m : Int) (w : World), s.size < 4294967281 → w.cell? ⟨g, 0, none⟩ = some (.int .i64 m) → Calls P f #[.string s, .string sep] w fun e w' =>
      e = .returned (.tuple #[.string ⟨(Lib.cut s.data.toList sep.data.toList).1.toArray⟩, .string ⟨(Lib.cut s.data.toList sep.data.toList).2.1.toArray⟩, .bool (Lib.cut s.data.toList sep.data.toList).2.2]) ∧ ∃ n, w' = w.drewN n)
    {s sep : ByteArray} {r : ByteArray × ByteArray × Bool} (hp : cutP s sep = some r) : ∀ w : World, SInv D F w → Calls P f #[.string s, .string sep] w fun e w' => e = .returned (.tuple #[.string r.1, .string r.2.1, .bool r.2.2]) ∧ SInv D F w' := by
  intro w hS
  unfold cutP at hp
  split at hp
  · rename_i hb
    obtain rfl := Option.some.inj hp
    obtain ⟨m, hm⟩ := hm
    refine (hc s sep m w hb (hm hS g hg)).mono fun e w' h => ?_
    obtain ⟨rfl, n, rfl⟩ := h
    exact ⟨rfl, hS⟩
  · cases hp
theorem given_count {g : Nat} (hg : P.globalNamed "internal/bytealg.MaxLen" = some g) (hm : ∃ m : Int, ∀ {D : PH} {As : List Assert} {w : World}, SInv D As w → ∀ g, P.globalNamed "internal/bytealg.MaxLen" = some g → w.cell? ⟨g, 0, none⟩ = some (.int .i64 m))
    (hc : ∀ (s sep : ByteArray) (m : Int) (w : World), s.size < 4294967281 → w.cell? ⟨g, 0, none⟩ = some (.int .i64 m) → 1 ≤ sep.size → Calls P f #[.string s, .string sep] w fun e w' => e = .returned (.int .i64 (Lib.countB s sep)) ∧ w' = w)
    {s sep : ByteArray} {r : Int} (hp : countP s sep = some r) : ∀ w : World, SInv D F w → Calls P f #[.string s, .string sep] w fun e w' => e = .returned (.int .i64 r) ∧ SInv D F w' := by
  intro w hS
  unfold countP at hp
  split at hp
  · rename_i hb
    obtain rfl := Option.some.inj hp
    obtain ⟨m, hm⟩ := hm
    refine (hc s sep m w hb.1 (hm hS g hg) hb.2).mono fun e w' h => ?_
    obtain ⟨rfl, rfl⟩ := h
    exact ⟨rfl, hS⟩
  · cases hp
end
end Sx
