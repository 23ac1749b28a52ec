/- Own library: the words of the pure programs. No program in sight. -/
import Derived.Orders
namespace Sx
set_option linter.all false
open Go

/-! ### Numbers -/
def addI (a b : Int) : Int := IntKind.wrap .i64 (a + b)
def subI (a b : Int) : Int := IntKind.wrap .i64 (a - b)
def mulI (a b : Int) : Int := IntKind.wrap .i64 (a * b)
def quoI (a b : Int) : Int := IntKind.wrap .i64 (a.tdiv b)
def remI (a b : Int) : Int := a.tmod b
def fadd (k : FloatKind) (a b : Nat) : Option Nat := k.format.add a b
def fsub (k : FloatKind) (a b : Nat) : Option Nat := k.format.sub a b
def fmul (k : FloatKind) (a b : Nat) : Option Nat := k.format.mul a b
def fdiv (k : FloatKind) (a b : Nat) : Option Nat := k.format.div a b
def feq (k : FloatKind) (a b : Nat) : Bool := k.format.order a b == some .eq
def fne (k : FloatKind) (a b : Nat) : Bool := k.format.order a b != some .eq
def flt (k : FloatKind) (a b : Nat) : Bool := k.format.order a b == some .lt
def fle (k : FloatKind) (a b : Nat) : Bool := k.format.order a b == some .lt || k.format.order a b == some .eq
def fgt (k : FloatKind) (a b : Nat) : Bool := k.format.order a b == some .gt
def fge (k : FloatKind) (a b : Nat) : Bool := k.format.order a b == some .gt || k.format.order a b == some .eq
def fofI (k : FloatKind) (n : Int) : Nat := k.nearest n
def fneg (k : FloatKind) (a : Nat) : Nat := Op.negFloat k a
/-- A conversion between formats; none: a NaN, or an overflow. -/
def fconv (s d : FloatKind) (a : Nat) : Option Nat :=
  if s = d then some a else match s.decode a with
  | .nan _ _ => none
  | .infinity g => some (d.encode (.infinity g))
  | .number g m e => if (d.decode (d.encode (.number g m e))).isInfinity then none else some (d.encode (.number g m e))
def fmax (k : FloatKind) (x y : Nat) : Option Nat := match k.format.order x y with
  | none => none | some .lt => some y | some .gt => some x | some .eq => some (if (k.decode x).neg then y else x)
def fmin (k : FloatKind) (x y : Nat) : Option Nat := match k.format.order x y with
  | none => none | some .lt => some x | some .gt => some y | some .eq => some (if (k.decode x).neg then x else y)
/-- A float made whole towards zero; none: no int. -/
def ftoI (s : FloatKind) (d : IntKind) (a : Nat) : Option Int := match (s.decode a).toInt .zero with
  | some n => if d.min ≤ n ∧ n ≤ d.max then some n else none
  | none => none

/-! ### Programs -/
abbrev bnd {α β : Type} (m : Option α) (f : α → Option β) : Option β := Option.bind m f
theorem bnd_some {α β : Type} {m : Option α} {f : α → Option β} {r : β} (h : bnd m f = some r) : ∃ x, m = some x ∧ f x = some r := Option.bind_eq_some_iff.1 h
/-- An index with its bound's check. -/
def idx {α : Type} (l : List α) (i : Int) : Option α := if 0 ≤ i then l[i.toNat]? else none
def setx {α : Type} (l : List α) (i : Int) (x : α) : Option (List α) := if 0 ≤ i ∧ i < l.length then some (l.set i.toNat x) else none
theorem idx_some {α : Type} {l : List α} {i : Int} {x : α} (h : idx l i = some x) : 0 ≤ i ∧ i.toNat < l.length ∧ l[i.toNat]? = some x := by
  unfold idx at h
  split at h
  · rename_i h0
    have hl : i.toNat < l.length := by
      rcases Nat.lt_or_ge i.toNat l.length with hl | hl
      · exact hl
      · rw [List.getElem?_eq_none hl] at h; cases h
    exact ⟨h0, hl, h⟩
  · cases h
theorem setx_some {α : Type} {l m : List α} {i : Int} {x : α} (h : setx l i x = some m) : 0 ≤ i ∧ i.toNat < l.length ∧ m = l.set i.toNat x := by
  unfold setx at h
  split at h
  · rename_i h0; exact ⟨h0.1, by omega, by simpa using h.symm⟩
  · cases h
def guardP (c : Bool) : Option Unit := if c then some () else none
theorem guardP_some {c : Bool} {u : Unit} (h : guardP c = some u) : c = true := by
  unfold guardP at h
  split at h
  · assumption
  · cases h

/-- How a round ends: it goes on, or leaves the loop. -/
inductive Ctl (S E : Type) where
  | go (s : S)
  | out (e : E)

/-- At most k rounds. -/
def iter {S E : Type} (body : S → Option (Ctl S E)) : Nat → S → Option E
  | 0, _ => none
  | k + 1, s => match body s with
    | none => none
    | some (.go s') => iter body k s'
    | some (.out e) => some e

theorem iter_mono {S E : Type} {body : S → Option (Ctl S E)} : ∀ {k : Nat} {s : S} {e : E}, iter body k s = some e → ∀ j, iter body (k + j) s = some e
  | 0, s, e, h, j => by cases h
  | k + 1, s, e, h, j => by
    rw [Nat.add_right_comm]
    simp only [iter] at h ⊢
    cases hb : body s with
    | none => rw [hb] at h; cases h
    | some x =>
      rw [hb] at h
      cases x with
      | go s' => exact iter_mono h j
      | out e' => exact h
theorem iter_det {S E : Type} {body : S → Option (Ctl S E)} {k j : Nat} {s : S} {e e' : E} (h : iter body k s = some e) (h' : iter body j s = some e') : e = e' := by
  have h1 := iter_mono h j
  have h2 := iter_mono h' k
  rw [Nat.add_comm] at h2
  rw [h1] at h2
  exact Option.some.inj h2

/-- The rounds that a loop is given: more than any loop here can need. -/
def fuel : Nat := 2 ^ 200
/-- A loop. none: a round fails, or the loop does not end within its rounds. -/
def loopP {S E : Type} (body : S → Option (Ctl S E)) (s : S) : Option E := iter body fuel s
theorem loopP_ex {S E : Type} {body : S → Option (Ctl S E)} {s : S} {e : E} (h : loopP body s = some e) : ∃ k, iter body k s = some e := ⟨_, h⟩
theorem loopP_of {S E : Type} {body : S → Option (Ctl S E)} {s : S} {e : E} {k : Nat} (hk : k ≤ fuel) (h : iter body k s = some e) : loopP body s = some e := by
  have := iter_mono h (fuel - k)
  rwa [Nat.add_sub_cancel' hk] at this

/-- A loop over numbers from i on, j rounds being left. -/
def forI {S E : Type} (body : Nat → S → Option (Ctl S E)) : (j i : Nat) → S → Option (Ctl S E)
  | 0, _, s => some (.go s)
  | j + 1, i, s => match body i s with
    | none => none
    | some (.go s') => forI body j (i + 1) s'
    | some (.out e) => some (.out e)
/-- The same, where no round leaves the loop. -/
def forS {S : Type} (body : Nat → S → Option S) : (j i : Nat) → S → Option S
  | 0, _, s => some s
  | j + 1, i, s => (body i s).bind fun s' => forS body j (i + 1) s'
end Sx
