/- Own text: the nearest place of a way: the program's search in boxes and the document's over all. -/
import Derived.Test.YthibohbaaljnkaaPlWay
import Derived.Test.YthibohbaaljnkaaPlRoot
namespace Go.Proofs.Ythibohbaaljnkaa
open Sx
set_option linter.all false

def dist (p : S_api_Point) (x y : Int) : Int := (p.X - x) * (p.X - x) + (p.Y - y) * (p.Y - y)
def inBox (far : Int) (p : S_api_Point) (x y : Int) : Prop := p.X - far ≤ x ∧ x ≤ p.X + far ∧ p.Y - far ≤ y ∧ y ≤ p.Y + far
instance (far : Int) (p : S_api_Point) (x y : Int) : Decidable (inBox far p x y) := by unfold inBox; infer_instance
/-- The document's search: best place and least square, after m places. -/
def refF (way : List S_api_Point) (x y : Int) : Nat → Int × Int
  | 0 => (0, -1)
  | m + 1 => match way[m]? with
    | some p => if (refF way x y m).2 < 0 ∨ dist p x y < (refF way x y m).2 then ((m : Int), dist p x y) else refF way x y m
    | none => refF way x y m
/-- The program's: the same among the places near by; -1: none. -/
def nearF (way : List S_api_Point) (far x y : Int) : Nat → Int × Int
  | 0 => (-1, 0)
  | m + 1 => match way[m]? with
    | some p => if inBox far p x y ∧ ((nearF way far x y m).1 < 0 ∨ dist p x y < (nearF way far x y m).2) then ((m : Int), dist p x y) else nearF way far x y m
    | none => nearF way far x y m

theorem sq_nonneg (a : Int) : 0 ≤ a * a := by
  rcases Int.le_total 0 a with h | h
  · exact Int.mul_nonneg h h
  · exact Int.mul_nonneg_of_nonpos_of_nonpos h h
theorem dist_nonneg (p : S_api_Point) (x y : Int) : 0 ≤ dist p x y := by
  unfold dist; have := sq_nonneg (p.X - x); have := sq_nonneg (p.Y - y); omega
theorem sq_le_abs {a F : Int} (hF : 0 ≤ F) (h : a * a ≤ F * F) : -F ≤ a ∧ a ≤ F := by
  have h1 : a.natAbs * a.natAbs ≤ F.natAbs * F.natAbs := by
    have e1 : ((a.natAbs * a.natAbs : Nat) : Int) = a * a := Int.natAbs_mul_self' a
    have e2 : ((F.natAbs * F.natAbs : Nat) : Int) = F * F := Int.natAbs_mul_self' F
    omega
  have h2 : a.natAbs ≤ F.natAbs := by
    rcases Nat.lt_or_ge F.natAbs a.natAbs with hl | hl
    · have := Nat.mul_lt_mul_of_lt_of_le hl (Nat.le_of_lt hl) (by omega); omega
    · exact hl
  omega
theorem box_of_dist {far : Int} (hf : 0 ≤ far) {p : S_api_Point} {x y : Int} (h : dist p x y ≤ far * far) : inBox far p x y := by
  unfold dist at h
  have h1 := sq_nonneg (p.X - x)
  have h2 := sq_nonneg (p.Y - y)
  have a := sq_le_abs hf (a := p.X - x) (by omega)
  have b := sq_le_abs hf (a := p.Y - y) (by omega)
  unfold inBox; omega

def Stand (m : Nat) (R N : Int × Int) (F : Int) : Prop :=
  (m = 0 ∨ (0 ≤ R.1 ∧ R.1 < m ∧ 0 ≤ R.2)) ∧ (N.1 < m) ∧ (m ≠ 0 → R.2 ≤ F → N = R) ∧ (m = 0 ∨ F < R.2 → N.1 < 0 ∨ (0 ≤ N.1 ∧ F < N.2))
theorem near_step {m : Nat} {R N : Int × Int} {F d : Int} {B : Prop} [Decidable B] (h : Stand m R N F) (hd : 0 ≤ d) (hb : d ≤ F → B) (hm0 : m = 0 → R = (0, -1) ∧ N = (-1, 0)) :
    Stand (m + 1) (if R.2 < 0 ∨ d < R.2 then ((m : Int), d) else R) (if B ∧ (N.1 < 0 ∨ d < N.2) then ((m : Int), d) else N) F := by
  obtain ⟨h1, h2, h3, h4⟩ := h
  unfold Stand
  by_cases h0 : m = 0
  · obtain ⟨r0, n0⟩ := hm0 h0
    subst r0; subst n0
    simp only [show ((-1 : Int) < 0) = True by simp, true_or, if_true, and_true]
    by_cases hB : B
    · simp only [hB, if_true]
      refine ⟨.inr ⟨by omega, by omega, hd⟩, by omega, fun _ _ => (by first | rfl | trivial), fun h => .inr ⟨by omega, by omega⟩⟩
    · simp only [hB, if_false]
      refine ⟨.inr ⟨by omega, by omega, hd⟩, by omega, fun _ h => absurd (hb h) hB, fun h => .inl (by omega)⟩
  · obtain ⟨g1, g2, g3⟩ := h1.resolve_left h0
    have hR0 : ¬ R.2 < 0 := by omega
    simp only [hR0, false_or]
    by_cases hRF : R.2 ≤ F
    · have hNR := h3 h0 hRF
      subst hNR
      have hN0 : ¬ N.1 < 0 := by omega
      simp only [hN0, false_or]
      by_cases hlt : d < N.2
      · have hB := hb (by omega)
        simp only [hlt, hB, and_self, if_true]
        exact ⟨.inr ⟨by omega, by omega, hd⟩, by omega, fun _ _ => (by first | rfl | trivial), fun h => .inr ⟨by omega, by omega⟩⟩
      · simp only [hlt, and_false, if_false]
        exact ⟨.inr ⟨g1, by omega, g3⟩, by omega, fun _ _ => (by first | rfl | trivial), fun h => by omega⟩
    · have h5 := h4 (.inr (by omega))
      by_cases hdF : d ≤ F
      · have hB := hb hdF
        have hlt : d < R.2 := by omega
        have hc : N.1 < 0 ∨ d < N.2 := by omega
        simp only [hlt, hB, hc, and_self, if_true]
        exact ⟨.inr ⟨by omega, by omega, hd⟩, by omega, fun _ _ => by trivial, fun h => by omega⟩
      · by_cases hlt : d < R.2
        · simp only [hlt, if_true]
          by_cases hc : B ∧ (N.1 < 0 ∨ d < N.2)
          · rw [if_pos hc]
            exact ⟨.inr ⟨by omega, by omega, hd⟩, by omega, fun _ _ => (by first | rfl | trivial), fun h => .inr ⟨by omega, by omega⟩⟩
          · rw [if_neg hc]
            exact ⟨.inr ⟨by omega, by omega, hd⟩, by omega, fun _ h => by omega, fun h => h5⟩
        · simp only [hlt, if_false]
          by_cases hc : B ∧ (N.1 < 0 ∨ d < N.2)
          · rw [if_pos hc]
            exact ⟨.inr ⟨g1, by omega, g3⟩, by omega, fun _ h => by omega, fun h => .inr ⟨by omega, by omega⟩⟩
          · rw [if_neg hc]
            exact ⟨.inr ⟨g1, by omega, g3⟩, by omega, fun _ h => by omega, fun h => h5⟩
/-- How the two searches stand. -/
theorem near_ref {far : Int} (hf : 0 ≤ far) (way : List S_api_Point) (x y : Int) : ∀ m : Nat, m ≤ way.length → Stand m (refF way x y m) (nearF way far x y m) (far * far)
  | 0, _ => ⟨.inl rfl, by show (-1 : Int) < 0; decide, fun h => absurd rfl h, fun _ => .inl (by show (-1 : Int) < 0; decide)⟩
  | m + 1, hm => by
    have ih := near_ref hf way x y m (by omega)
    have hp : way[m]? = some way[m] := List.getElem?_eq_getElem (by omega)
    have er : refF way x y (m + 1) = if (refF way x y m).2 < 0 ∨ dist way[m] x y < (refF way x y m).2 then ((m : Int), dist way[m] x y) else refF way x y m := by
      conv => lhs; unfold refF
      rw [hp]
    have en : nearF way far x y (m + 1) = if inBox far way[m] x y ∧ ((nearF way far x y m).1 < 0 ∨ dist way[m] x y < (nearF way far x y m).2) then ((m : Int), dist way[m] x y) else nearF way far x y m := by
      conv => lhs; unfold nearF
      rw [hp]
    rw [er, en]
    exact near_step ih (dist_nonneg _ _ _) (box_of_dist hf) (by rintro rfl; exact ⟨rfl, rfl⟩)

/-! ### Cells and places -/
theorem cell_div {r : S_api_Region} (h : RegOK r) {x y : Int} (hi : inR r x y) : cellOf r x y / r.W = y - r.Y ∧ cellOf r x y % r.W = x - r.X := by
  unfold cellOf
  obtain ⟨i1, i2, i3, i4⟩ := hi
  have hW := h.w1
  constructor
  · rw [Int.add_comm, Int.add_mul_ediv_right _ _ (by omega), Int.ediv_eq_zero_of_lt (by omega) (by omega)]; omega
  · rw [Int.add_comm, Int.add_mul_emod_self_right, Int.emod_eq_of_lt (by omega) (by omega)]
theorem cell_inj {r : S_api_Region} (h : RegOK r) {x y x' y' : Int} (hi : inR r x y) (hi' : inR r x' y') (e : cellOf r x y = cellOf r x' y') : x = x' ∧ y = y' := by
  have a := cell_div h hi
  have b := cell_div h hi'
  rw [e] at a
  omega
theorem place_of {r : S_api_Region} (h : RegOK r) {k : Int} (h0 : 0 ≤ k) (h1 : k < r.W * r.H) : inR r (r.X + k % r.W) (r.Y + k / r.W) ∧ cellOf r (r.X + k % r.W) (r.Y + k / r.W) = k := by
  have hW := h.w1
  have a := Int.emod_nonneg k (show r.W ≠ 0 by omega)
  have b := Int.emod_lt_of_pos k (show 0 < r.W by omega)
  have c := Int.ediv_nonneg h0 (show 0 ≤ r.W by omega)
  have d : k / r.W < r.H := by rw [Int.ediv_lt_iff_lt_mul (by omega), Int.mul_comm]; exact h1
  have e := Int.mul_ediv_add_emod k r.W
  refine ⟨by unfold inR; omega, ?_⟩
  unfold cellOf
  rw [show r.Y + k / r.W - r.Y = k / r.W by omega, Int.mul_comm]
  omega
theorem Place2_eq {r : S_api_Region} (h : RegOK r) {k : Int} (h0 : 0 ≤ k) (h1 : k < r.W * r.H) : tarnref2_Place_p r k = some (r.X + k % r.W, r.Y + k / r.W) := by
  unfold tarnref2_Place_p
  obtain ⟨⟨i1, i2, i3, i4⟩, _⟩ := place_of h h0 h1
  have hr := h
  obtain ⟨a1, a2, a3, a4, a5, a6, a7, a8, a9⟩ := h
  have g : guardP (r.W != 0) = some () := by unfold guardP; rw [if_pos]; simp; omega
  rw [g, bnd_def, remI_eq h0, quoI_eq h0 (by omega) (by omega), addI_eq (by omega), addI_eq (by omega)]

theorem dist_le {r : S_api_Region} (h : RegOK r) {p : S_api_Point} {x y : Int} (hp : inR r p.X p.Y) (hi : inR r x y) : dist p x y ≤ 524288 ∧ (p.X - x) * (p.X - x) ≤ 262144 ∧ (p.Y - y) * (p.Y - y) ≤ 262144 := by
  unfold dist
  obtain ⟨a1, a2, a3, a4, a5, a6, a7, a8, a9⟩ := h
  obtain ⟨i1, i2, i3, i4⟩ := hi
  obtain ⟨j1, j2, j3, j4⟩ := hp
  have a := mul_bound (a := p.X - x) (A := 512) (b := p.X - x) (B := 512) (by omega) (by omega)
  have b := mul_bound (a := p.Y - y) (A := 512) (b := p.Y - y) (B := 512) (by omega) (by omega)
  omega
/-- The square of a distance, as both reckon it. -/
theorem dist_ref {r : S_api_Region} (h : RegOK r) {p : S_api_Point} {x y : Int} (hp : inR r p.X p.Y) (hi : inR r x y) : addI (mulI (subI p.X x) (subI p.X x)) (mulI (subI p.Y y) (subI p.Y y)) = dist p x y := by
  obtain ⟨d1, d2, d3⟩ := dist_le h hp hi
  have s1 := sq_nonneg (p.X - x)
  have s2 := sq_nonneg (p.Y - y)
  unfold dist at *
  obtain ⟨a1, a2, a3, a4, a5, a6, a7, a8, a9⟩ := h
  obtain ⟨i1, i2, i3, i4⟩ := hi
  obtain ⟨j1, j2, j3, j4⟩ := hp
  rw [subI_eq (a := p.X) (by omega), subI_eq (a := p.Y) (by omega), mulI_eq (by omega), mulI_eq (by omega), addI_eq (by omega)]
theorem dist_prog {r : S_api_Region} (h : RegOK r) {p : S_api_Point} {x y : Int} (hp : inR r p.X p.Y) (hi : inR r x y) : addI (mulI (subI x p.X) (subI x p.X)) (mulI (subI y p.Y) (subI y p.Y)) = dist p x y := by
  obtain ⟨d1, d2, d3⟩ := dist_le h hp hi
  have s1 := sq_nonneg (p.X - x)
  have s2 := sq_nonneg (p.Y - y)
  have e1 : (x - p.X) * (x - p.X) = (p.X - x) * (p.X - x) := by
    rw [show x - p.X = -(p.X - x) by omega, Int.neg_mul_neg]
  have e2 : (y - p.Y) * (y - p.Y) = (p.Y - y) * (p.Y - y) := by
    rw [show y - p.Y = -(p.Y - y) by omega, Int.neg_mul_neg]
  unfold dist at *
  obtain ⟨a1, a2, a3, a4, a5, a6, a7, a8, a9⟩ := h
  obtain ⟨i1, i2, i3, i4⟩ := hi
  obtain ⟨j1, j2, j3, j4⟩ := hp
  rw [subI_eq (a := x) (by omega), subI_eq (a := y) (by omega), mulI_eq (by omega), mulI_eq (by omega), addI_eq (by omega), e1, e2]
end Go.Proofs.Ythibohbaaljnkaa
