/- Own library: what a word of a float format is worth, in units of the least place; order, sums, products, quotients, roots and whole numbers told by that worth. No program in sight. -/
import Derived.Test.YteebpnooijknoaaDoorFlRung
import Derived.Laws.FloatBits
namespace Fl
set_option linter.all false
open Ieee

def sgn (f : Format) (w : Nat) : Bool := w / f.signWeight % 2 == 1
def rg (f : Format) (w : Nat) : Nat := w % f.signWeight
/-- Not a NaN. -/
def NN (f : Format) (w : Nat) : Prop := rg f w ≤ f.infRung
/-- Neither a NaN nor an infinity. -/
def Fin (f : Format) (w : Nat) : Prop := rg f w < f.infRung
theorem Fin.nn {f : Format} {w : Nat} (h : Fin f w) : NN f w := Nat.le_of_lt h
/-- The worth of a rung. -/
def val (f : Format) (r : Nat) : Nat := magOf f r * 2 ^ upOf f r
/-- The worth of a word (an infinity counts as the next rung above all numbers). -/
def V (f : Format) (w : Nat) : Int := if sgn f w then -(val f (rg f w) : Int) else (val f (rg f w) : Int)
def VI (f : Format) : Nat := val f f.infRung

theorem val_le {f : Format} {r s : Nat} : val f r ≤ val f s ↔ r ≤ s := by
  refine Iff.trans ?_ (le_read f)
  rw [le_of_base (b := f.leastPlace) (by omega) (by omega)]
  rw [show (f.leastPlace + (upOf f r : Int) - f.leastPlace).toNat = upOf f r by omega, show (f.leastPlace + (upOf f s : Int) - f.leastPlace).toNat = upOf f s by omega]
  exact Iff.rfl
theorem val_lt {f : Format} {r s : Nat} : val f r < val f s ↔ r < s := by
  have := val_le (f := f) (r := s) (s := r); omega
theorem val_zero (f : Format) : val f 0 = 0 := by
  have : 0 < f.binade := Nat.two_pow_pos _
  unfold val magOf; rw [if_pos this]; simp
theorem val_eq_zero {f : Format} {r : Nat} : val f r = 0 ↔ r = 0 := by
  constructor
  · intro h
    have := val_zero f
    have h2 : val f r ≤ val f 0 := by omega
    have := val_le.1 h2; omega
  · rintro rfl; exact val_zero f

theorem infRung_pos (f : Format) (h : 0 < f.exponentBits) : 0 < f.infRung := by
  unfold Format.infRung Format.binade
  have : 2 ≤ 2 ^ f.exponentBits := by
    calc 2 = 2 ^ 1 := rfl
      _ ≤ 2 ^ f.exponentBits := Nat.pow_le_pow_right (by decide) h
  exact Nat.mul_pos (by omega) (Nat.two_pow_pos _)

theorem fin_iff {f : Format} {w : Nat} : Fin f w ↔ -(VI f : Int) < V f w ∧ V f w < VI f := by
  unfold Fin V VI
  have h := val_lt (f := f) (r := rg f w) (s := f.infRung)
  split <;> constructor <;> intro x <;> (try constructor) <;> omega
theorem nn_iff {f : Format} {w : Nat} : NN f w ↔ -(VI f : Int) ≤ V f w ∧ V f w ≤ VI f := by
  unfold NN V VI
  have h := val_le (f := f) (r := rg f w) (s := f.infRung)
  split <;> constructor <;> intro x <;> (try constructor) <;> omega

theorem sgn_word {f : Format} {s : Bool} {r : Nat} (h : r ≤ f.infRung) : sgn f (f.word s r) = s := by
  have h1 := f.infRung_lt
  have hp : 0 < f.signWeight := Nat.two_pow_pos _
  unfold sgn Format.word
  cases s with
  | true =>
    rw [if_pos rfl, show (f.signWeight + r) / f.signWeight = 1 by
      rw [Nat.add_div_left _ hp, Nat.div_eq_of_lt (by omega)]]
    rfl
  | false => rw [if_neg (by simp), Nat.div_eq_of_lt (by omega)]; rfl
theorem rg_word {f : Format} {s : Bool} {r : Nat} (h : r ≤ f.infRung) : rg f (f.word s r) = r := by
  have h1 := f.infRung_lt
  unfold rg Format.word
  cases s with
  | true => rw [if_pos rfl, Nat.add_mod_left, Nat.mod_eq_of_lt (by omega)]
  | false => rw [if_neg (by simp), Nat.mod_eq_of_lt (by omega)]
theorem word_sgn_rg {f : Format} {w : Nat} (h : w < 2 ^ f.width) : f.word (sgn f w) (rg f w) = w := by
  have hp : 0 < f.signWeight := Nat.two_pow_pos _
  have two : 2 ^ f.width = 2 * f.signWeight := by
    unfold Format.width Format.signWeight
    rw [Nat.add_assoc, Nat.add_comm 1, Nat.pow_succ, Nat.mul_comm]
  have hq : w / f.signWeight < 2 := by rw [Nat.div_lt_iff_lt_mul hp]; omega
  have hd := Nat.div_add_mod w f.signWeight
  unfold sgn rg Format.word
  generalize w / f.signWeight = q at hq hd
  have h01 : q = 0 ∨ q = 1 := by omega
  rcases h01 with h0 | h0 <;> rw [h0] at hd ⊢
  · simp at hd ⊢; omega
  · simp at hd ⊢; omega
theorem V_word {f : Format} {s : Bool} {r : Nat} (h : r ≤ f.infRung) : V f (f.word s r) = if s then -(val f r : Int) else (val f r : Int) := by
  unfold V; rw [sgn_word h, rg_word h]
theorem nn_word {f : Format} {s : Bool} {r : Nat} (h : r ≤ f.infRung) : NN f (f.word s r) := by unfold NN; rw [rg_word h]; exact h

theorem read_fin {f : Format} {w : Nat} (h : Fin f w) : f.read w = .number (sgn f w) (magOf f (rg f w)) (f.leastPlace + upOf f (rg f w)) := by
  unfold Format.read Fin at *
  simp only [show w % f.signWeight = rg f w from rfl]
  by_cases hs : rg f w < f.binade
  · rw [if_pos hs, upOf_small hs]
    unfold magOf; rw [if_pos hs]
    simp [sgn]
  · rw [if_neg hs, if_pos h]
    unfold magOf; rw [if_neg hs]; rfl
theorem read_inf {f : Format} {w : Nat} (he : 0 < f.exponentBits) (h : rg f w = f.infRung) : f.read w = .infinity (sgn f w) := by
  unfold Format.read
  simp only [show w % f.signWeight = rg f w from rfl]
  have h1 : f.binade ≤ f.infRung := by
    unfold Format.infRung
    have : 2 ≤ 2 ^ f.exponentBits := by
      calc 2 = 2 ^ 1 := rfl
        _ ≤ 2 ^ f.exponentBits := Nat.pow_le_pow_right (by decide) he
    exact Nat.le_mul_of_pos_left _ (by omega)
  rw [if_neg (by omega), if_neg (by omega), if_pos h]; rfl
theorem read_nan {f : Format} {w : Nat} (he : 0 < f.exponentBits) (h : ¬ NN f w) : f.read w = .nan (sgn f w) (rg f w - f.infRung) := by
  unfold Format.read
  unfold NN at h
  simp only [show w % f.signWeight = rg f w from rfl]
  have h1 : f.binade ≤ f.infRung := by
    unfold Format.infRung
    have : 2 ≤ 2 ^ f.exponentBits := by
      calc 2 = 2 ^ 1 := rfl
        _ ≤ 2 ^ f.exponentBits := Nat.pow_le_pow_right (by decide) he
    exact Nat.le_mul_of_pos_left _ (by omega)
  rw [if_neg (by omega), if_neg (by omega), if_neg (by omega)]; rfl

/-! ### Order -/
theorem compare_congr {a b c d : Int} (h1 : a ≤ b ↔ c ≤ d) (h2 : b ≤ a ↔ d ≤ c) : compare a b = compare c d := by
  rcases Int.lt_trichotomy a b with x | x | x
  · rw [Int.compare_eq_lt.2 x, Int.compare_eq_lt.2 (by omega)]
  · rw [Int.compare_eq_eq.2 x, Int.compare_eq_eq.2 (by omega)]
  · rw [Int.compare_eq_gt.2 x, Int.compare_eq_gt.2 (by omega)]

theorem signed_V {f : Format} {w : Nat} {b : Int} (hb : b ≤ f.leastPlace + upOf f (rg f w)) (hl : f.leastPlace ≤ b) : signed (sgn f w) (magOf f (rg f w)) (f.leastPlace + upOf f (rg f w) - b).toNat * 2 ^ (b - f.leastPlace).toNat = V f w := by
  unfold signed V val
  rw [Nat.shiftLeft_eq]
  have e : magOf f (rg f w) * 2 ^ (f.leastPlace + (upOf f (rg f w) : Int) - b).toNat * 2 ^ (b - f.leastPlace).toNat = magOf f (rg f w) * 2 ^ upOf f (rg f w) := by
    rw [Nat.mul_assoc, ← Nat.pow_add]; congr 2; omega
  have e' : ((magOf f (rg f w) * 2 ^ (f.leastPlace + (upOf f (rg f w) : Int) - b).toNat : Nat) : Int) * 2 ^ (b - f.leastPlace).toNat = ((magOf f (rg f w) * 2 ^ upOf f (rg f w) : Nat) : Int) := by
    rw [← e]; rw [Int.natCast_mul _ (2 ^ _), Int.natCast_pow]; rfl
  split
  · rw [Int.neg_mul, e']
  · exact e'

theorem order_eq {f : Format} (he : 0 < f.exponentBits) {x y : Nat} (hx : NN f x) (hy : NN f y) : f.order x y = some (compare (V f x) (V f y)) := by
  unfold Format.order
  have fi : ∀ w, NN f w → Fin f w ∨ rg f w = f.infRung := fun w h => by unfold NN at h; unfold Fin; omega
  have hvi : ∀ w, rg f w = f.infRung → V f w = if sgn f w then -(VI f : Int) else (VI f : Int) := fun w h => by unfold V VI; rw [h]
  have hpos : (0 : Int) < VI f := by
    have : ¬ VI f = 0 := by unfold VI; rw [val_eq_zero]; have := infRung_pos f he; omega
    omega
  rcases fi x hx with fx | fx <;> rcases fi y hy with fy | fy
  · rw [read_fin fx, read_fin fy]
    simp only [Datum.order]
    congr 1
    generalize hb : min (f.leastPlace + (upOf f (rg f x) : Int)) (f.leastPlace + (upOf f (rg f y) : Int)) = b
    have h1 := signed_V (f := f) (w := x) (b := b) (by omega) (by omega)
    have h2 := signed_V (f := f) (w := y) (b := b) (by omega) (by omega)
    rw [← h1, ← h2]
    have hp : (0 : Int) < 2 ^ (b - f.leastPlace).toNat := Int.pow_pos (by decide)
    exact compare_congr ⟨fun h => Int.mul_le_mul_of_nonneg_right h (Int.le_of_lt hp), fun h => Int.le_of_mul_le_mul_right h hp⟩ ⟨fun h => Int.mul_le_mul_of_nonneg_right h (Int.le_of_lt hp), fun h => Int.le_of_mul_le_mul_right h hp⟩
  · rw [read_fin fx, read_inf he fy]
    simp only [Datum.order]
    have := fin_iff.1 fx
    rw [hvi y fy]
    cases sgn f y with
    | true => simp only [if_true]; congr 1; exact ((Int.compare_eq_gt).2 (by omega)).symm
    | false => simp only [Bool.false_eq_true, if_false]; congr 1; exact ((Int.compare_eq_lt).2 (by omega)).symm
  · rw [read_inf he fx, read_fin fy]
    simp only [Datum.order]
    have := fin_iff.1 fy
    rw [hvi x fx]
    cases sgn f x with
    | true => simp only [if_true]; congr 1; exact ((Int.compare_eq_lt).2 (by omega)).symm
    | false => simp only [Bool.false_eq_true, if_false]; congr 1; exact ((Int.compare_eq_gt).2 (by omega)).symm
  · rw [read_inf he fx, read_inf he fy]
    simp only [Datum.order]
    rw [hvi x fx, hvi y fy]
    cases sgn f x <;> cases sgn f y <;> simp only [Bool.toNat, cond_true, cond_false, if_true, Bool.false_eq_true, if_false] <;> congr 1
    · exact ((Int.compare_eq_eq).2 rfl).symm
    · exact ((Int.compare_eq_gt).2 (by omega)).symm
    · exact ((Int.compare_eq_lt).2 (by omega)).symm
    · exact ((Int.compare_eq_eq).2 rfl).symm
theorem order_nan {f : Format} (he : 0 < f.exponentBits) {x y : Nat} (h : ¬ NN f x ∨ ¬ NN f y) : f.order x y = none := by
  unfold Format.order
  by_cases hx : NN f x
  · have hy := h.resolve_left (fun h => h hx)
    rw [read_nan he hy]
    have fi : Fin f x ∨ rg f x = f.infRung := by unfold NN at hx; unfold Fin; omega
    rcases fi with fx | fx
    · rw [read_fin fx]; rfl
    · rw [read_inf he fx]; rfl
  · rw [read_nan he hx]; rfl

/-! ### Rounding -/
/-- A word of the format, no NaN, is worth this. -/
def Rep (f : Format) (t : Int) : Prop := ∃ r, r ≤ f.infRung ∧ (t = val f r ∨ t = -(val f r : Int))
theorem rep_V {f : Format} {w : Nat} (h : NN f w) : Rep f (V f w) := by
  refine ⟨rg f w, h, ?_⟩
  unfold V; split
  · exact .inr rfl
  · exact .inl rfl
theorem rep_zero (f : Format) : Rep f 0 := ⟨0, Nat.zero_le _, .inl (by rw [val_zero]; rfl)⟩
theorem rep_neg {f : Format} {t : Int} (h : Rep f t) : Rep f (-t) := by
  obtain ⟨r, hr, h⟩ := h
  exact ⟨r, hr, by omega⟩
theorem rep_inf (f : Format) : Rep f (VI f) := ⟨f.infRung, Nat.le_refl _, .inl rfl⟩

theorem le_val {f : Format} {n : Nat} {i : Int} {r : Nat} : Le n i (magOf f r) (f.leastPlace + upOf f r) ↔ Le n i (val f r) f.leastPlace := by
  unfold val
  constructor
  · intro h; exact h.trans (Le.shift' _ _ _)
  · intro h; exact h.trans (Le.shift _ _ _)
theorem val_le_num {f : Format} {n : Nat} {i : Int} {r : Nat} : Le (magOf f r) (f.leastPlace + upOf f r) n i ↔ Le (val f r) f.leastPlace n i := by
  unfold val
  constructor
  · intro h; exact (Le.shift _ _ _).trans h
  · intro h; exact (Le.shift' _ _ _).trans h

theorem rung_ub {f : Format} {n : Nat} {i : Int} {r : Nat} (hr : r ≤ f.infRung) (h : Le n i (val f r) f.leastPlace) : rung f n i ≤ r := by
  have := rung_mono f (le_val.2 h)
  rwa [rung_read f hr] at this
theorem rung_lb {f : Format} {n : Nat} {i : Int} {r : Nat} (hr : r ≤ f.infRung) (h : Le (val f r) f.leastPlace n i) : r ≤ rung f n i := by
  have := rung_mono f (val_le_num.2 h)
  rwa [rung_read f hr] at this

/-- 'n * 2 ^ i', with a sign, against 't' units of the least place. -/
def LeV (f : Format) (s : Bool) (n : Nat) (i : Int) (t : Int) : Prop := if s then (0 ≤ t ∨ Le (-t).toNat f.leastPlace n i) else (0 ≤ t ∧ Le n i t.toNat f.leastPlace)
def GeV (f : Format) (s : Bool) (n : Nat) (i : Int) (t : Int) : Prop := LeV f (!s) n i (-t)

theorem rung_le (f : Format) (n : Nat) (i : Int) : rung f n i ≤ f.infRung := by unfold rung; omega
theorem nearest_nn (f : Format) (s : Bool) (n : Nat) (i : Int) : NN f (f.nearest s n i) := by
  rw [nearest_eq]; exact nn_word (rung_le f n i)
theorem V_nearest (f : Format) (s : Bool) (n : Nat) (i : Int) : V f (f.nearest s n i) = if s then -(val f (rung f n i) : Int) else (val f (rung f n i) : Int) := by
  rw [nearest_eq, V_word (rung_le f n i)]
theorem nearest_ub {f : Format} {s : Bool} {n : Nat} {i : Int} {t : Int} (ht : Rep f t) (h : LeV f s n i t) : V f (f.nearest s n i) ≤ t := by
  rw [V_nearest]
  obtain ⟨r, hr, ht⟩ := ht
  unfold LeV at h
  cases s with
  | true =>
    simp only [if_true] at h ⊢
    rcases h with h | h
    · omega
    · rcases ht with rfl | rfl
      · omega
      · rw [Int.neg_neg, Int.toNat_natCast] at h
        have := val_le (f := f).2 (rung_lb hr h)
        omega
  | false =>
    simp only [Bool.false_eq_true, if_false] at h ⊢
    obtain ⟨h0, h⟩ := h
    rcases ht with rfl | rfl
    · rw [Int.toNat_natCast] at h
      have := val_le (f := f).2 (rung_ub hr h)
      omega
    · have h1 : val f r = 0 := by omega
      rw [h1] at h ⊢
      have hr0 : r = 0 := val_eq_zero.1 h1
      have h2 : rung f n i ≤ 0 := rung_ub (f := f) (Nat.zero_le _) (by rw [val_zero]; exact h)
      have h3 : rung f n i = 0 := by omega
      rw [h3, val_zero]; decide
theorem nearest_lb {f : Format} {s : Bool} {n : Nat} {i : Int} {t : Int} (ht : Rep f t) (h : GeV f s n i t) : t ≤ V f (f.nearest s n i) := by
  have := nearest_ub (rep_neg ht) h
  rw [V_nearest] at this ⊢
  cases s <;> simp at this ⊢ <;> omega
end Fl
