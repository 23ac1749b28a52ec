/- Own library: sums, products, quotients, roots, whole numbers and conversions of floats, told by what the words are worth. No program in sight. -/
import Derived.Test.YteebpnooijknoaaDoorFlVal
namespace Fl
set_option linter.all false
open Ieee

theorem mul_pow_le {a b : Int} (k : Nat) : a * 2 ^ k ≤ b * 2 ^ k ↔ a ≤ b := by
  have hp : (0 : Int) < 2 ^ k := Int.pow_pos (by decide)
  exact ⟨fun h => Int.le_of_mul_le_mul_right h hp, fun h => Int.mul_le_mul_of_nonneg_right h (Int.le_of_lt hp)⟩

theorem leV_of {f : Format} {s : Bool} {n : Nat} {i b t : Int} (h1 : b ≤ i) (h2 : b ≤ f.leastPlace) (h : (if s then -(n : Int) else (n : Int)) * 2 ^ (i - b).toNat ≤ t * 2 ^ (f.leastPlace - b).toNat) : LeV f s n i t := by
  have hp : (0 : Int) < 2 ^ (i - b).toNat := Int.pow_pos (by decide)
  have hq : (0 : Int) < 2 ^ (f.leastPlace - b).toNat := Int.pow_pos (by decide)
  unfold LeV
  cases s with
  | true =>
    simp only [if_true] at h ⊢
    rcases Int.lt_or_le t 0 with ht | ht
    · right
      rw [le_of_base h2 h1]
      have e : (((-t).toNat * 2 ^ (f.leastPlace - b).toNat : Nat) : Int) ≤ ((n * 2 ^ (i - b).toNat : Nat) : Int) := by
        rw [Int.natCast_mul, Int.natCast_mul, Int.natCast_pow, Int.natCast_pow, Int.toNat_of_nonneg (by omega)]
        rw [Int.neg_mul] at h ⊢
        have c2 : ((2 : Nat) : Int) = 2 := rfl
        rw [c2]; omega
      exact_mod_cast e
    · exact .inl ht
  | false =>
    simp only [Bool.false_eq_true, if_false] at h ⊢
    have ht : 0 ≤ t := by
      rcases Int.lt_or_le t 0 with ht | ht
      · have h3 : t * 2 ^ (f.leastPlace - b).toNat < 0 := Int.mul_neg_of_neg_of_pos ht hq
        have h4 : 0 ≤ (n : Int) * 2 ^ (i - b).toNat := Int.mul_nonneg (by omega) (Int.le_of_lt hp)
        omega
      · exact ht
    refine ⟨ht, ?_⟩
    rw [le_of_base h1 h2]
    have e : ((n * 2 ^ (i - b).toNat : Nat) : Int) ≤ ((t.toNat * 2 ^ (f.leastPlace - b).toNat : Nat) : Int) := by
      rw [Int.natCast_mul, Int.natCast_mul, Int.natCast_pow, Int.natCast_pow, Int.toNat_of_nonneg ht]
      exact h
    exact_mod_cast e
theorem geV_of {f : Format} {s : Bool} {n : Nat} {i b t : Int} (h1 : b ≤ i) (h2 : b ≤ f.leastPlace) (h : t * 2 ^ (f.leastPlace - b).toNat ≤ (if s then -(n : Int) else (n : Int)) * 2 ^ (i - b).toNat) : GeV f s n i t := by
  unfold GeV
  refine leV_of h1 h2 ?_
  rw [Int.neg_mul]
  cases s
  · simp only [Bool.not_false, if_true, Bool.false_eq_true, if_false, Int.neg_mul] at h ⊢; omega
  · simp only [Bool.not_true, if_true, Bool.false_eq_true, if_false, Int.neg_mul] at h ⊢; omega

/-- A result's worth: the exact worth 'e / k' rounded. -/
def Rnd (f : Format) (z : Nat) (e k : Int) : Prop := NN f z ∧ ∀ t, Rep f t → (e ≤ t * k → V f z ≤ t) ∧ (t * k ≤ e → t ≤ V f z)

theorem rnd_nearest {f : Format} {s : Bool} {n : Nat} {i b : Int} (h1 : b ≤ i) (h2 : b ≤ f.leastPlace) : Rnd f (f.nearest s n i) ((if s then -(n : Int) else (n : Int)) * 2 ^ (i - b).toNat) (2 ^ (f.leastPlace - b).toNat) :=
  ⟨nearest_nn _ _ _ _, fun _ ht => ⟨fun h => nearest_ub ht (leV_of h1 h2 h), fun h => nearest_lb ht (geV_of h1 h2 h)⟩⟩


theorem rnd_scale {f : Format} {z : Nat} {e k c : Int} (hc : 0 < c) (h : Rnd f z (e * c) (k * c)) : Rnd f z e k := by
  refine ⟨h.1, fun t ht => ⟨fun h1 => (h.2 t ht).1 ?_, fun h1 => (h.2 t ht).2 ?_⟩⟩
  · rw [← Int.mul_assoc]; exact Int.mul_le_mul_of_nonneg_right h1 (Int.le_of_lt hc)
  · rw [← Int.mul_assoc]; exact Int.mul_le_mul_of_nonneg_right h1 (Int.le_of_lt hc)

theorem V_signed (f : Format) (w : Nat) : V f w = (if sgn f w then -(magOf f (rg f w) : Int) else (magOf f (rg f w) : Int)) * 2 ^ upOf f (rg f w) := by
  unfold V val
  have : ((magOf f (rg f w) * 2 ^ upOf f (rg f w) : Nat) : Int) = (magOf f (rg f w) : Int) * 2 ^ upOf f (rg f w) := by rw [Int.natCast_mul, Int.natCast_pow]; rfl
  rw [this]
  split
  · rw [Int.neg_mul]
  · rfl

theorem sum_rnd {f : Format} {s t : Bool} {m n : Nat} {i j : Int} (hi : f.leastPlace ≤ i) (hj : f.leastPlace ≤ j) :
    ∃ d, Datum.sum (.number s m i) (.number t n j) = some d ∧ Rnd f (f.write d) ((if s then -(m : Int) else (m : Int)) * 2 ^ (i - f.leastPlace).toNat + (if t then -(n : Int) else (n : Int)) * 2 ^ (j - f.leastPlace).toNat) 1 := by
  simp only [Datum.sum]
  refine ⟨_, rfl, ?_⟩
  generalize hb : min i j = b
  have key : ∀ (s : Bool) (m : Nat) (i : Int), b ≤ i → signed s m (i - b).toNat * 2 ^ (b - f.leastPlace).toNat = (if s then -(m : Int) else (m : Int)) * 2 ^ (i - f.leastPlace).toNat := by
    intro s m i h
    unfold signed
    rw [Nat.shiftLeft_eq, Int.natCast_mul, Int.natCast_pow]
    have e : (2 : Int) ^ (i - f.leastPlace).toNat = 2 ^ (i - b).toNat * 2 ^ (b - f.leastPlace).toNat := by
      rw [← Int.pow_add]; congr 1; omega
    rw [e]
    have c2 : ((2 : Nat) : Int) = 2 := rfl
    rw [c2]
    split
    · simp only [Int.neg_mul, Int.mul_assoc]
    · rw [← Int.mul_assoc]
  have e1 := key s m i (by omega)
  have e2 := key t n j (by omega)
  rw [← e1, ← e2, ← Int.add_mul]
  generalize signed s m (i - b).toNat + signed t n (j - b).toNat = total
  have h := rnd_nearest (f := f) (s := if total = 0 then s && t else decide (total < 0)) (n := total.natAbs) (i := b) (b := f.leastPlace) (by omega) (by omega)
  have e3 : (if (if total = 0 then s && t else decide (total < 0)) = true then -(total.natAbs : Int) else (total.natAbs : Int)) = total := by
    by_cases h0 : total = 0
    · subst h0; cases s <;> cases t <;> rfl
    · rw [if_neg h0]
      by_cases hn : total < 0
      · rw [if_pos (by simpa using hn)]; omega
      · rw [if_neg (by simpa using hn)]; omega
  rw [e3] at h
  simpa [Format.write] using h

theorem up_place (f : Format) (r : Nat) : (f.leastPlace + (upOf f r : Int) - f.leastPlace).toNat = upOf f r := by omega

theorem add_rnd {f : Format} {x y : Nat} (hx : Fin f x) (hy : Fin f y) : ∃ z, f.add x y = some z ∧ Rnd f z (V f x + V f y) 1 := by
  unfold Format.add
  rw [read_fin hx, read_fin hy, V_signed, V_signed]
  obtain ⟨d, h1, h2⟩ := sum_rnd (f := f) (s := sgn f x) (t := sgn f y) (m := magOf f (rg f x)) (n := magOf f (rg f y)) (i := f.leastPlace + (upOf f (rg f x) : Int)) (j := f.leastPlace + (upOf f (rg f y) : Int)) (by omega) (by omega)
  rw [h1]
  rw [up_place, up_place] at h2
  exact ⟨_, rfl, h2⟩
theorem sub_rnd {f : Format} {x y : Nat} (hx : Fin f x) (hy : Fin f y) : ∃ z, f.sub x y = some z ∧ Rnd f z (V f x - V f y) 1 := by
  unfold Format.sub
  rw [read_fin hx, read_fin hy, V_signed, V_signed]
  obtain ⟨d, h1, h2⟩ := sum_rnd (f := f) (s := sgn f x) (t := !sgn f y) (m := magOf f (rg f x)) (n := magOf f (rg f y)) (i := f.leastPlace + (upOf f (rg f x) : Int)) (j := f.leastPlace + (upOf f (rg f y) : Int)) (by omega) (by omega)
  simp only [Datum.opposite]
  rw [h1]
  rw [up_place, up_place] at h2
  refine ⟨_, rfl, ?_⟩
  have e : (if (!sgn f y) = true then -(magOf f (rg f y) : Int) else (magOf f (rg f y) : Int)) = -(if sgn f y = true then -(magOf f (rg f y) : Int) else (magOf f (rg f y) : Int)) := by cases sgn f y <;> simp
  rw [e, Int.neg_mul] at h2
  exact h2

/-- Units to one. -/
def U (f : Format) : Int := 2 ^ (-f.leastPlace).toNat
theorem U_pos (f : Format) : 0 < U f := Int.pow_pos (by decide)

theorem mul_rnd {f : Format} (hL : f.leastPlace ≤ 0) {x y : Nat} (hx : Fin f x) (hy : Fin f y) : ∃ z, f.mul x y = some z ∧ Rnd f z (V f x * V f y) (U f) := by
  unfold Format.mul
  rw [read_fin hx, read_fin hy, V_signed, V_signed]
  simp only [Datum.product, Option.map_some]
  refine ⟨_, rfl, ?_⟩
  have h := rnd_nearest (f := f) (s := sgn f x ^^ sgn f y) (n := magOf f (rg f x) * magOf f (rg f y)) (i := f.leastPlace + (upOf f (rg f x) : Int) + (f.leastPlace + (upOf f (rg f y) : Int))) (b := 2 * f.leastPlace) (by omega) (by omega)
  simp only [Format.write]
  have e1 : (f.leastPlace + (upOf f (rg f x) : Int) + (f.leastPlace + (upOf f (rg f y) : Int)) - 2 * f.leastPlace).toNat = upOf f (rg f x) + upOf f (rg f y) := by omega
  have e2 : (f.leastPlace - 2 * f.leastPlace).toNat = (-f.leastPlace).toNat := by omega
  rw [e1, e2] at h
  have e3 : (if (sgn f x ^^ sgn f y) = true then -((magOf f (rg f x) * magOf f (rg f y) : Nat) : Int) else ((magOf f (rg f x) * magOf f (rg f y) : Nat) : Int)) = (if sgn f x then -(magOf f (rg f x) : Int) else (magOf f (rg f x) : Int)) * (if sgn f y then -(magOf f (rg f y) : Int) else (magOf f (rg f y) : Int)) := by
    rw [Int.natCast_mul]
    cases sgn f x <;> cases sgn f y <;> simp [Int.neg_mul, Int.mul_neg]
  rw [e3, Int.pow_add] at h
  have e4 : ∀ a b c d : Int, a * b * (c * d) = a * c * (b * d) := fun a b c d => by rw [Int.mul_assoc, Int.mul_assoc, Int.mul_left_comm b]
  rw [e4] at h
  exact h

theorem int_rnd {f : Format} (hL : f.leastPlace ≤ 0) (n : Int) : Rnd f (f.nearest (n < 0) n.natAbs 0) (n * U f) 1 := by
  have h := rnd_nearest (f := f) (s := decide (n < 0)) (n := n.natAbs) (i := 0) (b := f.leastPlace) hL (by omega)
  have e : (if decide (n < 0) = true then -(n.natAbs : Int) else (n.natAbs : Int)) = n := by
    by_cases hn : n < 0
    · rw [if_pos (by simpa using hn)]; omega
    · rw [if_neg (by simpa using hn)]; omega
  rw [e] at h
  simp only [Int.sub_self, Int.toNat_zero, Int.pow_zero] at h
  rw [show (0 - f.leastPlace).toNat = (-f.leastPlace).toNat by omega] at h
  exact h

/-! ### Quotients -/
theorem magOf_lt (f : Format) (r : Nat) : magOf f r < 2 ^ (f.fractionBits + 1) := by
  have hB : 0 < f.binade := Nat.two_pow_pos _
  have hm : r % f.binade < f.binade := Nat.mod_lt _ hB
  have e : 2 ^ (f.fractionBits + 1) = 2 * f.binade := by unfold Format.binade; rw [Nat.pow_succ, Nat.mul_comm]
  unfold magOf; split <;> omega

/-- A number in whole units that are as fine as the format's own, and one bit below for what is left over, stands to the format's words as the exact number does. -/
theorem sticky_le {f : Format} {fl st : Nat} {p : Int} {r : Nat} (hst : st ≤ 1) (hbig : 2 ^ (f.fractionBits + 1) ≤ fl)
    (h : ∀ K : Nat, p ≤ f.leastPlace + upOf f r → K = magOf f r * 2 ^ (f.leastPlace + upOf f r - p).toNat → 2 * fl + st ≤ 2 * K)
    (hc : f.leastPlace + (upOf f r : Int) < p → False) : Le (2 * fl + st) (p - 1) (val f r) f.leastPlace := by
  rw [← le_val]
  rcases Int.lt_or_le (f.leastPlace + (upOf f r : Int)) p with hp | hp
  · exact (hc hp).elim
  · have h1 := h _ hp rfl
    rw [le_of_base (b := p - 1) (by omega) (by omega)]
    rw [show (p - 1 - (p - 1)).toNat = 0 by omega, Nat.pow_zero, Nat.mul_one]
    have e : (f.leastPlace + (upOf f r : Int) - (p - 1)).toNat = (f.leastPlace + (upOf f r : Int) - p).toNat + 1 := by omega
    rw [e, Nat.pow_succ, ← Nat.mul_assoc]
    omega
theorem le_sticky {f : Format} {fl st : Nat} {p : Int} {r : Nat} (hbig : 2 ^ (f.fractionBits + 1) ≤ fl)
    (h : ∀ K : Nat, p ≤ f.leastPlace + upOf f r → K = magOf f r * 2 ^ (f.leastPlace + upOf f r - p).toNat → K ≤ fl) : Le (val f r) f.leastPlace (2 * fl + st) (p - 1) := by
  rw [← val_le_num]
  rcases Int.lt_or_le (f.leastPlace + (upOf f r : Int)) p with hp | hp
  · have h1 := magOf_lt f r
    rw [le_of_base (b := f.leastPlace + (upOf f r : Int)) (by omega) (by omega)]
    rw [Int.sub_self, Int.toNat_zero, Nat.pow_zero, Nat.mul_one]
    have : 2 * fl + st ≤ (2 * fl + st) * 2 ^ (p - 1 - (f.leastPlace + (upOf f r : Int))).toNat := Nat.le_mul_of_pos_right _ (Nat.two_pow_pos _)
    omega
  · have h1 := h _ hp rfl
    rw [le_of_base (b := p - 1) (by omega) (by omega)]
    rw [show (p - 1 - (p - 1)).toNat = 0 by omega, Nat.pow_zero, Nat.mul_one]
    have e : (f.leastPlace + (upOf f r : Int) - (p - 1)).toNat = (f.leastPlace + (upOf f r : Int) - p).toNat + 1 := by omega
    rw [e, Nat.pow_succ, ← Nat.mul_assoc]
    omega
theorem quo_big {m n d more : Nat} (hm : m ≠ 0) (hn : n ≠ 0) (hd : 1 ≤ d) (h : more = d + n.log2 - m.log2) : 2 ^ (d - 1) ≤ m * 2 ^ more / n := by
  rw [Nat.le_div_iff_mul_le (by omega)]
  have h1 := Nat.log2_self_le hm
  have h2 : n < 2 ^ (n.log2 + 1) := Nat.lt_log2_self
  have h3 : 2 ^ m.log2 * 2 ^ more ≤ m * 2 ^ more := Nat.mul_le_mul_right _ h1
  refine Nat.le_trans ?_ h3
  refine Nat.le_trans (Nat.mul_le_mul_left _ (Nat.le_of_lt h2)) ?_
  rw [← Nat.pow_add, ← Nat.pow_add]
  exact Nat.pow_le_pow_right (by decide) (by omega)

def stick (b : Bool) : Nat := b.toNat
theorem quo_ub {f : Format} {m n more : Nat} {i j : Int} {r : Nat} (hm : m ≠ 0) (hn : n ≠ 0) (hmore : more = f.fractionBits + 2 + n.log2 - m.log2) (h : Le m i (val f r * n) (f.leastPlace + j)) :
    Le (2 * ((m <<< more) / n) + ((m <<< more) % n != 0).toNat) (i - j - more - 1) (val f r) f.leastPlace := by
  rw [Nat.shiftLeft_eq]
  have hbig := quo_big hm hn (by omega) hmore
  rw [show f.fractionBits + 2 - 1 = f.fractionBits + 1 by omega] at hbig
  have hst : (m * 2 ^ more % n != 0).toNat ≤ 1 := by cases (m * 2 ^ more % n != 0) <;> decide
  have h' : Le m i (magOf f r * n) (f.leastPlace + upOf f r + j) := by
    refine h.trans ?_
    unfold val
    rw [Nat.mul_right_comm, show f.leastPlace + (upOf f r : Int) + j = f.leastPlace + j + upOf f r by omega]
    exact Le.shift _ _ _
  refine sticky_le hst hbig ?_ ?_
  · intro K hp hK
    have h2 : m * 2 ^ more ≤ K * n := by
      rw [le_of_base (b := i - more) (by omega) (by omega)] at h'
      rw [show (i - (i - (more : Int))).toNat = more by omega, show (f.leastPlace + (upOf f r : Int) + j - (i - (more : Int))).toNat = (f.leastPlace + (upOf f r : Int) - (i - j - more)).toNat by omega] at h'
      rw [hK, Nat.mul_right_comm]; exact h'
    have hd := Nat.div_add_mod (m * 2 ^ more) n
    by_cases h0 : m * 2 ^ more % n = 0
    · have : m * 2 ^ more / n ≤ K := Nat.div_le_of_le_mul (by rw [Nat.mul_comm n K]; exact h2)
      simp [h0]; omega
    · have : m * 2 ^ more / n < K := by
        rw [Nat.div_lt_iff_lt_mul (by omega)]
        rcases Nat.lt_or_eq_of_le h2 with h3 | h3
        · exact h3
        · rw [h3, Nat.mul_mod_left] at h0; exact absurd rfl h0
      omega
  · intro hp
    have hl := magOf_lt f r
    have h3 := Nat.div_mul_le_self (m * 2 ^ more) n
    have h4 : 2 ^ (f.fractionBits + 1) * n ≤ m * 2 ^ more := Nat.le_trans (Nat.mul_le_mul_right n hbig) h3
    have h5 : magOf f r * n < 2 ^ (f.fractionBits + 1) * n := Nat.mul_lt_mul_of_pos_right hl (by omega)
    rw [le_of_base (b := min (i - more) (f.leastPlace + upOf f r + j)) (by omega) (by omega)] at h'
    have e : (i - min (i - more) (f.leastPlace + (upOf f r : Int) + j)).toNat = more + (i - more - (f.leastPlace + (upOf f r : Int) + j)).toNat := by omega
    rw [e, Nat.pow_add, ← Nat.mul_assoc] at h'
    rw [show (f.leastPlace + (upOf f r : Int) + j - min (i - more) (f.leastPlace + (upOf f r : Int) + j)).toNat = 0 by omega, Nat.pow_zero, Nat.mul_one] at h'
    have : m * 2 ^ more ≤ m * 2 ^ more * 2 ^ (i - more - (f.leastPlace + (upOf f r : Int) + j)).toNat := Nat.le_mul_of_pos_right _ (Nat.two_pow_pos _)
    omega
theorem quo_lb {f : Format} {m n more : Nat} {i j : Int} {r : Nat} (hm : m ≠ 0) (hn : n ≠ 0) (hmore : more = f.fractionBits + 2 + n.log2 - m.log2) (h : Le (val f r * n) (f.leastPlace + j) m i) :
    Le (val f r) f.leastPlace (2 * ((m <<< more) / n) + ((m <<< more) % n != 0).toNat) (i - j - more - 1) := by
  rw [Nat.shiftLeft_eq]
  have hbig := quo_big hm hn (by omega) hmore
  rw [show f.fractionBits + 2 - 1 = f.fractionBits + 1 by omega] at hbig
  have h' : Le (magOf f r * n) (f.leastPlace + upOf f r + j) m i := by
    refine Le.trans ?_ h
    unfold val
    rw [Nat.mul_right_comm, show f.leastPlace + (upOf f r : Int) + j = f.leastPlace + j + upOf f r by omega]
    exact Le.shift' _ _ _
  refine le_sticky hbig ?_
  intro K hp hK
  rw [Nat.le_div_iff_mul_le (by omega)]
  rw [le_of_base (b := i - more) (by omega) (by omega)] at h'
  rw [show (i - (i - (more : Int))).toNat = more by omega, show (f.leastPlace + (upOf f r : Int) + j - (i - (more : Int))).toNat = (f.leastPlace + (upOf f r : Int) - (i - j - more)).toNat by omega] at h'
  rw [hK, Nat.mul_right_comm]; exact h'

theorem quoV {f : Format} (hL : f.leastPlace ≤ 0) {s : Bool} {m n a c more : Nat} {t : Int} (ht : Rep f t) (hn : n ≠ 0) (hmore : more = f.fractionBits + 2 + n.log2 - m.log2)
    (h : (if s then -((m * 2 ^ a : Nat) : Int) else ((m * 2 ^ a : Nat) : Int)) * U f ≤ t * ((n * 2 ^ c : Nat) : Int)) :
    LeV f s (2 * ((m <<< more) / n) + ((m <<< more) % n != 0).toNat) (f.leastPlace + a - (f.leastPlace + c) - more - 1) t := by
  have hu := U_pos f
  have hU : U f = ((2 ^ (-f.leastPlace).toNat : Nat) : Int) := by unfold U; rw [Int.natCast_pow]; rfl
  have hnc : (0 : Int) < ((n * 2 ^ c : Nat) : Int) := by
    have : 0 < n * 2 ^ c := Nat.mul_pos (by omega) (Nat.two_pow_pos _)
    omega
  have hma : 0 ≤ ((m * 2 ^ a : Nat) : Int) * U f := Int.mul_nonneg (by omega) (by omega)
  unfold LeV
  by_cases h0 : m = 0
  · subst h0
    have ht0 : 0 ≤ t := by
      rcases Int.lt_or_le t 0 with h1 | h1
      · have h2 := Int.mul_neg_of_neg_of_pos h1 hnc
        have h3 : (if s = true then -((0 * 2 ^ a : Nat) : Int) else ((0 * 2 ^ a : Nat) : Int)) * U f = 0 := by rw [Nat.zero_mul]; cases s <;> simp
        omega
      · exact h1
    cases s with
    | true => exact .inl ht0
    | false =>
      refine ⟨ht0, ?_⟩
      simp [Le, Nat.zero_shiftLeft]
  have hj : (m : Nat) * 2 ^ a * 2 ^ (-f.leastPlace).toNat = m * 2 ^ (a + (-f.leastPlace).toNat) := by rw [Nat.pow_add, Nat.mul_assoc]
  have up : ∀ r : Nat, (((m * 2 ^ a : Nat) : Int) * U f ≤ (val f r : Int) * ((n * 2 ^ c : Nat) : Int)) → Le m (f.leastPlace + a) (val f r * n) (f.leastPlace + (f.leastPlace + c)) := by
    intro r hr
    rw [hU, ← Int.natCast_mul, ← Int.natCast_mul] at hr
    have hr' := Int.ofNat_le.1 hr
    rw [le_of_base (b := 2 * f.leastPlace) (by omega) (by omega)]
    rw [show (f.leastPlace + (a : Int) - 2 * f.leastPlace).toNat = a + (-f.leastPlace).toNat by omega, show (f.leastPlace + (f.leastPlace + (c : Int)) - 2 * f.leastPlace).toNat = c by omega]
    rw [← hj, Nat.mul_assoc (val f r)]; exact hr'
  have lo : ∀ r : Nat, ((val f r : Int) * ((n * 2 ^ c : Nat) : Int) ≤ ((m * 2 ^ a : Nat) : Int) * U f) → Le (val f r * n) (f.leastPlace + (f.leastPlace + c)) m (f.leastPlace + a) := by
    intro r hr
    rw [hU, ← Int.natCast_mul, ← Int.natCast_mul] at hr
    have hr' := Int.ofNat_le.1 hr
    rw [le_of_base (b := 2 * f.leastPlace) (by omega) (by omega)]
    rw [show (f.leastPlace + (a : Int) - 2 * f.leastPlace).toNat = a + (-f.leastPlace).toNat by omega, show (f.leastPlace + (f.leastPlace + (c : Int)) - 2 * f.leastPlace).toNat = c by omega]
    rw [← hj, Nat.mul_assoc (val f r)]; exact hr'
  obtain ⟨r, hr, ht⟩ := ht
  cases s with
  | true =>
    simp only [if_true] at h ⊢
    rcases Int.lt_or_le t 0 with h1 | h1
    · right
      have e : t = -(val f r : Int) := by rcases ht with ht | ht <;> omega
      subst e
      rw [Int.neg_neg, Int.toNat_natCast]
      refine quo_lb h0 hn hmore (lo r ?_)
      rw [Int.neg_mul, Int.neg_mul] at h; omega
    · exact .inl h1
  | false =>
    simp only [Bool.false_eq_true, if_false] at h ⊢
    have ht0 : 0 ≤ t := by
      rcases Int.lt_or_le t 0 with h1 | h1
      · have := Int.mul_neg_of_neg_of_pos h1 hnc
        omega
      · exact h1
    have e : t = (val f r : Int) := by rcases ht with ht | ht <;> omega
    subst e
    refine ⟨ht0, ?_⟩
    rw [Int.toNat_natCast]
    exact quo_ub h0 hn hmore (up r h)

theorem V_nat (f : Format) (w : Nat) : V f w = if sgn f w then -((magOf f (rg f w) * 2 ^ upOf f (rg f w) : Nat) : Int) else ((magOf f (rg f w) * 2 ^ upOf f (rg f w) : Nat) : Int) := rfl

theorem div_rnd {f : Format} (hL : f.leastPlace ≤ 0) {x y : Nat} (hx : Fin f x) (hy : Fin f y) (h0 : V f y ≠ 0) :
    ∃ z, f.div x y = some z ∧ (0 < V f y → Rnd f z (V f x * U f) (V f y)) ∧ (V f y < 0 → Rnd f z (-(V f x) * U f) (-(V f y))) := by
  unfold Format.div
  rw [read_fin hx, read_fin hy]
  have hn : magOf f (rg f y) ≠ 0 := by
    intro h; apply h0; rw [V_nat, h]; simp
  simp only [Datum.quotient, if_neg hn, Option.map_some]
  refine ⟨_, rfl, ?_⟩
  simp only [Format.write]
  have eneg : ∀ (s : Bool) (a : Int), (if (!s) = true then -a else a) = -(if s = true then -a else a) := by intro s a; cases s <;> simp
  have go : ∀ (s : Bool), Rnd f (f.nearest s (2 * ((magOf f (rg f x) <<< (f.fractionBits + 2 + (magOf f (rg f y)).log2 - (magOf f (rg f x)).log2)) / magOf f (rg f y)) + ((magOf f (rg f x) <<< (f.fractionBits + 2 + (magOf f (rg f y)).log2 - (magOf f (rg f x)).log2)) % magOf f (rg f y) != 0).toNat)
      (f.leastPlace + (upOf f (rg f x) : Int) - (f.leastPlace + (upOf f (rg f y) : Int)) - ((f.fractionBits + 2 + (magOf f (rg f y)).log2 - (magOf f (rg f x)).log2 : Nat) : Int) - 1))
      ((if s then -((magOf f (rg f x) * 2 ^ upOf f (rg f x) : Nat) : Int) else ((magOf f (rg f x) * 2 ^ upOf f (rg f x) : Nat) : Int)) * U f) ((magOf f (rg f y) * 2 ^ upOf f (rg f y) : Nat) : Int) := by
    intro s
    refine ⟨nearest_nn _ _ _ _, fun t ht => ⟨fun h => nearest_ub ht (quoV hL ht hn rfl h), fun h => nearest_lb ht ?_⟩⟩
    unfold GeV
    refine quoV hL (rep_neg ht) hn rfl ?_
    rw [eneg, Int.neg_mul, Int.neg_mul]; omega
  cases hsy : sgn f y with
  | false =>
    have hy' : V f y = ((magOf f (rg f y) * 2 ^ upOf f (rg f y) : Nat) : Int) := by rw [V_nat, hsy]; simp
    refine ⟨fun _ => ?_, fun h => by omega⟩
    have := go (sgn f x)
    rw [Bool.xor_false, hy', V_nat f x]
    exact this
  | true =>
    have hy' : V f y = -((magOf f (rg f y) * 2 ^ upOf f (rg f y) : Nat) : Int) := by rw [V_nat, hsy]; simp
    refine ⟨fun h => by omega, fun _ => ?_⟩
    have := go (!sgn f x)
    rw [eneg] at this
    rw [Bool.xor_true, hy', V_nat f x, Int.neg_neg]
    exact this
/-! ### Roots -/
theorem rootFrom_sq (n : Nat) : ∀ (todo root : Nat), root * root ≤ n → n < (root + 2 ^ todo) * (root + 2 ^ todo) → Datum.rootFrom n todo root * Datum.rootFrom n todo root ≤ n ∧ n < (Datum.rootFrom n todo root + 1) * (Datum.rootFrom n todo root + 1)
  | 0, root, h1, h2 => ⟨h1, by simpa [Datum.rootFrom] using h2⟩
  | todo + 1, root, h1, h2 => by
    unfold Datum.rootFrom
    simp only [Nat.shiftLeft_eq, Nat.one_mul]
    by_cases h : (root + 2 ^ todo) * (root + 2 ^ todo) ≤ n
    · rw [if_pos h]
      refine rootFrom_sq n todo _ h ?_
      rw [Nat.add_assoc, ← Nat.two_mul, Nat.mul_comm 2, ← Nat.pow_succ]; exact h2
    · rw [if_neg h]
      exact rootFrom_sq n todo _ h1 (by omega)
theorem root_sq (n : Nat) : Datum.rootFrom n (n.log2 / 2 + 1) 0 * Datum.rootFrom n (n.log2 / 2 + 1) 0 ≤ n ∧ n < (Datum.rootFrom n (n.log2 / 2 + 1) 0 + 1) * (Datum.rootFrom n (n.log2 / 2 + 1) 0 + 1) := by
  refine rootFrom_sq n _ 0 (Nat.zero_le _) ?_
  rw [Nat.zero_add, ← Nat.pow_add]
  refine Nat.lt_of_lt_of_le Nat.lt_log2_self (Nat.pow_le_pow_right (by decide) (by omega))
theorem sq_lt {a b : Nat} (h : a * a < b * b) : a < b := by
  rcases Nat.lt_or_ge a b with h1 | h1
  · exact h1
  · have := Nat.mul_le_mul h1 h1; omega

/-- The root of a number that is not negative: its square is compared. -/
theorem sqrt_rnd {f : Format} (hL : f.leastPlace ≤ 0) {x : Nat} (hx : Fin f x) (h0 : 0 ≤ V f x) :
    ∃ z, f.sqrt x = some z ∧ NN f z ∧ ∀ t, Rep f t → 0 ≤ t → (V f x * U f ≤ t * t → V f z ≤ t) ∧ (t * t ≤ V f x * U f → t ≤ V f z) := by
  unfold Format.sqrt
  rw [read_fin hx]
  simp only [Datum.root]
  by_cases hm : magOf f (rg f x) = 0
  · rw [if_pos hm]
    simp only [Option.map_some, Format.write]
    refine ⟨_, rfl, nearest_nn _ _ _ _, fun t ht ht0 => ?_⟩
    have hz : V f (f.nearest (sgn f x) (magOf f (rg f x)) (f.leastPlace + (upOf f (rg f x) : Int))) = 0 := by
      rw [V_nearest, hm]
      have : rung f 0 (f.leastPlace + (upOf f (rg f x) : Int)) = 0 := by unfold rung rungU; simp
      rw [this, val_zero]; simp
    have hv : V f x = 0 := by rw [V_nat, hm]; simp
    rw [hz, hv]
    refine ⟨fun _ => ht0, fun h => ?_⟩
    rw [Int.zero_mul] at h
    rcases Int.lt_or_eq_of_le ht0 with h1 | h1
    · have := Int.mul_pos h1 h1; omega
    · omega
  · rw [if_neg hm]
    have hs : sgn f x = false := by
      cases h : sgn f x with
      | false => rfl
      | true =>
        rw [V_nat, h] at h0
        have : 0 < magOf f (rg f x) * 2 ^ upOf f (rg f x) := Nat.mul_pos (by omega) (Nat.two_pow_pos _)
        simp only [if_true] at h0
        omega
    rw [if_neg (by rw [hs]; simp)]
    simp only [Option.map_some, Format.write]
    refine ⟨_, rfl, nearest_nn _ _ _ _, fun t ht ht0 => ?_⟩
    have hV : V f x = ((magOf f (rg f x) * 2 ^ upOf f (rg f x) : Nat) : Int) := by rw [V_nat, hs]; simp
    rw [hV]
    generalize hmm : magOf f (rg f x) = m at *
    generalize hj : upOf f (rg f x) = a
    generalize hmore : (2 * (f.fractionBits + 2) - m.log2 + ((f.leastPlace + (a : Int) - ((2 * (f.fractionBits + 2) - m.log2 : Nat) : Int)) % 2).toNat : Nat) = more
    have hev : (f.leastPlace + (a : Int) - more) % 2 = 0 := by
      have := Int.emod_nonneg (f.leastPlace + (a : Int) - ((2 * (f.fractionBits + 2) - m.log2 : Nat) : Int)) (show (2 : Int) ≠ 0 by decide)
      omega
    obtain ⟨p, hp⟩ : ∃ p : Int, f.leastPlace + (a : Int) - more = 2 * p := ⟨(f.leastPlace + (a : Int) - more) / 2, by omega⟩
    rw [show (f.leastPlace + (a : Int) - more) / 2 = p by omega]
    rw [Nat.shiftLeft_eq]
    have hn0 : m * 2 ^ more ≠ 0 := by have := Nat.two_pow_pos more; exact Nat.mul_ne_zero hm (by omega)
    have hlog : (m * 2 ^ more).log2 = m.log2 + more := log2_shift _ _ hm
    generalize hn : m * 2 ^ more = n at *
    obtain ⟨r1, r2⟩ := root_sq n
    generalize Datum.rootFrom n (n.log2 / 2 + 1) 0 = w at *
    have hbig : 2 ^ (f.fractionBits + 1) ≤ w := by
      have h1 := Nat.log2_self_le hn0
      have h2 : 2 ^ (2 * (f.fractionBits + 2)) ≤ n := Nat.le_trans (Nat.pow_le_pow_right (by decide) (by omega)) h1
      have h3 : 2 ^ (2 * (f.fractionBits + 2)) = 2 ^ (f.fractionBits + 2) * 2 ^ (f.fractionBits + 2) := by rw [← Nat.pow_add]; congr 1; omega
      have h4 : 2 ^ (f.fractionBits + 2) < w + 1 := sq_lt (by omega)
      have h5 : 2 ^ (f.fractionBits + 1) ≤ 2 ^ (f.fractionBits + 2) := Nat.pow_le_pow_right (by decide) (by omega)
      omega
    obtain ⟨r, hr, ht⟩ := ht
    have e : t = (val f r : Int) := by rcases ht with ht | ht <;> omega
    subst e
    have hU : U f = ((2 ^ (-f.leastPlace).toNat : Nat) : Int) := by unfold U; rw [Int.natCast_pow]; rfl
    rw [hU, ← Int.natCast_mul, ← Int.natCast_mul, Int.ofNat_le, Int.ofNat_le]
    have ex : m * 2 ^ a * 2 ^ (-f.leastPlace).toNat * 2 ^ (more + (2 * p - 2 * f.leastPlace - (2 * f.leastPlace - 2 * f.leastPlace)).toNat + (2 * f.leastPlace - 2 * p).toNat) = 0 ∨ True := .inr trivial
    -- comparing squares: the worth of r, squared, against n * 2 ^ (2 p)
    have cmp_le : ∀ K : Nat, p ≤ f.leastPlace + (upOf f r : Int) → K = magOf f r * 2 ^ (f.leastPlace + (upOf f r : Int) - p).toNat → (m * 2 ^ a * 2 ^ (-f.leastPlace).toNat ≤ val f r * val f r ↔ n ≤ K * K) ∧ (val f r * val f r ≤ m * 2 ^ a * 2 ^ (-f.leastPlace).toNat ↔ K * K ≤ n) := by
      intro K hK1 hK2
      have c1 : m * 2 ^ a * 2 ^ (-f.leastPlace).toNat * 2 ^ more = n * 2 ^ (a + (-f.leastPlace).toNat) := by
        rw [← hn, Nat.pow_add, Nat.mul_right_comm _ _ (2 ^ more), Nat.mul_right_comm _ _ (2 ^ more), Nat.mul_assoc (m * 2 ^ more)]
      have c2 : val f r * val f r * 2 ^ more = K * K * 2 ^ (a + (-f.leastPlace).toNat) := by
        unfold val; rw [hK2]
        have x1 : magOf f r * 2 ^ upOf f r * (magOf f r * 2 ^ upOf f r) * 2 ^ more = magOf f r * magOf f r * (2 ^ upOf f r * 2 ^ upOf f r * 2 ^ more) := by
          simp only [Nat.mul_comm, Nat.mul_left_comm, Nat.mul_assoc]
        have x2 : magOf f r * 2 ^ (f.leastPlace + (upOf f r : Int) - p).toNat * (magOf f r * 2 ^ (f.leastPlace + (upOf f r : Int) - p).toNat) * 2 ^ (a + (-f.leastPlace).toNat) = magOf f r * magOf f r * (2 ^ (f.leastPlace + (upOf f r : Int) - p).toNat * 2 ^ (f.leastPlace + (upOf f r : Int) - p).toNat * 2 ^ (a + (-f.leastPlace).toNat)) := by
          simp only [Nat.mul_comm, Nat.mul_left_comm, Nat.mul_assoc]
        rw [x1, x2]; congr 1
        simp only [← Nat.pow_add]; congr 1; omega
      have hpm := Nat.two_pow_pos more
      have hpa := Nat.two_pow_pos (a + (-f.leastPlace).toNat)
      constructor
      · rw [← Nat.mul_le_mul_right_iff hpm, c1, c2, Nat.mul_le_mul_right_iff hpa]
      · rw [← Nat.mul_le_mul_right_iff hpm, c1, c2, Nat.mul_le_mul_right_iff hpa]
    have hst : (w * w != n).toNat ≤ 1 := by cases (w * w != n) <;> decide
    refine ⟨fun h => nearest_ub ⟨r, hr, .inl rfl⟩ ?_, fun h => nearest_lb ⟨r, hr, .inl rfl⟩ ?_⟩
    · unfold LeV
      rw [if_neg (by simp)]
      refine ⟨by omega, ?_⟩
      rw [Int.toNat_natCast]
      refine sticky_le hst hbig ?_ ?_
      · intro K hK1 hK2
        have h1 := (cmp_le K hK1 hK2).1.1 h
        have h2 : w ≤ K := by
          rcases Nat.lt_or_ge K w with h3 | h3
          · have := Nat.mul_lt_mul_of_lt_of_le h3 (Nat.le_of_lt h3) (by omega); omega
          · exact h3
        by_cases h3 : w * w = n
        · simp [h3]; omega
        · have : w < K := sq_lt (by omega)
          omega
      · intro hlt
        have hl := magOf_lt f r
        -- the worth of r is below that of w
        have c1 : m * 2 ^ a * 2 ^ (-f.leastPlace).toNat * 2 ^ more = n * 2 ^ (a + (-f.leastPlace).toNat) := by
          rw [← hn, Nat.pow_add, Nat.mul_right_comm _ _ (2 ^ more), Nat.mul_right_comm _ _ (2 ^ more), Nat.mul_assoc (m * 2 ^ more)]
        have c3 : val f r * val f r * 2 ^ more < n * 2 ^ (a + (-f.leastPlace).toNat) := by
          unfold val
          have x1 : magOf f r * 2 ^ upOf f r * (magOf f r * 2 ^ upOf f r) * 2 ^ more = magOf f r * magOf f r * (2 ^ upOf f r * 2 ^ upOf f r * 2 ^ more) := by
            simp only [Nat.mul_comm, Nat.mul_left_comm, Nat.mul_assoc]
          rw [x1]
          have y1 : 2 ^ upOf f r * 2 ^ upOf f r * 2 ^ more ≤ 2 ^ (a + (-f.leastPlace).toNat) := by
            rw [← Nat.pow_add, ← Nat.pow_add]; exact Nat.pow_le_pow_right (by decide) (by omega)
          have y2 : magOf f r * magOf f r < w * w := Nat.mul_lt_mul_of_lt_of_le (by omega) (by omega) (by omega)
          calc magOf f r * magOf f r * (2 ^ upOf f r * 2 ^ upOf f r * 2 ^ more) ≤ magOf f r * magOf f r * 2 ^ (a + (-f.leastPlace).toNat) := Nat.mul_le_mul_left _ y1
            _ < n * 2 ^ (a + (-f.leastPlace).toNat) := Nat.mul_lt_mul_of_pos_right (by omega) (Nat.two_pow_pos _)
        have := Nat.mul_le_mul_right (2 ^ more) h
        omega
    · unfold GeV LeV
      simp only [Bool.not_false, if_true, Int.neg_neg, Int.toNat_natCast]
      right
      refine le_sticky hbig ?_
      intro K hK1 hK2
      have h1 := (cmp_le K hK1 hK2).2.1 h
      have : K < w + 1 := sq_lt (by omega)
      omega

/-! ### Conversions -/
theorem conv_rnd {s d : Format} (hs : s.leastPlace ≤ 0) (hd : d.leastPlace ≤ 0) {x : Nat} (hx : Fin s x) : Rnd d (d.write (s.read x)) (V s x * U d) (U s) := by
  rw [read_fin hx, V_signed]
  simp only [Format.write]
  have h := rnd_nearest (f := d) (s := sgn s x) (n := magOf s (rg s x)) (i := s.leastPlace + (upOf s (rg s x) : Int)) (b := s.leastPlace + d.leastPlace) (by omega) (by omega)
  rw [show (s.leastPlace + (upOf s (rg s x) : Int) - (s.leastPlace + d.leastPlace)).toNat = upOf s (rg s x) + (-d.leastPlace).toNat by omega, show (d.leastPlace - (s.leastPlace + d.leastPlace)).toNat = (-s.leastPlace).toNat by omega, Int.pow_add, ← Int.mul_assoc] at h
  exact h

/-! ### What the format has -/
theorem exact_num {f : Format} {n : Nat} {i : Int} (hn : n < 2 ^ (f.fractionBits + 1)) (hi : f.leastPlace ≤ i) : val f (rungU f n i) = n * 2 ^ (i - f.leastPlace).toNat := by
  have hB : 0 < f.binade := Nat.two_pow_pos _
  have e2 : 2 ^ (f.fractionBits + 1) = 2 * f.binade := by unfold Format.binade; rw [Nat.pow_succ, Nat.mul_comm]
  by_cases h0 : n = 0
  · subst h0
    have : rungU f 0 i = 0 := by unfold rungU; simp
    rw [this, val_zero, Nat.zero_mul]
  · unfold rungU
    rw [if_neg h0]
    have hlog : n.log2 ≤ f.fractionBits := by have := (Nat.log2_lt h0).2 hn; omega
    have hl : lastOf f n i ≤ i := by unfold lastOf; omega
    rw [show (lastOf f n i - i).toNat = 0 by omega, Nat.pow_zero, rne_one, Nat.shiftLeft_eq]
    have hM : n * 2 ^ (i - lastOf f n i).toNat < 2 * f.binade := by
      have h2 : n < 2 ^ (n.log2 + 1) := Nat.lt_log2_self
      have : n * 2 ^ (i - lastOf f n i).toNat < 2 ^ (n.log2 + 1) * 2 ^ (i - lastOf f n i).toNat := Nat.mul_lt_mul_of_pos_right h2 (Nat.two_pow_pos _)
      rw [← Nat.pow_add] at this
      have h3 : 2 ^ (n.log2 + 1 + (i - lastOf f n i).toNat) ≤ 2 ^ (f.fractionBits + 1) := Nat.pow_le_pow_right (by decide) (by unfold lastOf; omega)
      omega
    have hT : n * 2 ^ (i - f.leastPlace).toNat = n * 2 ^ (i - lastOf f n i).toNat * 2 ^ (lastOf f n i - f.leastPlace).toNat := by
      rw [Nat.mul_assoc, ← Nat.pow_add]; congr 2; unfold lastOf at hl ⊢; omega
    rw [hT]
    have hge : lastOf f n i ≠ f.leastPlace → f.binade ≤ n * 2 ^ (i - lastOf f n i).toNat := by
      intro hne
      have := le_kept f (n := n) (i := i) (l := lastOf f n i) h0 (by unfold lastOf at hne ⊢; omega)
      rwa [show (lastOf f n i - i).toNat = 0 by omega, Nat.pow_zero, rne_one, Nat.shiftLeft_eq] at this
    generalize n * 2 ^ (i - lastOf f n i).toNat = M at *
    have hLl : f.leastPlace ≤ lastOf f n i := by unfold lastOf; omega
    obtain ⟨k, hk⟩ : ∃ k : Nat, lastOf f n i = f.leastPlace + k := ⟨(lastOf f n i - f.leastPlace).toNat, by omega⟩
    rw [hk] at hge ⊢
    rw [show (f.leastPlace + (k : Int) - f.leastPlace).toNat = k by omega]
    by_cases hMB : M < f.binade
    · have hk0 : k = 0 := by
        rcases Nat.eq_zero_or_pos k with h | h
        · exact h
        · have := hge (by omega); omega
      subst hk0
      unfold val magOf
      rw [Nat.zero_mul, Nat.zero_add, if_pos hMB, upOf_small hMB]
    · have hdiv : (k * f.binade + M) / f.binade = k + 1 := by
        rw [Nat.add_comm, Nat.add_mul_div_right _ _ hB, show M / f.binade = 1 by
          apply Nat.div_eq_of_lt_le
          · omega
          · omega]
        omega
      have hmod : (k * f.binade + M) % f.binade = M - f.binade := by
        rw [Nat.add_comm, Nat.add_mul_mod_self_right, Nat.mod_eq_sub_mod (by omega), Nat.mod_eq_of_lt (by omega)]
      unfold val magOf upOf
      rw [if_neg (by have := Nat.le_mul_of_pos_left f.binade (show 0 < k + 1 by omega); rw [Nat.add_mul] at this; omega), hdiv, hmod]
      rw [show f.binade + (M - f.binade) = M by omega, Nat.add_sub_cancel]
theorem rep_num {f : Format} {n : Nat} {i : Int} (hn : n < 2 ^ (f.fractionBits + 1)) (hi : f.leastPlace ≤ i) (hb : n * 2 ^ (i - f.leastPlace).toNat ≤ VI f) : Rep f ((n * 2 ^ (i - f.leastPlace).toNat : Nat) : Int) := by
  refine ⟨rungU f n i, ?_, .inl ?_⟩
  · rw [← val_le (f := f), exact_num hn hi]; exact hb
  · rw [exact_num hn hi]
theorem rep_int {f : Format} (hL : f.leastPlace ≤ 0) {n : Int} (hn : n.natAbs < 2 ^ (f.fractionBits + 1)) (hb : n.natAbs * 2 ^ (-f.leastPlace).toNat ≤ VI f) : Rep f (n * U f) := by
  have h := rep_num (f := f) (n := n.natAbs) (i := 0) hn hL (by rw [show (0 - f.leastPlace).toNat = (-f.leastPlace).toNat by omega]; exact hb)
  rw [show (0 - f.leastPlace).toNat = (-f.leastPlace).toNat by omega, Int.natCast_mul, Int.natCast_pow] at h
  have hU : U f = ((2 : Nat) : Int) ^ (-f.leastPlace).toNat := rfl
  rw [← hU] at h
  rcases Int.natAbs_eq n with e | e
  · rw [e]; exact h
  · rw [e, Int.neg_mul]; exact rep_neg h
end Fl
