/- Own library: rounding is monotone, and what a word reads is written back as it was. No program in sight. -/
import Ieee.Arith
namespace Fl
set_option linter.all false
open Ieee

/-- To the nearest whole number, between two the even one. -/
def rne (n g : Nat) : Nat := n / g + (if g < 2 * (n % g) ∨ (g = 2 * (n % g) ∧ n / g % 2 = 1) then 1 else 0)

theorem rne_le {n g : Nat} : rne n g ≤ n / g + 1 := by unfold rne; split <;> omega
theorem le_rne {n g : Nat} : n / g ≤ rne n g := by unfold rne; omega

theorem rne_mono {n g m h : Nat} (hg : 0 < g) (hh : 0 < h) (hle : n * h ≤ m * g) : rne n g ≤ rne m h := by
  have hq : n / g ≤ m / h := by
    rw [Nat.le_div_iff_mul_le hh]
    have h1 : n / g * g ≤ n := Nat.div_mul_le_self n g
    have h2 : n / g * g * h ≤ n * h := Nat.mul_le_mul_right h h1
    have h3 : n / g * h * g ≤ m * g := by
      calc n / g * h * g = n / g * g * h := by rw [Nat.mul_right_comm]
        _ ≤ n * h := h2
        _ ≤ m * g := hle
    exact Nat.le_of_mul_le_mul_right h3 hg
  rcases Nat.lt_or_ge (n / g) (m / h) with hl | hl
  · exact Nat.le_trans rne_le (Nat.le_trans hl le_rne)
  · have he : n / g = m / h := Nat.le_antisymm hq hl
    have hn := Nat.div_add_mod n g
    have hm := Nat.div_add_mod m h
    have hr : n % g * h ≤ m % h * g := by
      have e1 : n * h = g * (n / g) * h + n % g * h := by
        conv => lhs; rw [← hn]
        rw [Nat.add_mul]
      have e2 : m * g = h * (m / h) * g + m % h * g := by
        conv => lhs; rw [← hm]
        rw [Nat.add_mul]
      have e3 : g * (n / g) * h = h * (m / h) * g := by rw [he, Nat.mul_right_comm, Nat.mul_comm g h, Nat.mul_right_comm]
      omega
    unfold rne
    rw [← he]
    apply Nat.add_le_add_left
    by_cases c : g < 2 * (n % g) ∨ (g = 2 * (n % g) ∧ n / g % 2 = 1)
    · have c' : h < 2 * (m % h) ∨ (h = 2 * (m % h) ∧ n / g % 2 = 1) := by
        rcases c with c | ⟨c, o⟩
        · left
          have : g * h < 2 * (m % h) * g := calc
            g * h < 2 * (n % g) * h := Nat.mul_lt_mul_of_pos_right c hh
            _ = 2 * (n % g * h) := by rw [Nat.mul_assoc]
            _ ≤ 2 * (m % h * g) := by omega
            _ = 2 * (m % h) * g := by rw [Nat.mul_assoc]
          rw [Nat.mul_comm g h] at this
          exact Nat.lt_of_mul_lt_mul_right this
        · have : h * g ≤ 2 * (m % h) * g := calc
            h * g = 2 * (n % g) * h := by rw [Nat.mul_comm]; exact congrArg (· * h) c
            _ = 2 * (n % g * h) := by rw [Nat.mul_assoc]
            _ ≤ 2 * (m % h * g) := by omega
            _ = 2 * (m % h) * g := by rw [Nat.mul_assoc]
          have := Nat.le_of_mul_le_mul_right this hg
          rcases Nat.lt_or_eq_of_le this with h1 | h1
          · left; exact h1
          · right; exact ⟨h1, o⟩
      rw [if_pos c, if_pos c']; exact Nat.le_refl _
    · rw [if_neg c]; exact Nat.zero_le _

theorem rne_one (n : Nat) : rne n 1 = n := by
  unfold rne
  rw [Nat.div_one, Nat.mod_one]
  simp
theorem rne_scale (n g k : Nat) (hk : 0 < k) (hg : 0 < g) : rne (n * k) (g * k) = rne n g := by
  apply Nat.le_antisymm
  · apply rne_mono (Nat.mul_pos hg hk) hg; rw [Nat.mul_assoc, Nat.mul_comm k g]; exact Nat.le_refl _
  · apply rne_mono hg (Nat.mul_pos hg hk); rw [Nat.mul_assoc, Nat.mul_comm k g]; exact Nat.le_refl _
theorem rne_mul (n g : Nat) (hg : 0 < g) : rne (n * g) g = n := by
  have := rne_scale n 1 g hg (by decide)
  rw [Nat.one_mul] at this
  rw [this, rne_one]

theorem cut_even (s : Bool) (n d : Nat) : Toward.even.cut s n d = rne n (2 ^ d) := by
  have key : ∀ g, 0 < g → (n / g + (decide (g < 2 * (n % g)) || (g == 2 * (n % g) && n / g % 2 == 1)).toNat) = rne n g := by
    intro g _
    unfold rne
    congr 1
    by_cases c : g < 2 * (n % g) ∨ (g = 2 * (n % g) ∧ n / g % 2 = 1)
    · rw [if_pos c]
      have : (decide (g < 2 * (n % g)) || (g == 2 * (n % g) && n / g % 2 == 1)) = true := by simpa using c
      rw [this]; rfl
    · rw [if_neg c]
      have : (decide (g < 2 * (n % g)) || (g == 2 * (n % g) && n / g % 2 == 1)) = false := by
        rw [Bool.eq_false_iff]; simpa using c
      rw [this]; rfl
  unfold Toward.cut
  simp only [Nat.shiftLeft_eq, Nat.one_mul]
  rcases Nat.le_total d (n.log2 + 2) with h | h
  · rw [Nat.min_eq_left h]
    exact key _ (Nat.two_pow_pos _)
  · rw [Nat.min_eq_right h]
    refine (key _ (Nat.two_pow_pos _)).trans ?_
    have hn : n < 2 ^ (n.log2 + 1) := Nat.lt_log2_self
    have small : ∀ k, n.log2 + 2 ≤ k → rne n (2 ^ k) = 0 := by
      intro k hk
      have h2 : 2 ^ (n.log2 + 1) * 2 ≤ 2 ^ k := by
        rw [← Nat.pow_succ]; exact Nat.pow_le_pow_right (by decide) (by omega)
      unfold rne
      rw [Nat.div_eq_of_lt (by omega), Nat.mod_eq_of_lt (by omega), if_neg]
      rintro (c | ⟨c, o⟩)
      · omega
      · simp at o
    rw [small _ (Nat.le_refl _), small _ h]

/-! ### The rung of a number -/
/-- The place of the last digit that is kept, above the least one. -/
def lastOf (f : Format) (n : Nat) (i : Int) : Int := max (i + n.log2 - f.fractionBits) f.leastPlace
/-- The rung that a number is rounded to, infinity's not being looked at. -/
def rungU (f : Format) (n : Nat) (i : Int) : Nat :=
  if n = 0 then 0 else (lastOf f n i - f.leastPlace).toNat * f.binade + rne (n <<< (i - lastOf f n i).toNat) (2 ^ (lastOf f n i - i).toNat)
def rung (f : Format) (n : Nat) (i : Int) : Nat := min (rungU f n i) f.infRung

theorem nearest_eq (f : Format) (s : Bool) (n : Nat) (i : Int) : f.nearest s n i = f.word s (rung f n i) := by
  unfold Format.nearest rung rungU
  by_cases h : n = 0
  · rw [if_pos h, if_pos h, Nat.zero_min]
  · rw [if_neg h, if_neg h]
    simp only [cut_even]
    rfl

/-- 'n * 2 ^ i ≤ m * 2 ^ j'. -/
def Le (n : Nat) (i : Int) (m : Nat) (j : Int) : Prop := n * 2 ^ (i - min i j).toNat ≤ m * 2 ^ (j - min i j).toNat

theorem le_of_base {n m : Nat} {i j b : Int} (h1 : b ≤ i) (h2 : b ≤ j) : Le n i m j ↔ n * 2 ^ (i - b).toNat ≤ m * 2 ^ (j - b).toNat := by
  unfold Le
  have e1 : (i - b).toNat = (i - min i j).toNat + (min i j - b).toNat := by omega
  have e2 : (j - b).toNat = (j - min i j).toNat + (min i j - b).toNat := by omega
  rw [e1, e2, Nat.pow_add, Nat.pow_add, ← Nat.mul_assoc, ← Nat.mul_assoc]
  exact (Nat.mul_le_mul_right_iff (Nat.two_pow_pos _)).symm

theorem Le.trans {n m l : Nat} {i j k : Int} (h : Le n i m j) (h' : Le m j l k) : Le n i l k := by
  have b1 : min i (min j k) ≤ i := by omega
  have b2 : min i (min j k) ≤ j := by omega
  have b3 : min i (min j k) ≤ k := by omega
  rw [le_of_base b1 b2] at h
  rw [le_of_base b2 b3] at h'
  rw [le_of_base b1 b3]
  omega
theorem Le.refl (n : Nat) (i : Int) : Le n i n i := Nat.le_refl _
theorem Le.shift (n : Nat) (i : Int) (k : Nat) : Le (n * 2 ^ k) i n (i + k) := by
  rw [le_of_base (b := i) (by omega) (by omega)]
  simp only [Int.sub_self, Int.toNat_zero, Nat.pow_zero, Nat.mul_one]
  rw [show (i + k - i).toNat = k by omega]
  exact Nat.le_refl _
theorem Le.shift' (n : Nat) (i : Int) (k : Nat) : Le n (i + k) (n * 2 ^ k) i := by
  rw [le_of_base (b := i) (by omega) (by omega)]
  simp only [Int.sub_self, Int.toNat_zero, Nat.pow_zero, Nat.mul_one]
  rw [show (i + k - i).toNat = k by omega]
  exact Nat.le_refl _

theorem log2_shift (n k : Nat) (hn : n ≠ 0) : (n * 2 ^ k).log2 = n.log2 + k := by
  have h1 := Nat.log2_self_le hn
  have h2 : n < 2 ^ (n.log2 + 1) := Nat.lt_log2_self
  have hne : n * 2 ^ k ≠ 0 := by have := Nat.two_pow_pos k; exact Nat.mul_ne_zero hn (by omega)
  apply Nat.le_antisymm
  · have : (n * 2 ^ k).log2 < n.log2 + k + 1 := by
      rw [Nat.log2_lt hne, show n.log2 + k + 1 = (n.log2 + 1) + k by omega, Nat.pow_add]
      exact Nat.mul_lt_mul_of_pos_right h2 (Nat.two_pow_pos _)
    omega
  · rw [Nat.le_log2 hne, Nat.pow_add]
    exact Nat.mul_le_mul_right _ h1

theorem log2_mono {n m : Nat} (hn : n ≠ 0) (h : n ≤ m) : n.log2 ≤ m.log2 := by
  rw [Nat.le_log2 (by omega)]
  exact Nat.le_trans (Nat.log2_self_le hn) h

theorem Le.log {n m : Nat} {i j : Int} (hn : n ≠ 0) (h : Le n i m j) : i + n.log2 ≤ j + m.log2 ∧ m ≠ 0 := by
  unfold Le at h
  have hp := Nat.two_pow_pos (i - min i j).toNat
  have hm : m ≠ 0 := by
    rintro rfl
    have : n * 2 ^ (i - min i j).toNat = 0 := by omega
    rcases Nat.mul_eq_zero.1 this with h | h <;> omega
  have := log2_mono (Nat.mul_ne_zero hn (by omega)) h
  rw [log2_shift _ _ hn, log2_shift _ _ hm] at this
  exact ⟨by omega, hm⟩

theorem pow_split {a b : Nat} (h : a ≤ b) : 2 ^ b = 2 ^ a * 2 ^ (b - a) := by rw [← Nat.pow_add]; congr 1; omega

/-- What is kept of a number: less than two binades' worth and one. -/
theorem kept_le (f : Format) {n : Nat} {i l : Int} (hn : n ≠ 0) (h : i + n.log2 - f.fractionBits ≤ l) : rne (n <<< (i - l).toNat) (2 ^ (l - i).toNat) ≤ 2 * f.binade := by
  have h2 : n < 2 ^ (n.log2 + 1) := Nat.lt_log2_self
  have key : rne (2 * f.binade) 1 = 2 * f.binade := rne_one _
  rw [← key]
  apply rne_mono (Nat.two_pow_pos _) (by decide)
  rw [Nat.mul_one, Nat.shiftLeft_eq]
  have e : 2 * f.binade = 2 ^ (f.fractionBits + 1) := by unfold Format.binade; rw [Nat.pow_succ, Nat.mul_comm]
  rw [e, ← Nat.pow_add]
  have : n * 2 ^ (i - l).toNat ≤ 2 ^ (n.log2 + 1) * 2 ^ (i - l).toNat := Nat.mul_le_mul_right _ (by omega)
  refine Nat.le_trans this ?_
  rw [← Nat.pow_add]
  exact Nat.pow_le_pow_right (by decide) (by omega)
theorem le_kept (f : Format) {n : Nat} {i l : Int} (hn : n ≠ 0) (h : l ≤ i + n.log2 - f.fractionBits) : f.binade ≤ rne (n <<< (i - l).toNat) (2 ^ (l - i).toNat) := by
  have h1 := Nat.log2_self_le hn
  have key : rne f.binade 1 = f.binade := rne_one _
  rw [← key]
  apply rne_mono (by decide) (Nat.two_pow_pos _)
  rw [Nat.mul_one, Nat.shiftLeft_eq]
  unfold Format.binade
  rw [← Nat.pow_add]
  have : 2 ^ n.log2 * 2 ^ (i - l).toNat ≤ n * 2 ^ (i - l).toNat := Nat.mul_le_mul_right _ h1
  refine Nat.le_trans ?_ this
  rw [← Nat.pow_add]
  exact Nat.pow_le_pow_right (by decide) (by omega)

theorem rungU_mono (f : Format) {n m : Nat} {i j : Int} (h : Le n i m j) : rungU f n i ≤ rungU f m j := by
  unfold rungU
  by_cases hn : n = 0
  · rw [if_pos hn]; exact Nat.zero_le _
  obtain ⟨hl, hm⟩ := h.log hn
  rw [if_neg hn, if_neg hm]
  have hlast : lastOf f n i ≤ lastOf f m j := by unfold lastOf; omega
  have hx : i + n.log2 - f.fractionBits ≤ lastOf f n i := by unfold lastOf; omega
  have hL : f.leastPlace ≤ lastOf f n i := by unfold lastOf; omega
  rcases Int.lt_or_eq_of_le hlast with hlt | heq
  · have h1 := kept_le f hn hx
    have hy : lastOf f m j ≤ j + m.log2 - f.fractionBits := by unfold lastOf at hlt ⊢; omega
    have h2 := le_kept f hm hy
    have h3 : (lastOf f n i - f.leastPlace).toNat + 1 ≤ (lastOf f m j - f.leastPlace).toNat := by omega
    have h4 := Nat.mul_le_mul_right f.binade h3
    rw [Nat.add_mul, Nat.one_mul] at h4
    omega
  · rw [← heq]
    apply Nat.add_le_add_left
    generalize lastOf f n i = l
    apply rne_mono (Nat.two_pow_pos _) (Nat.two_pow_pos _)
    rw [Nat.shiftLeft_eq, Nat.shiftLeft_eq]
    rw [le_of_base (b := min (min i j) l) (by omega) (by omega)] at h
    have c1 : n * 2 ^ (i - l).toNat * 2 ^ (l - j).toNat * 2 ^ (l - min (min i j) l).toNat = n * 2 ^ (i - min (min i j) l).toNat * (2 ^ (l - j).toNat * 2 ^ (l - i).toNat) := by
      rw [Nat.mul_assoc, Nat.mul_assoc, Nat.mul_assoc]; congr 1
      simp only [← Nat.pow_add]; congr 1; omega
    have c2 : m * 2 ^ (j - l).toNat * 2 ^ (l - i).toNat * 2 ^ (l - min (min i j) l).toNat = m * 2 ^ (j - min (min i j) l).toNat * (2 ^ (l - j).toNat * 2 ^ (l - i).toNat) := by
      rw [Nat.mul_assoc, Nat.mul_assoc, Nat.mul_assoc]; congr 1
      simp only [← Nat.pow_add]; congr 1; omega
    have := Nat.mul_le_mul_right (2 ^ (l - j).toNat * 2 ^ (l - i).toNat) h
    rw [← c1, ← c2] at this
    exact Nat.le_of_mul_le_mul_right this (Nat.two_pow_pos _)

theorem rung_mono (f : Format) {n m : Nat} {i j : Int} (h : Le n i m j) : rung f n i ≤ rung f m j := by
  have := rungU_mono f h
  unfold rung
  omega

/-! ### Rungs that are read -/
/-- What a rung stands for, in units of the least place. -/
def magOf (f : Format) (r : Nat) : Nat := if r < f.binade then r else f.binade + r % f.binade
def upOf (f : Format) (r : Nat) : Nat := r / f.binade - 1
theorem upOf_small {f : Format} {r : Nat} (h : r < f.binade) : upOf f r = 0 := by unfold upOf; rw [Nat.div_eq_of_lt h]

theorem rungU_read (f : Format) (r : Nat) : rungU f (magOf f r) (f.leastPlace + upOf f r) = r := by
  have hB : 0 < f.binade := Nat.two_pow_pos _
  unfold magOf
  by_cases hr : r < f.binade
  · rw [if_pos hr, upOf_small hr]
    unfold rungU
    by_cases h0 : r = 0
    · rw [if_pos h0, h0]
    · rw [if_neg h0]
      have hl : r.log2 < f.fractionBits := by rw [Nat.log2_lt h0]; exact hr
      have : lastOf f r (f.leastPlace + (0 : Nat)) = f.leastPlace := by unfold lastOf; omega
      rw [this]
      simp [rne_one]
  · rw [if_neg hr]
    have hm : r % f.binade < f.binade := Nat.mod_lt _ hB
    have hq : 1 ≤ r / f.binade := by rw [Nat.le_div_iff_mul_le hB]; omega
    have hlog : (f.binade + r % f.binade).log2 = f.fractionBits := by
      have hne : f.binade + r % f.binade ≠ 0 := by omega
      apply Nat.le_antisymm
      · have : (f.binade + r % f.binade).log2 < f.fractionBits + 1 := by
          rw [Nat.log2_lt hne, Nat.pow_succ]
          have : f.binade = 2 ^ f.fractionBits := rfl
          omega
        omega
      · rw [Nat.le_log2 hne]
        have : f.binade = 2 ^ f.fractionBits := rfl
        omega
    unfold rungU
    rw [if_neg (by omega)]
    have : lastOf f (f.binade + r % f.binade) (f.leastPlace + (upOf f r : Nat)) = f.leastPlace + (upOf f r : Nat) := by unfold lastOf; rw [hlog]; omega
    rw [this]
    rw [show (f.leastPlace + (upOf f r : Int) - f.leastPlace).toNat = upOf f r by omega]
    simp only [Int.sub_self, Int.toNat_zero, Nat.pow_zero, rne_one, Nat.shiftLeft_zero]
    have hd := Nat.div_add_mod r f.binade
    unfold upOf
    have e : (r / f.binade - 1) * f.binade + f.binade = f.binade * (r / f.binade) := by
      rw [← Nat.succ_mul, Nat.mul_comm]; congr 1; omega
    omega

theorem rung_read (f : Format) {r : Nat} (h : r ≤ f.infRung) : rung f (magOf f r) (f.leastPlace + upOf f r) = r := by
  unfold rung; rw [rungU_read]; omega

/-- Rungs stand as what they stand for. -/
theorem le_read (f : Format) {r s : Nat} : Le (magOf f r) (f.leastPlace + upOf f r) (magOf f s) (f.leastPlace + upOf f s) ↔ r ≤ s := by
  constructor
  · intro h
    have := rungU_mono f h
    rwa [rungU_read, rungU_read] at this
  · intro h
    rcases Nat.eq_or_lt_of_le h with rfl | h
    · exact Le.refl _ _
    · unfold Le
      rcases Nat.le_total (magOf f r * 2 ^ (f.leastPlace + upOf f r - min (f.leastPlace + upOf f r : Int) (f.leastPlace + upOf f s)).toNat) (magOf f s * 2 ^ (f.leastPlace + upOf f s - min (f.leastPlace + upOf f r : Int) (f.leastPlace + upOf f s)).toNat) with h' | h'
      · exact h'
      · have : Le (magOf f s) (f.leastPlace + upOf f s) (magOf f r) (f.leastPlace + upOf f r) := by unfold Le; rw [Int.min_comm]; exact h'
        have := rungU_mono f this
        rw [rungU_read, rungU_read] at this
        omega
end Fl
