/- Own library: singles in the words of the pure programs: order, bounds, sums, products, quotients. No program in sight. -/
import Derived.Test.YteebpnooijknoaaDoorFlOps
import Derived.Test.YteebpnooijknoaaDoorSxPure
namespace Sx
open Go Fl Ieee
set_option linter.all false

abbrev s32 : Format := Ieee.single
/-- What a single is worth, in units of 2 ^ -149. -/
def W (x : Nat) : Int := V s32 x
def U32 : Int := U s32
def NaNo (x : Nat) : Prop := NN s32 x
def Fi (x : Nat) : Prop := Fl.Fin s32 x
theorem U32_eq : U32 = 2 ^ 149 := by decide +kernel
theorem U32_pos : 0 < U32 := U_pos s32
theorem he32 : 0 < s32.exponentBits := by decide
theorem hL32 : s32.leastPlace ≤ 0 := by decide
theorem VI32 : (VI s32 : Int) = 2 ^ 128 * U32 := by decide +kernel
theorem Fi.nn {x : Nat} (h : Fi x) : NaNo x := Fl.Fin.nn h
theorem fi_iff {x : Nat} : Fi x ↔ -(2 ^ 128 * U32) < W x ∧ W x < 2 ^ 128 * U32 := by
  unfold Fi W; rw [fin_iff, VI32]

theorem ord_eq {x y : Nat} (hx : NaNo x) (hy : NaNo y) : FloatKind.f32.format.order x y = some (compare (W x) (W y)) := order_eq he32 hx hy
theorem ord_nan {x y : Nat} (h : ¬ NaNo x ∨ ¬ NaNo y) : FloatKind.f32.format.order x y = none := order_nan he32 h
theorem cmp_lt {a b : Int} : (some (compare a b) == some Ordering.lt) = decide (a < b) := by
  rcases Int.lt_trichotomy a b with h | h | h
  · rw [Int.compare_eq_lt.2 h, decide_eq_true h]; rfl
  · rw [Int.compare_eq_eq.2 h, decide_eq_false (by omega)]; rfl
  · rw [Int.compare_eq_gt.2 h, decide_eq_false (by omega)]; rfl
theorem cmp_gt {a b : Int} : (some (compare a b) == some Ordering.gt) = decide (b < a) := by
  rcases Int.lt_trichotomy a b with h | h | h
  · rw [Int.compare_eq_lt.2 h, decide_eq_false (by omega)]; rfl
  · rw [Int.compare_eq_eq.2 h, decide_eq_false (by omega)]; rfl
  · rw [Int.compare_eq_gt.2 h, decide_eq_true h]; rfl
theorem cmp_eq {a b : Int} : (some (compare a b) == some Ordering.eq) = decide (a = b) := by
  rcases Int.lt_trichotomy a b with h | h | h
  · rw [Int.compare_eq_lt.2 h, decide_eq_false (by omega)]; rfl
  · rw [Int.compare_eq_eq.2 h, decide_eq_true h]; rfl
  · rw [Int.compare_eq_gt.2 h, decide_eq_false (by omega)]; rfl
theorem flt_eq {x y : Nat} (hx : NaNo x) (hy : NaNo y) : flt .f32 x y = decide (W x < W y) := by unfold flt; rw [ord_eq hx hy, cmp_lt]
theorem fgt_eq {x y : Nat} (hx : NaNo x) (hy : NaNo y) : fgt .f32 x y = decide (W y < W x) := by unfold fgt; rw [ord_eq hx hy, cmp_gt]
theorem feq_eq {x y : Nat} (hx : NaNo x) (hy : NaNo y) : feq .f32 x y = decide (W x = W y) := by unfold feq; rw [ord_eq hx hy, cmp_eq]
theorem fne_eq {x y : Nat} (hx : NaNo x) (hy : NaNo y) : fne .f32 x y = decide (W x ≠ W y) := by
  unfold fne; rw [bne, ord_eq hx hy, cmp_eq, ← decide_not]
theorem fle_eq {x y : Nat} (hx : NaNo x) (hy : NaNo y) : fle .f32 x y = decide (W x ≤ W y) := by
  unfold fle; rw [ord_eq hx hy, cmp_lt, cmp_eq, ← Bool.decide_or]; congr 1; apply propext; omega
theorem fge_eq {x y : Nat} (hx : NaNo x) (hy : NaNo y) : fge .f32 x y = decide (W y ≤ W x) := by
  unfold fge; rw [ord_eq hx hy, cmp_gt, cmp_eq, ← Bool.decide_or]; congr 1; apply propext; omega
theorem flt_nan {x y : Nat} (h : ¬ NaNo x ∨ ¬ NaNo y) : flt .f32 x y = false := by unfold flt; rw [ord_nan h]; rfl
theorem fgt_nan {x y : Nat} (h : ¬ NaNo x ∨ ¬ NaNo y) : fgt .f32 x y = false := by unfold fgt; rw [ord_nan h]; rfl
theorem feq_nan {x y : Nat} (h : ¬ NaNo x ∨ ¬ NaNo y) : feq .f32 x y = false := by unfold feq; rw [ord_nan h]; rfl
theorem fle_nan {x y : Nat} (h : ¬ NaNo x ∨ ¬ NaNo y) : fle .f32 x y = false := by unfold fle; rw [ord_nan h]; rfl
theorem fge_nan {x y : Nat} (h : ¬ NaNo x ∨ ¬ NaNo y) : fge .f32 x y = false := by unfold fge; rw [ord_nan h]; rfl
theorem fne_nan {x y : Nat} (h : ¬ NaNo x ∨ ¬ NaNo y) : fne .f32 x y = true := by unfold fne; rw [ord_nan h]; rfl

/-! ### Constants -/
theorem W_0 : W 0 = 0 := by decide +kernel
theorem W_1 : W 1065353216 = 1 * U32 := by decide +kernel
theorem W_2 : W 1073741824 = 2 * U32 := by decide +kernel
theorem W_3 : W 1077936128 = 3 * U32 := by decide +kernel
theorem W_h : W 1233125376 = 1048576 * U32 := by decide +kernel
theorem W_nh : W 3380609024 = -1048576 * U32 := by decide +kernel
theorem W_m : W 2139095039 = (16777215 * 2 ^ 104) * U32 := by decide +kernel
theorem W_nm : W 4286578687 = -(16777215 * 2 ^ 104) * U32 := by decide +kernel
theorem nn_h : NaNo 1233125376 := by unfold NaNo NN; decide +kernel
theorem nn_nh : NaNo 3380609024 := by unfold NaNo NN; decide +kernel
theorem nn_m : NaNo 2139095039 := by unfold NaNo NN; decide +kernel
theorem nn_nm : NaNo 4286578687 := by unfold NaNo NN; decide +kernel
theorem fi_0 : Fi 0 := by unfold Fi Fl.Fin; decide +kernel
theorem fi_1 : Fi 1065353216 := by unfold Fi Fl.Fin; decide +kernel
theorem fi_2 : Fi 1073741824 := by unfold Fi Fl.Fin; decide +kernel
theorem fi_3 : Fi 1077936128 := by unfold Fi Fl.Fin; decide +kernel
/-- The greatest number is the last below infinity. -/
theorem fi_max {x : Nat} (hx : NaNo x) : Fi x ↔ W 4286578687 ≤ W x ∧ W x ≤ W 2139095039 := by
  have e1 : W 2139095039 = (val s32 2139095039 : Int) := by decide +kernel
  have e2 : W 4286578687 = -(val s32 2139095039 : Int) := by decide +kernel
  have e3 : s32.infRung = 2139095040 := by decide +kernel
  rw [e1, e2]
  unfold Fi Fl.Fin W V
  rw [e3]
  have h := val_le (f := s32) (r := rg s32 x) (s := 2139095039)
  generalize val s32 2139095039 = v at *
  generalize val s32 (rg s32 x) = u at *
  split <;> exact ⟨fun y => ⟨by omega, by omega⟩, fun y => by omega⟩

/-! ### Bounds -/
/-- A number between two whole ones. -/
def Bd (x : Nat) (lo hi : Int) : Prop := Fi x ∧ lo * U32 ≤ W x ∧ W x ≤ hi * U32
theorem Bd.fi {x : Nat} {a b : Int} (h : Bd x a b) : Fi x := h.1
theorem Bd.nn {x : Nat} {a b : Int} (h : Bd x a b) : NaNo x := h.1.nn
theorem Bd.wide {x : Nat} {a b c d : Int} (h : Bd x a b) (h1 : c ≤ a) (h2 : b ≤ d) : Bd x c d :=
  ⟨h.1, Int.le_trans (Int.mul_le_mul_of_nonneg_right h1 (Int.le_of_lt U32_pos)) h.2.1, Int.le_trans h.2.2 (Int.mul_le_mul_of_nonneg_right h2 (Int.le_of_lt U32_pos))⟩
/-- A whole number that the format has. -/
def Rp (n : Int) : Prop := Rep s32 (n * U32) ∧ -2 ^ 128 < n ∧ n < 2 ^ 128
theorem rp_pow {m : Int} {k : Nat} (hm : m.natAbs < 2 ^ 24) (hk : k ≤ 100) : Rp (m * 2 ^ k) := by
  have hU : U32 = ((2 ^ 149 : Nat) : Int) := by rw [U32_eq]; norm_cast
  have hV : VI s32 = 2 ^ 128 * 2 ^ 149 := by decide +kernel
  have hk2 : 2 ^ k ≤ 2 ^ 100 := Nat.pow_le_pow_right (by decide) hk
  have hmk : m.natAbs * 2 ^ k < 2 ^ 128 := by
    have h1 : m.natAbs * 2 ^ k ≤ 2 ^ 24 * 2 ^ 100 := Nat.mul_le_mul (by omega) hk2
    have h2 : 2 ^ 24 * 2 ^ 100 < 2 ^ 128 := by decide
    omega
  have hmi : ((m.natAbs * 2 ^ k : Nat) : Int) = m.natAbs * 2 ^ k := by norm_cast
  have hmi2 : ((m.natAbs * 2 ^ k : Nat) : Int) < 2 ^ 128 := by exact_mod_cast hmk
  have hr := rep_num (f := s32) (n := m.natAbs) (i := (k : Int)) hm (by have : s32.leastPlace = -149 := by decide
                                                                        omega) (by
    rw [hV, show ((k : Int) - s32.leastPlace).toNat = k + 149 by (have : s32.leastPlace = -149 := by decide); omega, Nat.pow_add, ← Nat.mul_assoc]
    exact Nat.mul_le_mul_right _ (Nat.le_of_lt hmk))
  rw [show ((k : Int) - s32.leastPlace).toNat = k + 149 by (have : s32.leastPlace = -149 := by decide); omega, Nat.pow_add, ← Nat.mul_assoc, Int.natCast_mul, ← hU, hmi] at hr
  refine ⟨?_, ?_, ?_⟩
  · rcases Int.natAbs_eq m with e | e
    · rw [e]; exact hr
    · rw [e, Int.neg_mul, Int.neg_mul]; exact rep_neg hr
  · rcases Int.natAbs_eq m with e | e <;> rw [e] <;> (try rw [Int.neg_mul]) <;> rw [← hmi] <;> omega
  · rcases Int.natAbs_eq m with e | e <;> rw [e] <;> (try rw [Int.neg_mul]) <;> rw [← hmi] <;> omega
theorem rp_int {n : Int} (hn : n.natAbs < 2 ^ 24) : Rp n := by have := rp_pow (k := 0) hn (by decide); simpa using this

theorem of_rnd {z : Nat} {e k lo hi : Int} (h : Rnd s32 z e k) (rl : Rp lo) (rh : Rp hi) (h1 : lo * U32 * k ≤ e) (h2 : e ≤ hi * U32 * k) : Bd z lo hi := by
  have a := (h.2 _ rl.1).2 h1
  have b := (h.2 _ rh.1).1 h2
  have u := U32_pos
  refine ⟨fi_iff.2 ⟨?_, ?_⟩, a, b⟩
  · have : (-2 ^ 128) * U32 < lo * U32 := Int.mul_lt_mul_of_pos_right rl.2.1 u
    unfold W; rw [Int.neg_mul] at this; omega
  · have : hi * U32 < 2 ^ 128 * U32 := Int.mul_lt_mul_of_pos_right rh.2.2 u
    unfold W; omega

theorem bd_add {x y : Nat} {a b c d lo hi : Int} (hx : Bd x a b) (hy : Bd y c d) (rl : Rp lo) (rh : Rp hi) (h1 : lo ≤ a + c) (h2 : b + d ≤ hi) : ∃ z, fadd .f32 x y = some z ∧ Bd z lo hi := by
  obtain ⟨z, hz, hr⟩ := add_rnd (f := s32) hx.1 hy.1
  refine ⟨z, hz, of_rnd hr rl rh ?_ ?_⟩
  · have := Int.mul_le_mul_of_nonneg_right h1 (Int.le_of_lt U32_pos)
    rw [Int.add_mul] at this
    have g1 := hx.2.1; have g2 := hy.2.1; unfold W at g1 g2; omega
  · have := Int.mul_le_mul_of_nonneg_right h2 (Int.le_of_lt U32_pos)
    rw [Int.add_mul] at this
    have g1 := hx.2.2; have g2 := hy.2.2; unfold W at g1 g2; omega
theorem bd_sub {x y : Nat} {a b c d lo hi : Int} (hx : Bd x a b) (hy : Bd y c d) (rl : Rp lo) (rh : Rp hi) (h1 : lo ≤ a - d) (h2 : b - c ≤ hi) : ∃ z, fsub .f32 x y = some z ∧ Bd z lo hi := by
  obtain ⟨z, hz, hr⟩ := sub_rnd (f := s32) hx.1 hy.1
  refine ⟨z, hz, of_rnd hr rl rh ?_ ?_⟩
  · have := Int.mul_le_mul_of_nonneg_right h1 (Int.le_of_lt U32_pos)
    rw [Int.sub_mul] at this
    have g1 := hx.2.1; have g2 := hy.2.2; unfold W at g1 g2; omega
  · have := Int.mul_le_mul_of_nonneg_right h2 (Int.le_of_lt U32_pos)
    rw [Int.sub_mul] at this
    have g1 := hx.2.2; have g2 := hy.2.1; unfold W at g1 g2; omega
theorem abs_mul_le {a b A B : Int} (ha : -A ≤ a ∧ a ≤ A) (hb : -B ≤ b ∧ b ≤ B) : -(A * B) ≤ a * b ∧ a * b ≤ A * B := by
  have h : (a * b).natAbs ≤ (A * B).natAbs := by
    rw [Int.natAbs_mul, Int.natAbs_mul]
    exact Nat.mul_le_mul (by omega) (by omega)
  have : 0 ≤ A * B := Int.mul_nonneg (by omega) (by omega)
  omega
/-- A product of numbers of known size. -/
theorem bd_mul {x y : Nat} {b d hi : Int} (hx : Bd x (-b) b) (hy : Bd y (-d) d) (rl : Rp (-hi)) (rh : Rp hi) (h : b * d ≤ hi) : ∃ z, fmul .f32 x y = some z ∧ Bd z (-hi) hi := by
  obtain ⟨z, hz, hr⟩ := mul_rnd (f := s32) hL32 hx.1 hy.1
  have u := U32_pos
  have hX : -(b * U32) ≤ V s32 x ∧ V s32 x ≤ b * U32 := by have := hx.2; rw [Int.neg_mul] at this; exact this
  have hY : -(d * U32) ≤ V s32 y ∧ V s32 y ≤ d * U32 := by have := hy.2; rw [Int.neg_mul] at this; exact this
  have hp := abs_mul_le hX hY
  have e : b * U32 * (d * U32) = b * d * U32 * U32 := by simp only [Int.mul_comm, Int.mul_left_comm, Int.mul_assoc]
  have h2 : b * d * U32 * U32 ≤ hi * U32 * U32 := Int.mul_le_mul_of_nonneg_right (Int.mul_le_mul_of_nonneg_right h (Int.le_of_lt u)) (Int.le_of_lt u)
  have eU : U s32 = U32 := rfl
  refine ⟨z, hz, of_rnd hr rl rh ?_ ?_⟩
  · rw [eU, Int.neg_mul, Int.neg_mul]; omega
  · rw [eU]; omega
theorem bd_mul0 {x y : Nat} {b d hi : Int} (hx : Bd x 0 b) (hy : Bd y 0 d) (rh : Rp hi) (h : b * d ≤ hi) : ∃ z, fmul .f32 x y = some z ∧ Bd z 0 hi := by
  obtain ⟨z, hz, hr⟩ := mul_rnd (f := s32) hL32 hx.1 hy.1
  have u := U32_pos
  have hX : 0 ≤ V s32 x ∧ V s32 x ≤ b * U32 := by have := hx.2; rw [Int.zero_mul] at this; exact this
  have hY : 0 ≤ V s32 y ∧ V s32 y ≤ d * U32 := by have := hy.2; rw [Int.zero_mul] at this; exact this
  have e : b * U32 * (d * U32) = b * d * U32 * U32 := by simp only [Int.mul_comm, Int.mul_left_comm, Int.mul_assoc]
  have h2 : b * d * U32 * U32 ≤ hi * U32 * U32 := Int.mul_le_mul_of_nonneg_right (Int.mul_le_mul_of_nonneg_right h (Int.le_of_lt u)) (Int.le_of_lt u)
  have h3 : V s32 x * V s32 y ≤ b * U32 * (d * U32) := Int.mul_le_mul hX.2 hY.2 hY.1 (by omega)
  have h4 : 0 ≤ V s32 x * V s32 y := Int.mul_nonneg hX.1 hY.1
  have eU : U s32 = U32 := rfl
  refine ⟨z, hz, of_rnd hr (rp_int (by decide)) rh ?_ ?_⟩
  · rw [eU]; simpa using h4
  · rw [eU]; omega
theorem W_bd {x : Nat} {n : Int} (hf : Fi x) (h : W x = n * U32) : Bd x n n := ⟨hf, by omega, by omega⟩
theorem bd_1 : Bd 1065353216 1 1 := W_bd fi_1 W_1
theorem bd_2 : Bd 1073741824 2 2 := W_bd fi_2 W_2
theorem bd_3 : Bd 1077936128 3 3 := W_bd fi_3 W_3
theorem bd_0 : Bd 0 0 0 := W_bd fi_0 (by rw [W_0]; rfl)
/-- A whole number of less than 25 digits is kept as it is. -/
theorem bd_ofI {n : Int} (hn : n.natAbs < 2 ^ 24) : Bd (fofI .f32 n) n n := by
  have hr := int_rnd (f := s32) hL32 n
  exact of_rnd hr (rp_int hn) (rp_int hn) (by rw [Int.mul_one]; exact Int.le_refl _) (by rw [Int.mul_one]; exact Int.le_refl _)
/-- A quotient by a number of at least 1. -/
theorem bd_div {x y : Nat} {a b c d lo hi : Int} (hx : Bd x a b) (hy : Bd y c d) (hc : 0 < c) (rl : Rp lo) (rh : Rp hi) (h1 : lo * (if lo ≤ 0 then c else d) ≤ a) (h2 : b ≤ hi * (if 0 ≤ hi then c else d)) : ∃ z, fdiv .f32 x y = some z ∧ Bd z lo hi := by
  have u := U32_pos
  have hY : c * U32 ≤ V s32 y ∧ V s32 y ≤ d * U32 := hy.2
  have hX : a * U32 ≤ V s32 x ∧ V s32 x ≤ b * U32 := hx.2
  have hpos : 0 < V s32 y := by have := Int.mul_pos hc u; omega
  obtain ⟨z, hz, hr, _⟩ := div_rnd (f := s32) hL32 hx.1 hy.1 (by omega)
  have eU : U s32 = U32 := rfl
  refine ⟨z, hz, of_rnd (hr hpos) rl rh ?_ ?_⟩
  · rw [eU, Int.mul_assoc, Int.mul_comm U32, ← Int.mul_assoc]
    refine Int.mul_le_mul_of_nonneg_right ?_ (Int.le_of_lt u)
    refine Int.le_trans ?_ hX.1
    refine Int.le_trans ?_ (Int.mul_le_mul_of_nonneg_right h1 (Int.le_of_lt u))
    rw [Int.mul_assoc]
    split
    · exact Int.mul_le_mul_of_nonpos_left (by assumption) hY.1
    · exact Int.mul_le_mul_of_nonneg_left hY.2 (by omega)
  · rw [eU, Int.mul_assoc, Int.mul_comm U32, ← Int.mul_assoc]
    refine Int.mul_le_mul_of_nonneg_right ?_ (Int.le_of_lt u)
    refine Int.le_trans hX.2 ?_
    refine Int.le_trans (Int.mul_le_mul_of_nonneg_right h2 (Int.le_of_lt u)) ?_
    rw [Int.mul_assoc]
    split
    · exact Int.mul_le_mul_of_nonneg_left hY.1 (by assumption)
    · exact Int.mul_le_mul_of_nonpos_left (by omega) hY.2
end Sx
