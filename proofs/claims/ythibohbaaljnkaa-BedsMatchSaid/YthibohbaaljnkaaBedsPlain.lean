/- Own text: BedsMatch: what the law computes is true, for all values that can be read. -/
import Derived.Test.YthibohbaaljnkaaPlWay
import Derived.Test.YthibohbaaljnkaaPlFloat
import Derived.Test.YthibohbaaljnkaaOp
namespace Go.Proofs.Ythibohbaaljnkaa
open Go Sx Fl Ieee
set_option linter.all false
set_option exponentiation.threshold 5000

/-! ### Lengths of steps -/
def r2 : Nat := 1068827891
theorem root2 : tarnref2_Root_p 1073741824 = some r2 := by kernel_rfl
def lenOf (l : Int × Int) : Option Nat := if l.2 = 1 then some (if l.1 % 2 = 1 then r2 else 1065353216) else if l.1 % 2 = 1 then fmul .f32 (fofI .f32 l.2) r2 else some (fofI .f32 l.2)
theorem mul_one : ∀ n : Int, 2 ≤ n → n ≤ 12 → fmul .f32 (fofI .f32 n) 1065353216 = some (fofI .f32 n) := by
  intro n h1 h2
  have c : n = 2 ∨ n = 3 ∨ n = 4 ∨ n = 5 ∨ n = 6 ∨ n = 7 ∨ n = 8 ∨ n = 9 ∨ n = 10 ∨ n = 11 ∨ n = 12 := by omega
  rcases c with rfl | rfl | rfl | rfl | rfl | rfl | rfl | rfl | rfl | rfl | rfl <;> decide +kernel
theorem StepLength_eq {d : Int} (h : 0 ≤ d) : water_StepLength_p d = some (if d % 2 = 1 then r2 else 1065353216) := by
  unfold water_StepLength_p
  rw [remI_eq h]
  by_cases c : d % 2 = 1
  · rw [if_pos (by simpa using c), if_pos c]; rfl
  · rw [if_neg (by simpa using c), if_neg c]
theorem length_eq {d n : Int} (h : 0 ≤ d) (h1 : 1 ≤ n) (h2 : n ≤ 12) : road_length_p d n = lenOf (d, n) := by
  unfold road_length_p lenOf
  simp only
  by_cases c : n = 1
  · rw [if_pos (by simpa using c), if_pos c, StepLength_eq h, bnd_def]
  · rw [if_neg (by simpa using c), if_neg c, StepLength_eq h, bnd_def]
    by_cases c2 : d % 2 = 1
    · simp only [if_pos c2]
      cases fmul .f32 (fofI .f32 n) r2 <;> rfl
    · simp only [if_neg c2]
      rw [mul_one n (by omega) h2, bnd_def]
theorem Reach_eq {d n : Int} (h : 0 ≤ d) : tarnref2_Reach_p d n = lenOf (d, n) := by
  unfold tarnref2_Reach_p tarnref2_Long_p lenOf
  rw [remI_eq h, root2]
  simp only [bnd_def]
  by_cases c : n = 1
  · rw [if_pos (by simpa using c), if_pos c]
    by_cases c2 : d % 2 = 1
    · rw [if_pos (by simpa using c2), if_pos c2, bnd_def]
    · rw [if_neg (by simpa using c2), if_neg c2, bnd_def]
  · rw [if_neg (by simpa using c), if_neg c]
    by_cases c2 : d % 2 = 1
    · rw [if_pos (by simpa using c2), if_pos c2]
      cases fmul .f32 (fofI .f32 n) r2 <;> rfl
    · rw [if_neg (by simpa using c2), if_neg c2]
theorem bd_r2 : Bd r2 1 2 := by
  have hf : Fi r2 := by unfold Fi Fl.Fin; decide +kernel
  have h1 : 1 * U32 ≤ W r2 := by decide +kernel
  have h2 : W r2 ≤ 2 * U32 := by decide +kernel
  exact ⟨hf, h1, h2⟩
theorem bd_mul1 {x y : Nat} {a b : Int} (ha : 1 ≤ a) (hx : Bd x a b) (hy : Bd y 1 2) (rh : Rp (b * 2)) : ∃ z, fmul .f32 x y = some z ∧ Bd z 1 (b * 2) := by
  obtain ⟨z, hz, hr⟩ := mul_rnd (f := s32) hL32 hx.1 hy.1
  have u := U32_pos
  have eU : U s32 = U32 := rfl
  have hX : a * U32 ≤ V s32 x ∧ V s32 x ≤ b * U32 := hx.2
  have hY : 1 * U32 ≤ V s32 y ∧ V s32 y ≤ 2 * U32 := hy.2
  have a1 : 1 * U32 ≤ a * U32 := Int.mul_le_mul_of_nonneg_right ha (Int.le_of_lt u)
  refine ⟨z, hz, of_rnd hr (rp (n := 1) (by decide)) rh ?_ ?_⟩
  · rw [eU]
    exact Int.mul_le_mul (by omega) (by omega) (by omega) (by omega)
  · rw [eU, show b * 2 * U32 * U32 = b * U32 * (2 * U32) by simp only [Int.mul_comm, Int.mul_left_comm, Int.mul_assoc]]
    exact Int.mul_le_mul hX.2 hY.2 (by omega) (by omega)
theorem lenOf_ok {l : Int × Int} (h0 : 0 ≤ l.1) (h1 : 1 ≤ l.2) (h2 : l.2 ≤ 12) : ∃ z, lenOf l = some z ∧ Bd z 1 24 := by
  unfold lenOf
  by_cases c : l.2 = 1
  · rw [if_pos c]
    refine ⟨_, rfl, ?_⟩
    split
    · exact bd_r2.wide (by decide) (by decide)
    · exact bd_1.wide (by decide) (by decide)
  · rw [if_neg c]
    have bn := bd_ofI (n := l.2) (by omega)
    split
    · obtain ⟨z, hz, bz⟩ := bd_mul1 h1 bn bd_r2 (rp (by omega))
      exact ⟨z, hz, bz.wide (Int.le_refl _) (by omega)⟩
    · exact ⟨_, rfl, bn.wide h1 (by omega)⟩

/-! ### Magnitudes -/
theorem sgn_nearest (f : Format) (s : Bool) (n : Nat) (i : Int) : sgn f (f.nearest s n i) = s := by
  rw [nearest_eq]; exact sgn_word (rung_le f n i)
theorem andNot_top (k : IntKind) (m : Nat) (hk : (k = .u32 ∧ m = 31) ∨ (k = .u64 ∧ m = 63)) {x : Nat} (hx : x < 2 ^ (m + 1)) : (bitsI .andNot k (x : Int) ((2 ^ m : Nat) : Int)).toNat = x % 2 ^ m := by
  rcases hk with ⟨rfl, rfl⟩ | ⟨rfl, rfl⟩
  · show (IntKind.wrap .u32 (((BitVec.ofInt 32 (x : Int)) &&& ~~~ (BitVec.ofInt 32 ((2 ^ 31 : Nat) : Int))).toNat : Int)).toNat = _
    have e1 : (~~~ (BitVec.ofInt 32 ((2 ^ 31 : Nat) : Int))) = BitVec.ofNat 32 (2 ^ 31 - 1) := by decide
    rw [e1, BitVec.toNat_and]
    have e2 : (BitVec.ofInt 32 (x : Int)).toNat = x := by simp [BitVec.toNat_ofInt]; omega
    have e3 : (BitVec.ofNat 32 (2 ^ 31 - 1)).toNat = 2 ^ 31 - 1 := by decide
    rw [e2, e3, Nat.and_two_pow_sub_one_eq_mod]
    have : x % 2 ^ 31 < 2 ^ 31 := Nat.mod_lt _ (by decide)
    unfold IntKind.wrap; simp [IntKind.bits, IntKind.signed]; omega
  · show (IntKind.wrap .u64 (((BitVec.ofInt 64 (x : Int)) &&& ~~~ (BitVec.ofInt 64 ((2 ^ 63 : Nat) : Int))).toNat : Int)).toNat = _
    have e1 : (~~~ (BitVec.ofInt 64 ((2 ^ 63 : Nat) : Int))) = BitVec.ofNat 64 (2 ^ 63 - 1) := by decide
    rw [e1, BitVec.toNat_and]
    have e2 : (BitVec.ofInt 64 (x : Int)).toNat = x := by simp [BitVec.toNat_ofInt]; omega
    have e3 : (BitVec.ofNat 64 (2 ^ 63 - 1)).toNat = 2 ^ 63 - 1 := by decide
    rw [e2, e3, Nat.and_two_pow_sub_one_eq_mod]
    have : x % 2 ^ 63 < 2 ^ 63 := Nat.mod_lt _ (by decide)
    unfold IntKind.wrap; simp [IntKind.bits, IntKind.signed]; omega
/-- The magnitude of a number: its word without the sign. -/
theorem Abs_eq {x : Nat} (h : x < 2 ^ 32) : tarnref2_Abs_p x = some (x % 2147483648) := by
  unfold tarnref2_Abs_p
  congr 1
  exact andNot_top .u32 31 (.inl ⟨rfl, rfl⟩) (by simpa using h)
theorem val_inj {f : Format} {r s : Nat} (h : val f r = val f s) : r = s := by
  have a := val_le (f := f) (r := r) (s := s)
  have b := val_le (f := f) (r := s) (s := r)
  omega
/-- A conversion that keeps a number: sign and worth. -/
theorem conv_exact {s d : FloatKind} (hsd : s ≠ d) (hs : s.format.leastPlace ≤ 0) (hd : d.format.leastPlace ≤ 0) {x : Nat} (hx : Fl.Fin s.format x) {t : Int} (ht : Rep d.format t) (hfl : -(VI d.format : Int) < t) (hfh : t < VI d.format) (he : V s.format x * U d.format = t * U s.format) :
    ∃ z, fconv s d x = some z ∧ Fl.Fin d.format z ∧ V d.format z = t ∧ sgn d.format z = sgn s.format x ∧ z < 2 ^ d.format.width := by
  have hr := conv_rnd hs hd hx
  have b1 := (hr.2 _ ht).2 (by omega)
  have b2 := (hr.2 _ ht).1 (by omega)
  have hf : Fl.Fin d.format (d.format.write (s.format.read x)) := fin_iff.2 ⟨by omega, by omega⟩
  refine ⟨d.format.write (s.format.read x), ?_, hf, by omega, ?_, d.format.write_lt _⟩
  · unfold fconv
    rw [if_neg hsd]
    have e1 : s.decode x = s.format.read x := rfl
    have e2 : ∀ y, d.encode y = d.format.write y := fun _ => rfl
    have e3 : ∀ y, d.decode y = d.format.read y := fun _ => rfl
    rw [e1, read_fin hx]
    simp only [e2, e3]
    rw [read_fin hx] at hf
    rw [read_fin hf]
    rfl
  · rw [read_fin hx]
    exact sgn_nearest _ _ _ _
theorem word_of {f : Format} {z : Nat} (hz : z < 2 ^ f.width) {s : Bool} {r : Nat} (hr : r ≤ f.infRung) (hs : sgn f z = s) (hn : NN f z) (hv : val f (rg f z) = val f r) : z = f.word s r := by
  rw [← word_sgn_rg hz, hs, val_inj hv]

theorem sw32 : s32.signWeight = 2147483648 := by decide +kernel
theorem sw64 : s64.signWeight = 9223372036854775808 := by decide +kernel
theorem w32 : s32.width = 32 := by decide +kernel
theorem w64 : s64.width = 64 := by decide +kernel
theorem clear_word {f : Format} (x : Nat) : sgn f (x % f.signWeight) = false ∧ rg f (x % f.signWeight) = rg f x := by
  have hp : 0 < f.signWeight := Nat.two_pow_pos _
  have hl := Nat.mod_lt x hp
  unfold sgn rg
  rw [Nat.div_eq_of_lt hl, Nat.mod_mod]
  exact ⟨rfl, rfl⟩
theorem V_clear {f : Format} (x : Nat) : V f (x % f.signWeight) = (val f (rg f x) : Int) := by
  obtain ⟨h1, h2⟩ := clear_word (f := f) x
  unfold V
  rw [h1, h2]; simp
theorem V_abs {f : Format} (x : Nat) : (val f (rg f x) : Int) = if sgn f x then -(V f x) else V f x := by
  unfold V; cases sgn f x <;> simp
theorem rep_64_32 {x : Nat} (hx : Fl.Fin s32 x) : Rep s64 (V s32 x * 2 ^ 925) := by
  have hm := magOf_lt s32 (rg s32 x)
  have hVI : (V s32 x).natAbs < 2 ^ 128 * 2 ^ 149 := by
    have := fi_iff.1 (show Fi x from hx)
    rw [U32_eq] at this
    unfold W at this
    omega
  have hval : (val s32 (rg s32 x) : Int) * 2 ^ 925 = ((magOf s32 (rg s32 x) * 2 ^ ((s32.leastPlace + (upOf s32 (rg s32 x) : Int)) - s64.leastPlace).toNat : Nat) : Int) := by
    have e : ((s32.leastPlace + (upOf s32 (rg s32 x) : Int)) - s64.leastPlace).toNat = upOf s32 (rg s32 x) + 925 := by
      have h1 : s32.leastPlace = -149 := by decide
      have h2 : s64.leastPlace = -1074 := by decide
      rw [h1, h2]; omega
    rw [e, Nat.pow_add, ← Nat.mul_assoc]
    unfold val
    rw [Int.natCast_mul _ (2 ^ 925)]
    congr 1
  have hr : Rep s64 ((val s32 (rg s32 x) : Int) * 2 ^ 925) := by
    rw [hval]
    refine rep_num ?_ ?_ ?_
    · have : 2 ^ (s32.fractionBits + 1) ≤ 2 ^ (s64.fractionBits + 1) := Nat.pow_le_pow_right (by decide) (by decide)
      omega
    · have h1 : s32.leastPlace = -149 := by decide
      have h2 : s64.leastPlace = -1074 := by decide
      rw [h1, h2]; omega
    · have e : (VI s64 : Nat) = 2 ^ 1024 * 2 ^ 1074 := by decide +kernel
      have h : ((magOf s32 (rg s32 x) * 2 ^ ((s32.leastPlace + (upOf s32 (rg s32 x) : Int)) - s64.leastPlace).toNat : Nat) : Int) ≤ ((VI s64 : Nat) : Int) := by
        rw [← hval, e]
        have hv : (val s32 (rg s32 x) : Int) ≤ 2 ^ 128 * 2 ^ 149 := by
          rw [V_abs]; split <;> omega
        have a : (val s32 (rg s32 x) : Int) * 2 ^ 925 ≤ 2 ^ 128 * 2 ^ 149 * 2 ^ 925 := Int.mul_le_mul_of_nonneg_right hv (by decide +kernel)
        have b : (2 : Int) ^ 128 * 2 ^ 149 * 2 ^ 925 ≤ ((2 ^ 1024 * 2 ^ 1074 : Nat) : Int) := by decide +kernel
        omega
      omega
  rw [V_abs] at hr
  split at hr
  · rw [Int.neg_mul] at hr
    have := rep_neg hr
    rwa [Int.neg_neg] at this
  · exact hr

theorem p1074 : (2 : Int) ^ 925 * 2 ^ 149 = 2 ^ 1074 := by rw [← Int.pow_add]
theorem Magnitude_eq {x : Nat} (h : x < 2 ^ 32) (hx : Fi x) : noise_Magnitude_p x = some (x % 2147483648) := by
  have hx' : Fl.Fin FloatKind.f32.format x := hx
  have u64 : U FloatKind.f64.format = 2 ^ 1074 := by decide +kernel
  have u32 : U FloatKind.f32.format = 2 ^ 149 := by decide +kernel
  have hb := fi_iff.1 hx
  rw [U32_eq] at hb
  have big : ∀ t : Int, -(2 ^ 128 * 2 ^ 149) < t → t < 2 ^ 128 * 2 ^ 149 → -(VI s64 : Int) < t * 2 ^ 925 ∧ t * 2 ^ 925 < (VI s64 : Int) := by
    intro t h1 h2
    have e : (VI s64 : Int) = 2 ^ 1024 * 2 ^ 1074 := by decide +kernel
    rw [e]
    have p : (0 : Int) < 2 ^ 925 := by decide +kernel
    have a := Int.mul_lt_mul_of_pos_right h1 p
    have b := Int.mul_lt_mul_of_pos_right h2 p
    have c : (2 : Int) ^ 128 * 2 ^ 149 * 2 ^ 925 ≤ 2 ^ 1024 * 2 ^ 1074 := by decide +kernel
    rw [Int.neg_mul] at a
    omega
  have g := big (W x) hb.1 hb.2
  unfold W at g hb
  obtain ⟨z1, e1, f1, v1, s1, l1⟩ := conv_exact (s := .f32) (d := .f64) (by decide) hL32 hL64 hx' (rep_64_32 hx) g.1 g.2 (by
    rw [u64, u32, Int.mul_assoc, p1074]; rfl)
  have hz1 : z1 < 2 ^ 64 := by have := l1; rwa [show FloatKind.f64.format.width = 64 from w64] at this
  have ha : math_Abs_p z1 = some (z1 % s64.signWeight) := by
    unfold math_Abs_p
    congr 1
    rw [sw64]
    exact andNot_top .u64 63 (.inr ⟨rfl, rfl⟩) (by simpa using hz1)
  have c1 := clear_word (f := s64) z1
  have f2 : Fl.Fin s64 (z1 % s64.signWeight) := by unfold Fl.Fin; rw [c1.2]; exact f1
  have v2 : V s64 (z1 % s64.signWeight) = (val s32 (rg s32 x) : Int) * 2 ^ 925 := by
    have s1' : sgn s64 z1 = sgn s32 x := s1
    rw [V_clear, V_abs, V_abs, s1']
    have v1' : V s64 z1 = V s32 x * 2 ^ 925 := v1
    rw [v1']
    show (if sgn s32 x = true then _ else _) = _
    split
    · rw [Int.neg_mul]
    · rfl
  have hV : (val s32 (rg s32 x) : Int) = V s32 (x % s32.signWeight) := (V_clear x).symm
  have f3 : Fl.Fin s32 (x % s32.signWeight) := by unfold Fl.Fin; rw [(clear_word x).2]; exact hx
  have hb3 := fi_iff.1 (show Fi (x % s32.signWeight) from f3)
  rw [← VI32] at hb3
  unfold W at hb3
  obtain ⟨z3, e3, f4, v3, s3, l3⟩ := conv_exact (s := .f64) (d := .f32) (by decide) hL64 hL32 (x := z1 % s64.signWeight) f2 (t := (val s32 (rg s32 x) : Int)) (by rw [hV]; exact rep_V f3.nn) (by rw [hV]; exact hb3.1) (by rw [hV]; exact hb3.2) (by
    have v2' : V FloatKind.f64.format (z1 % s64.signWeight) = (val s32 (rg s32 x) : Int) * 2 ^ 925 := v2
    rw [u64, u32, v2', Int.mul_assoc, p1074])
  have hz3 : z3 = x % 2147483648 := by
    have s3' : sgn s32 z3 = false := s3.trans c1.1
    have hv : val s32 (rg s32 z3) = val s32 (rg s32 x) := by
      have v3' : V s32 z3 = (val s32 (rg s32 x) : Int) := v3
      rw [V_nat, s3'] at v3'
      simp only [Bool.false_eq_true, if_false] at v3'
      exact_mod_cast v3'
    have := word_of (f := s32) l3 (s := false) (r := rg s32 x) (Nat.le_of_lt hx) s3' (Fl.Fin.nn f4) hv
    rw [this]
    unfold Format.word rg
    rw [sw32]; simp
  unfold noise_Magnitude_p
  rw [e1, bnd_def, ha, bnd_def, e3, bnd_def, hz3]
theorem bd_abs {x : Nat} {b : Int} (hx : Bd x (-b) b) : Bd (x % 2147483648) 0 b := by
  have e : x % 2147483648 = x % s32.signWeight := by rw [sw32]
  rw [e]
  have h1 := hx.2.1
  have h2 := hx.2.2
  refine ⟨by unfold Fi Fl.Fin; rw [(clear_word x).2]; exact hx.1, ?_, ?_⟩
  · unfold W; rw [V_clear]; omega
  · unfold W at h1 h2 ⊢
    rw [V_clear, V_abs]
    rw [Int.neg_mul] at h1
    split <;> omega
end Go.Proofs.Ythibohbaaljnkaa
