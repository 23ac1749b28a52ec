/- Own text: conversions, roots of whole numbers, mixtures of singles. No program in sight. -/
import Derived.Test.YthibohbaaljnkaaPl
namespace Sx
open Go Fl Ieee
set_option linter.all false
set_option exponentiation.threshold 5000
abbrev s64 : Format := Ieee.double
def U64 : Int := U s64
theorem U64_pos : 0 < U64 := U_pos s64
theorem VI64 : (VI s64 : Int) = 2 ^ 1024 * U64 := by decide +kernel
theorem hL64 : s64.leastPlace ≤ 0 := by decide
theorem rep64 {n : Int} (hn : n.natAbs < 2 ^ 53) : Rep s64 (n * U64) := by
  refine rep_int hL64 hn ?_
  have e : VI s64 = 2 ^ 1024 * 2 ^ (-s64.leastPlace).toNat := by decide +kernel
  rw [e]
  have h1 : n.natAbs ≤ 2 ^ 1024 := by
    have : (2 : Nat) ^ 53 ≤ 2 ^ 1024 := Nat.pow_le_pow_right (by decide) (by decide)
    omega
  exact Nat.mul_le_mul_right _ h1
/-- A conversion of a number between whole ones that the other format has. -/
theorem conv_ok {s d : FloatKind} (hsd : s ≠ d) (hs : s.format.leastPlace ≤ 0) (hd : d.format.leastPlace ≤ 0) {x : Nat} (hx : Fl.Fin s.format x) {lo hi : Int} (rl : Rep d.format (lo * U d.format)) (rh : Rep d.format (hi * U d.format))
    (fl : -(VI d.format : Int) < lo * U d.format) (fh : hi * U d.format < VI d.format) (h1 : lo * U s.format ≤ V s.format x) (h2 : V s.format x ≤ hi * U s.format) :
    ∃ z, fconv s d x = some z ∧ Fl.Fin d.format z ∧ Rnd d.format z (V s.format x * U d.format) (U s.format) := by
  have hr := conv_rnd hs hd hx
  have us := U_pos s.format
  have ud := U_pos d.format
  have b1 := (hr.2 _ rl).2 (by rw [Int.mul_assoc, Int.mul_comm (U d.format), ← Int.mul_assoc]; exact Int.mul_le_mul_of_nonneg_right h1 (Int.le_of_lt ud))
  have b2 := (hr.2 _ rh).1 (by rw [Int.mul_assoc, Int.mul_comm (U d.format), ← Int.mul_assoc]; exact Int.mul_le_mul_of_nonneg_right h2 (Int.le_of_lt ud))
  have hf : Fl.Fin d.format (d.format.write (s.format.read x)) := fin_iff.2 ⟨by omega, by omega⟩
  refine ⟨_, ?_, hf, hr⟩
  unfold fconv
  rw [if_neg hsd]
  have e1 : s.decode x = s.format.read x := rfl
  have e2 : ∀ y, d.encode y = d.format.write y := fun _ => rfl
  have e3 : ∀ y, d.decode y = d.format.read y := fun _ => rfl
  rw [e1, read_fin hx]
  simp only [e2, e3]
  rw [read_fin hx] at hf
  rw [read_fin hf]
  rfl

def rootP (v : Nat) : Option Nat := bnd (fconv .f32 .f64 v) fun r1 => bnd (bnd (fsqrt .f64 r1) fun r1 => some r1) fun r2 => bnd (fconv .f64 .f32 r2) fun r3 => some r3
/-- The root of a whole number: it stands to each whole number as the true root does. -/
theorem root_ofI {n : Int} (h0 : 0 ≤ n) (h : n < 16777216) : ∃ z, rootP (fofI .f32 n) = some z ∧ Bd z 0 4096 ∧ ∀ q : Int, 0 ≤ q → q ≤ 4096 → (q * q ≤ n → q * U32 ≤ W z) ∧ (n ≤ q * q → W z ≤ q * U32) := by
  have hv : Bd (fofI .f32 n) n n := bd_ofI (by omega)
  have u32 := U32_pos
  have u64 := U64_pos
  have eU : U FloatKind.f32.format = U32 := rfl
  have eU' : U FloatKind.f64.format = U64 := rfl
  have k1024 : (2 : Int) ^ 60 ≤ 2 ^ 1024 := by decide +kernel
  have small : ∀ q : Int, q.natAbs < 2 ^ 53 → -(VI s64 : Int) < q * U64 ∧ q * U64 < VI s64 := by
    intro q hq
    rw [VI64]
    have a : (-2 ^ 1024) * U64 < q * U64 := Int.mul_lt_mul_of_pos_right (by omega) u64
    have b : q * U64 < 2 ^ 1024 * U64 := Int.mul_lt_mul_of_pos_right (by omega) u64
    rw [Int.neg_mul] at a
    exact ⟨a, b⟩
  have hn53 : n.natAbs < 2 ^ 53 := by omega
  have q53 : ∀ q : Int, 0 ≤ q → q ≤ 4096 → q.natAbs < 2 ^ 53 := fun q h1 h2 => by omega
  have q24 : ∀ q : Int, 0 ≤ q → q ≤ 4096 → q.natAbs < 2 ^ 24 := fun q h1 h2 => by omega
  clear k1024
  obtain ⟨z1, e1, f1, r1⟩ := conv_ok (s := .f32) (d := .f64) (by decide) hL32 hL64 hv.1 (rep64 hn53) (rep64 hn53) (small n hn53).1 (small n hn53).2 hv.2.1 hv.2.2
  have hVx : V FloatKind.f32.format (fofI .f32 n) = n * U32 := by
    have a := hv.2.1; have b := hv.2.2; unfold W at a b
    exact Int.le_antisymm b a
  have v1 : V s64 z1 = n * U64 := by
    have c := r1.2 _ (rep64 hn53)
    rw [hVx, eU, eU'] at c
    have e : n * U32 * U64 = n * U64 * U32 := by rw [Int.mul_assoc, Int.mul_comm U32, ← Int.mul_assoc]
    exact Int.le_antisymm (c.1 (by omega)) (c.2 (by omega))
  have p1 : 0 ≤ V s64 z1 := by rw [v1]; exact Int.mul_nonneg h0 (Int.le_of_lt u64)
  obtain ⟨z2, e2, nn2, r2⟩ := sqrt_rnd (f := s64) hL64 f1 p1
  have sqle : ∀ q : Int, 0 ≤ q → (n ≤ q * q → V s64 z1 * U s64 ≤ q * U64 * (q * U64)) ∧ (q * q ≤ n → q * U64 * (q * U64) ≤ V s64 z1 * U s64) := by
    intro q hq
    rw [v1, show U s64 = U64 from rfl, show q * U64 * (q * U64) = q * q * U64 * U64 by simp only [Int.mul_comm, Int.mul_left_comm, Int.mul_assoc]]
    exact ⟨fun h => Int.mul_le_mul_of_nonneg_right (Int.mul_le_mul_of_nonneg_right h (Int.le_of_lt u64)) (Int.le_of_lt u64), fun h => Int.mul_le_mul_of_nonneg_right (Int.mul_le_mul_of_nonneg_right h (Int.le_of_lt u64)) (Int.le_of_lt u64)⟩
  have b2 : ∀ q : Int, 0 ≤ q → q ≤ 4096 → (n ≤ q * q → V s64 z2 ≤ q * U64) ∧ (q * q ≤ n → q * U64 ≤ V s64 z2) := by
    intro q hq hq2
    have c := r2 _ (rep64 (q53 q hq hq2)) (Int.mul_nonneg hq (Int.le_of_lt u64))
    exact ⟨fun h => c.1 ((sqle q hq).1 h), fun h => c.2 ((sqle q hq).2 h)⟩
  have lo2 : 0 * U64 ≤ V s64 z2 := (b2 0 (by omega) (by omega)).2 (by omega)
  have hi2 : V s64 z2 ≤ 4096 * U64 := (b2 4096 (by omega) (by omega)).1 (by omega)
  have f2 : Fl.Fin s64 z2 := by
    have := (small 4096 (by decide)).2
    have := (small 0 (by decide)).1
    exact fin_iff.2 ⟨by omega, by omega⟩
  have g0 := rp_int (n := 0) (by decide)
  have g4 := rp_int (n := 4096) (by decide)
  have fin32 : ∀ q : Int, -2 ^ 128 < q → q < 2 ^ 128 → -(VI s32 : Int) < q * U32 ∧ q * U32 < VI s32 := by
    intro q h1 h2
    rw [VI32]
    have a : (-2 ^ 128) * U32 < q * U32 := Int.mul_lt_mul_of_pos_right h1 u32
    have b : q * U32 < 2 ^ 128 * U32 := Int.mul_lt_mul_of_pos_right h2 u32
    rw [Int.neg_mul] at a
    exact ⟨a, b⟩
  obtain ⟨z3, e3, f3, r3⟩ := conv_ok (s := .f64) (d := .f32) (by decide) hL64 hL32 f2 g0.1 g4.1 (fin32 0 (by decide) (by decide)).1 (fin32 4096 (by decide) (by decide)).2 lo2 hi2
  have b3 : ∀ q : Int, 0 ≤ q → q ≤ 4096 → (n ≤ q * q → W z3 ≤ q * U32) ∧ (q * q ≤ n → q * U32 ≤ W z3) := by
    intro q hq hq2
    have c := r3.2 _ (rp_int (q24 q hq hq2)).1
    rw [eU, eU'] at c
    have c2 := b2 q hq hq2
    have em : ∀ a : Int, a * U32 * U64 = a * U64 * U32 := fun a => by rw [Int.mul_assoc, Int.mul_comm U32, ← Int.mul_assoc]
    refine ⟨fun h => c.1 ?_, fun h => c.2 ?_⟩
    · rw [em]; exact Int.mul_le_mul_of_nonneg_right (c2.1 h) (Int.le_of_lt u32)
    · rw [em]; exact Int.mul_le_mul_of_nonneg_right (c2.2 h) (Int.le_of_lt u32)
  refine ⟨z3, ?_, ⟨f3, (b3 0 (by omega) (by omega)).2 (by omega), (b3 4096 (by omega) (by omega)).1 (by omega)⟩, fun q hq hq2 => ⟨(b3 q hq hq2).2, (b3 q hq hq2).1⟩⟩
  have e2' : fsqrt .f64 z1 = some z2 := e2
  unfold rootP
  rw [e1, bnd_def, e2', bnd_def, bnd_def, e3, bnd_def]

theorem rp {n : Int} (h : n.natAbs < 2 ^ 24) : Rp n := rp_int h
def mixP (a b w : Nat) : Option Nat := bnd (fsub .f32 b a) fun r1 => bnd (fmul .f32 r1 w) fun r2 => bnd (fadd .f32 a r2) fun r3 => some r3
theorem mix_ok {a b w : Nat} (ha : Bd a (-1048576) 1048576) (hb : Bd b (-1048576) 1048576) (hw : Bd w 0 3) : ∃ z, mixP a b w = some z ∧ Bd z (-8388608) 8388608 := by
  obtain ⟨c, hc, bc⟩ := bd_sub hb ha (rp (n := -2097152) (by decide)) (rp (n := 2097152) (by decide)) (by decide) (by decide)
  obtain ⟨d, hd, bd⟩ := bd_mul (b := 2097152) (d := 3) bc (hw.wide (by decide) (Int.le_refl _)) (rp (n := -6291456) (by decide)) (rp (n := 6291456) (by decide)) (by decide)
  obtain ⟨e, he, be⟩ := bd_add ha bd (rp (n := -8388608) (by decide)) (rp (n := 8388608) (by decide)) (by decide) (by decide)
  exact ⟨e, by unfold mixP; rw [hc, bnd_def, hd, bnd_def, he, bnd_def], be⟩
end Sx
