/- Own text: regions and fields: the program's checks and the document's. -/
import Derived.Test.YthibohbaaljnkaaPlNum
namespace Go.Proofs.Ythibohbaaljnkaa
open Sx
set_option linter.all false

def regE (r : S_api_Region) : Int :=
  if r.W < 1 ∨ r.W > 512 ∨ r.H < 1 ∨ r.H > 512 then 3 else if mulI r.W r.H > 65536 then 4
  else if r.X < -4194304 ∨ r.Y < -4194304 ∨ r.X > subI 4194304 r.W ∨ r.Y > subI 4194304 r.H then 5 else 0
structure RegOK (r : S_api_Region) : Prop where
  w1 : 1 ≤ r.W
  w2 : r.W ≤ 512
  h1 : 1 ≤ r.H
  h2 : r.H ≤ 512
  wh : r.W * r.H ≤ 65536
  x1 : -4194304 ≤ r.X
  x2 : r.X + r.W ≤ 4194304
  y1 : -4194304 ≤ r.Y
  y2 : r.Y + r.H ≤ 4194304

theorem wh_eq {r : S_api_Region} (h1 : 1 ≤ r.W) (h2 : r.W ≤ 512) (h3 : 1 ≤ r.H) (h4 : r.H ≤ 512) : mulI r.W r.H = r.W * r.H ∧ 0 ≤ r.W * r.H ∧ r.W * r.H ≤ 262144 := by
  have a := Int.mul_le_mul h2 h4 (by omega) (by omega)
  have b := Int.mul_nonneg (show 0 ≤ r.W by omega) (show 0 ≤ r.H by omega)
  exact ⟨mulI_eq ⟨by omega, by omega⟩, b, by omega⟩
theorem regE_zero {r : S_api_Region} : regE r = 0 ↔ RegOK r := by
  unfold regE
  constructor
  · intro h
    split at h
    · cases h
    · rename_i c1
      have c : 1 ≤ r.W ∧ r.W ≤ 512 ∧ 1 ≤ r.H ∧ r.H ≤ 512 := by omega
      obtain ⟨m1, m2, m3⟩ := wh_eq c.1 c.2.1 c.2.2.1 c.2.2.2
      rw [m1, subI_eq (by omega), subI_eq (by omega)] at h
      split at h
      · cases h
      · split at h
        · cases h
        · exact ⟨by omega, by omega, by omega, by omega, by omega, by omega, by omega, by omega, by omega⟩
  · intro ⟨a1, a2, a3, a4, a5, a6, a7, a8, a9⟩
    obtain ⟨m1, m2, m3⟩ := wh_eq a1 a2 a3 a4
    rw [m1, subI_eq (by omega), subI_eq (by omega), if_neg (by omega), if_neg (by omega), if_neg (by omega)]

theorem RegionError_eq (r : S_api_Region) : tarnref2_RegionError_p r = some (regE r) := by
  unfold tarnref2_RegionError_p regE
  simp only [Bool.or_eq_true, decide_eq_true_eq]
  split
  · rfl
  · split
    · rfl
    · split <;> rfl
theorem CheckRegion_eq (r : S_api_Region) : field_CheckRegion_p r = some (regE r) := by
  unfold field_CheckRegion_p field_side_p
  simp only [bnd_def]
  by_cases hw : r.W ≥ 1 ∧ r.W ≤ 512
  · by_cases hh : r.H ≥ 1 ∧ r.H ≤ 512
    · simp only [hw.1, hw.2, hh.1, hh.2, decide_true, Bool.and_self, Bool.not_true, Bool.false_eq_true, if_false, bnd_def, Bool.or_eq_true, decide_eq_true_eq]
      unfold regE
      rw [if_neg (show ¬ (r.W < 1 ∨ r.W > 512 ∨ r.H < 1 ∨ r.H > 512) by omega)]
      split
      · rfl
      · split <;> rfl
    · have : (decide (r.H ≥ 1) && decide (r.H ≤ 512)) = false := by rw [← Bool.decide_and, decide_eq_false hh]
      simp only [hw.1, hw.2, decide_true, Bool.and_self, Bool.not_true, Bool.false_eq_true, if_false, bnd_def, this, Bool.not_false, if_true]
      unfold regE
      rw [if_pos (by omega)]
  · have : (decide (r.W ≥ 1) && decide (r.W ≤ 512)) = false := by rw [← Bool.decide_and, decide_eq_false hw]
    simp only [this, Bool.not_false, if_true, bnd_def]
    unfold regE
    rw [if_pos (by omega)]

def fieldE (f : S_api_Field) : Int := if regE f.Region ≠ 0 then regE f.Region else if (f.V.length : Int) ≠ mulI f.Region.W f.Region.H then 2 else numE f.V
structure FieldOK (f : S_api_Field) : Prop extends RegOK f.Region where
  len : (f.V.length : Int) = f.Region.W * f.Region.H
  hts : ∀ v ∈ f.V, hgtB v = true
theorem fieldE_zero {f : S_api_Field} : fieldE f = 0 ↔ FieldOK f := by
  unfold fieldE
  constructor
  · intro h
    split at h
    · rename_i h1; exact absurd h h1
    · rename_i h1
      have hr := regE_zero.1 (Decidable.of_not_not h1)
      obtain ⟨m1, m2, m3⟩ := wh_eq hr.w1 hr.w2 hr.h1 hr.h2
      split at h
      · cases h
      · rename_i h2
        exact { toRegOK := hr, len := by omega, hts := numE_zero.1 h }
  · intro h
    obtain ⟨m1, m2, m3⟩ := wh_eq h.w1 h.w2 h.h1 h.h2
    rw [if_neg (by rw [regE_zero.2 h.toRegOK]; omega), if_neg (by rw [m1, h.len]; omega)]
    exact numE_zero.2 h.hts
theorem bne_dec (a b : Int) : (a != b) = decide (a ≠ b) := by
  by_cases h : a = b
  · subst h; simp
  · simp [h]
theorem Check_eq (f : S_api_Field) : field_Check_p f = some (fieldE f) := by
  unfold field_Check_p fieldE
  rw [CheckRegion_eq, bnd_def, Heights_eq]
  simp only [bne_dec, decide_eq_true_eq, bnd_def]
  split
  · rfl
  · split <;> rfl
theorem FieldError_eq (f : S_api_Field) : tarnref2_FieldError_p f = some (fieldE f) := by
  unfold tarnref2_FieldError_p fieldE
  rw [RegionError_eq, bnd_def, NumberError_eq]
  simp only [bne_dec, decide_eq_true_eq, bnd_def]
  split
  · rfl
  · split <;> rfl
theorem FieldOK.lenN {f : S_api_Field} (h : FieldOK f) : f.V.length = (f.Region.W * f.Region.H).toNat := by have := h.len; omega
theorem FieldOK.le {f : S_api_Field} (h : FieldOK f) : f.V.length ≤ 65536 := by have := h.len; have := h.wh; omega

/-! ### Places -/
def inR (r : S_api_Region) (x y : Int) : Prop := r.X ≤ x ∧ x < r.X + r.W ∧ r.Y ≤ y ∧ y < r.Y + r.H
instance (r : S_api_Region) (x y : Int) : Decidable (inR r x y) := by unfold inR; infer_instance
def cellOf (r : S_api_Region) (x y : Int) : Int := (y - r.Y) * r.W + (x - r.X)
theorem cell_bounds {r : S_api_Region} (h : RegOK r) {x y : Int} (hi : inR r x y) : 0 ≤ cellOf r x y ∧ cellOf r x y < r.W * r.H := by
  unfold cellOf
  obtain ⟨i1, i2, i3, i4⟩ := hi
  have a := Int.mul_nonneg (show 0 ≤ y - r.Y by omega) (show 0 ≤ r.W by have := h.w1; omega)
  have b : (y - r.Y) * r.W ≤ (r.H - 1) * r.W := Int.mul_le_mul_of_nonneg_right (by omega) (by have := h.w1; omega)
  have e : (r.H - 1) * r.W = r.W * r.H - r.W := by rw [Int.sub_mul, Int.one_mul, Int.mul_comm]
  exact ⟨by omega, by omega⟩
theorem Has_eq {r : S_api_Region} (h : RegOK r) (x y : Int) : tarnref2_Has_p r x y = some (decide (inR r x y)) := by
  unfold tarnref2_Has_p
  obtain ⟨a1, a2, a3, a4, a5, a6, a7, a8, a9⟩ := h
  rw [addI_eq (by omega), addI_eq (by omega)]
  congr 1
  rw [Bool.eq_iff_iff]
  simp only [Bool.and_eq_true, decide_eq_true_eq]
  unfold inR
  omega
theorem Has_tot (r : S_api_Region) (x y : Int) : ∃ b, tarnref2_Has_p r x y = some b := ⟨_, rfl⟩
theorem Place_eq {r : S_api_Region} (h : RegOK r) (x y : Int) : field_Place_p r x y = some (if inR r x y then (cellOf r x y, true) else (0, false)) := by
  unfold field_Place_p
  have hr := h
  obtain ⟨a1, a2, a3, a4, a5, a6, a7, a8, a9⟩ := h
  rw [addI_eq (by omega), addI_eq (by omega)]
  by_cases hi : inR r x y
  · rw [if_pos hi, if_neg]
    · obtain ⟨c1, c2⟩ := cell_bounds hr hi
      unfold cellOf at *
      obtain ⟨i1, i2, i3, i4⟩ := hi
      have hm := mul_bound (a := y - r.Y) (A := 512) (b := r.W) (B := 512) (by omega) (by omega)
      rw [subI_eq (a := y) (by omega), mulI_eq (by omega), addI_eq (by omega), subI_eq (by omega)]
      congr 2; omega
    · simp only [Bool.or_eq_true, decide_eq_true_eq]; unfold inR at hi; omega
  · rw [if_neg hi, if_pos]
    simp only [Bool.or_eq_true, decide_eq_true_eq]; unfold inR at hi; omega

/-! ### Laws' small words -/
theorem when_eq (b : Bool) (e : Int) : tarnlaw2_when_p b e = some (if b then e else 0) := by unfold tarnlaw2_when_p; cases b <;> rfl
theorem within_eq (n a b : Int) : tarnlaw2_within_p n a b = some (decide (a ≤ n ∧ n ≤ b)) := by
  unfold tarnlaw2_within_p; rw [Bool.decide_and]
def firstN (l : List Int) : Int := (l.find? (· != 0)).getD 0
theorem first_eq (l : List Int) : tarnlaw2_first_p l = some (firstN l) := by
  unfold tarnlaw2_first_p firstN
  rw [forI_first l (fun x => if (x != 0) = true then some x else none) _ (by
    intro i x hx
    rw [idx_get hx, bnd_def]
    cases (x != 0) <;> rfl)]
  rw [bnd_def]
  have : List.findSome? (fun x : Int => if (x != 0) = true then some x else none) l = l.find? (· != 0) := by
    induction l with
    | nil => rfl
    | cons a l ih =>
      rw [List.findSome?_cons, List.find?_cons]
      cases (a != 0) with
      | true => rfl
      | false => simpa using ih
  rw [this]
  cases l.find? (· != 0) <;> rfl
theorem firstN_nil : firstN [] = 0 := rfl
theorem firstN_cons (a : Int) (l : List Int) : firstN (a :: l) = if a ≠ 0 then a else firstN l := by
  unfold firstN
  rw [List.find?_cons]
  by_cases h : a = 0
  · subst h; simp
  · have : (a != 0) = true := by simpa using h
    rw [this, if_pos h]; rfl
end Go.Proofs.Ythibohbaaljnkaa
