/- Own text: leaps between places: the program's and the document's. -/
import Derived.Test.YtlngccfplnbeiaaGreatDoorPl
import Derived.Test.YtlngccfplnbeiaaGreatDoorPu
namespace Go.Proofs.YtlngccfplnbeiaaGreatDoor
open Sx
set_option linter.all false

theorem bne_dec (a b : Int) : (a != b) = decide (a ≠ b) := by
  by_cases h : a = b
  · subst h; simp
  · simp [h]
/-- Direction and number of steps of a leap; 0 steps: none. -/
def leapOf (dx dy : Int) : Int × Int :=
  let n := max (max (max dx (-dx)) dy) (-dy)
  if n = 0 then (0, 0) else if dx = n ∧ dy = 0 then (0, n) else if dx = n ∧ dy = n then (1, n) else if dx = 0 ∧ dy = n then (2, n) else if dx = -n ∧ dy = n then (3, n)
  else if dx = -n ∧ dy = 0 then (4, n) else if dx = -n ∧ dy = -n then (5, n) else if dx = 0 ∧ dy = -n then (6, n) else if dx = n ∧ dy = -n then (7, n) else (0, 0)
/-- A place in the plane. -/
def PtOK (p : S_api_Point) : Prop := -4194304 ≤ p.X ∧ p.X ≤ 4194304 ∧ -4194304 ≤ p.Y ∧ p.Y ≤ 4194304
instance (p : S_api_Point) : Decidable (PtOK p) := by unfold PtOK; infer_instance
def leapPt (a b : S_api_Point) : Int × Int := leapOf (b.X - a.X) (b.Y - a.Y)

theorem step0 : tarnref2_Step_p ((0 : Nat) : Int) = some (1, 0) := rfl
theorem step1 : tarnref2_Step_p ((1 : Nat) : Int) = some (1, 1) := rfl
theorem step2 : tarnref2_Step_p ((2 : Nat) : Int) = some (0, 1) := rfl
theorem step3 : tarnref2_Step_p ((3 : Nat) : Int) = some (-1, 1) := rfl
theorem step4 : tarnref2_Step_p ((4 : Nat) : Int) = some (-1, 0) := rfl
theorem step5 : tarnref2_Step_p ((5 : Nat) : Int) = some (-1, -1) := rfl
theorem step6 : tarnref2_Step_p ((6 : Nat) : Int) = some (0, -1) := rfl
theorem step7 : tarnref2_Step_p ((7 : Nat) : Int) = some (1, -1) := rfl

theorem if_and_dec {α : Type} (a b c : Prop) [Decidable a] [Decidable b] [Decidable c] (x y : α) : (if (decide a && (decide b && decide c)) = true then x else y) = if a ∧ b ∧ c then x else y := by
  by_cases h : a ∧ b ∧ c
  · rw [if_pos h, if_pos (by simp [h.1, h.2.1, h.2.2])]
  · rw [if_neg h, if_neg (by simpa using h)]
theorem beq_dec (a b : Int) : (a == b) = decide (a = b) := by
  by_cases h : a = b
  · subst h; simp
  · simp [h]

theorem Leap_eq {a b : S_api_Point} (ha : PtOK a) (hb : PtOK b) : tarnref2_Leap_p a b = some (leapPt a b) := by
  unfold tarnref2_Leap_p leapPt
  unfold PtOK at ha hb
  rw [subI_eq (a := b.X) (by omega), subI_eq (a := b.Y) (by omega)]
  rw [subI_eq (a := 0) (b := b.X - a.X) (by omega), subI_eq (a := 0) (b := b.Y - a.Y) (by omega)]
  simp only [maxI_eq, Int.zero_sub]
  generalize hdx : b.X - a.X = dx
  generalize hdy : b.Y - a.Y = dy
  have bx : -8388608 ≤ dx ∧ dx ≤ 8388608 := by omega
  have by' : -8388608 ≤ dy ∧ dy ≤ 8388608 := by omega
  clear hdx hdy ha hb
  unfold leapOf
  generalize hn : max (max (max dx (-dx)) dy) (-dy) = n
  have n1 : dx ≤ n ∧ -dx ≤ n ∧ dy ≤ n ∧ -dy ≤ n ∧ 0 ≤ n ∧ n ≤ 8388608 := by omega
  have m1 : mulI 1 n = n := by rw [mulI_eq (by omega)]; omega
  have m0 : mulI 0 n = 0 := by rw [mulI_eq (by omega)]; omega
  have mm : mulI (-1) n = -n := by rw [mulI_eq (by omega)]; omega
  simp only [forI, Nat.zero_add, Nat.reduceAdd, step0, step1, step2, step3, step4, step5, step6, step7, bnd_def, m1, m0, mm, beq_dec, if_and_dec, gt_iff_lt]
  by_cases h0 : n = 0
  · have hn0 : ¬ 0 < n := by omega
    simp only [hn0, false_and, if_false, bnd_def]
    rw [if_pos h0]
  · have hn0 : 0 < n := by omega
    simp only [hn0, true_and]
    rw [if_neg h0]
    have e : ∀ u v : Int, (u = dx ∧ v = dy) ↔ (dx = u ∧ dy = v) := fun u v => ⟨fun h => ⟨h.1.symm, h.2.symm⟩, fun h => ⟨h.1.symm, h.2.symm⟩⟩
    simp only [e]
    by_cases c0 : dx = n ∧ dy = 0
    · simp only [if_pos c0, bnd_def]; rfl
    simp only [if_neg c0]
    by_cases c1 : dx = n ∧ dy = n
    · simp only [if_pos c1, bnd_def]; rfl
    simp only [if_neg c1]
    by_cases c2 : dx = 0 ∧ dy = n
    · simp only [if_pos c2, bnd_def]; rfl
    simp only [if_neg c2]
    by_cases c3 : dx = -n ∧ dy = n
    · simp only [if_pos c3, bnd_def]; rfl
    simp only [if_neg c3]
    by_cases c4 : dx = -n ∧ dy = 0
    · simp only [if_pos c4, bnd_def]; rfl
    simp only [if_neg c4]
    by_cases c5 : dx = -n ∧ dy = -n
    · simp only [if_pos c5, bnd_def]; rfl
    simp only [if_neg c5]
    by_cases c6 : dx = 0 ∧ dy = -n
    · simp only [if_pos c6, bnd_def]; rfl
    simp only [if_neg c6]
    by_cases c7 : dx = n ∧ dy = -n
    · simp only [if_pos c7, bnd_def]; rfl
    simp only [if_neg c7, bnd_def]

theorem leapOf_cases (dx dy : Int) : (leapOf dx dy).2 = 0 ∧ (leapOf dx dy).1 = 0 ∨ (0 ≤ (leapOf dx dy).1 ∧ (leapOf dx dy).1 ≤ 7 ∧ 0 < (leapOf dx dy).2 ∧ (leapOf dx dy).2 = max (max (max dx (-dx)) dy) (-dy)) := by
  unfold leapOf
  generalize hn : max (max (max dx (-dx)) dy) (-dy) = n
  have : 0 ≤ n := by omega
  simp only
  (repeat' split) <;> first | exact .inl ⟨rfl, rfl⟩ | (right; refine ⟨?_, ?_, ?_, ?_⟩ <;> simp <;> omega)

theorem leapOf_n {dx dy n : Int} (hn : max (max (max dx (-dx)) dy) (-dy) = n) : leapOf dx dy = if n = 0 then (0, 0) else if dx = n ∧ dy = 0 then (0, n) else if dx = n ∧ dy = n then (1, n) else if dx = 0 ∧ dy = n then (2, n) else if dx = -n ∧ dy = n then (3, n)
  else if dx = -n ∧ dy = 0 then (4, n) else if dx = -n ∧ dy = -n then (5, n) else if dx = 0 ∧ dy = -n then (6, n) else if dx = n ∧ dy = -n then (7, n) else (0, 0) := by
  unfold leapOf; rw [hn]
theorem leap_is {dx dy n : Int} (hn : max (max (max dx (-dx)) dy) (-dy) = n) (h0 : n ≠ 0) :
    (dx = n ∧ dy = 0 → leapOf dx dy = (0, n)) ∧ (dx = n ∧ dy = n → leapOf dx dy = (1, n)) ∧ (dx = 0 ∧ dy = n → leapOf dx dy = (2, n)) ∧ (dx = -n ∧ dy = n → leapOf dx dy = (3, n)) ∧
    (dx = -n ∧ dy = 0 → leapOf dx dy = (4, n)) ∧ (dx = -n ∧ dy = -n → leapOf dx dy = (5, n)) ∧ (dx = 0 ∧ dy = -n → leapOf dx dy = (6, n)) ∧ (dx = n ∧ dy = -n → leapOf dx dy = (7, n)) := by
  rw [leapOf_n hn]
  refine ⟨fun h => ?_, fun h => ?_, fun h => ?_, fun h => ?_, fun h => ?_, fun h => ?_, fun h => ?_, fun h => ?_⟩
  · rw [if_neg h0, if_pos h]
  · rw [if_neg h0, if_neg (by omega), if_pos h]
  · rw [if_neg h0, if_neg (by omega), if_neg (by omega), if_pos h]
  · rw [if_neg h0, if_neg (by omega), if_neg (by omega), if_neg (by omega), if_pos h]
  · rw [if_neg h0, if_neg (by omega), if_neg (by omega), if_neg (by omega), if_neg (by omega), if_pos h]
  · rw [if_neg h0, if_neg (by omega), if_neg (by omega), if_neg (by omega), if_neg (by omega), if_neg (by omega), if_pos h]
  · rw [if_neg h0, if_neg (by omega), if_neg (by omega), if_neg (by omega), if_neg (by omega), if_neg (by omega), if_neg (by omega), if_pos h]
  · rw [if_neg h0, if_neg (by omega), if_neg (by omega), if_neg (by omega), if_neg (by omega), if_neg (by omega), if_neg (by omega), if_neg (by omega), if_pos h]

theorem Between_eq {a b : S_api_Point} (ha : PtOK a) (hb : PtOK b) : road_Between_p a b = some (if (leapPt a b).2 = 0 then (-1, 0) else leapPt a b) := by
  unfold road_Between_p leapPt
  unfold PtOK at ha hb
  rw [subI_eq (a := b.X) (by omega), subI_eq (a := b.Y) (by omega)]
  rw [subI_eq (a := 0) (b := b.X - a.X) (by omega), subI_eq (a := 0) (b := b.Y - a.Y) (by omega)]
  simp only [maxI_eq, Int.zero_sub]
  generalize hdx : b.X - a.X = dx
  generalize hdy : b.Y - a.Y = dy
  have bx : -8388608 ≤ dx ∧ dx ≤ 8388608 := by omega
  have by' : -8388608 ≤ dy ∧ dy ≤ 8388608 := by omega
  clear hdx hdy ha hb
  generalize hn : max (max (max dx (-dx)) dy) (-dy) = n
  have n1 : dx ≤ n ∧ -dx ≤ n ∧ dy ≤ n ∧ -dy ≤ n ∧ 0 ≤ n ∧ n ≤ 8388608 := by omega
  simp only [bnd_def, beq_dec, bne_dec]
  by_cases h0 : n = 0
  · have c : (decide (n = 0) || decide (dx ≠ 0) && (decide (dy ≠ 0) && (decide (dx ≠ dy) && decide (dx ≠ -dy)))) = true := by simp [h0]
    rw [if_pos c, leapOf_n hn, if_pos h0]; rfl
  · have hn0 : 0 < n := by omega
    have g : guardP (decide (n ≠ 0)) = some () := by unfold guardP; rw [if_pos (by simpa using h0)]
    have q1 : quoI n n = 1 := by rw [quoI_eq (by omega) hn0 (by omega)]; exact Int.ediv_self h0
    have q0 : quoI 0 n = 0 := by rw [quoI_eq (by omega) hn0 (by omega)]; exact Int.zero_ediv n
    have qm : quoI (-n) n = -1 := by
      unfold quoI
      rw [Int.neg_tdiv, Int.tdiv_self h0]; rfl
    by_cases bad : dx ≠ 0 ∧ dy ≠ 0 ∧ dx ≠ dy ∧ dx ≠ -dy
    · have c : (decide (n = 0) || decide (dx ≠ 0) && (decide (dy ≠ 0) && (decide (dx ≠ dy) && decide (dx ≠ -dy)))) = true := by simp [bad.1, bad.2.1, bad.2.2.1, bad.2.2.2]
      rw [if_pos c]
      have k : leapOf dx dy = (0, 0) := by
        rw [leapOf_n hn, if_neg h0, if_neg (by omega), if_neg (by omega), if_neg (by omega), if_neg (by omega), if_neg (by omega), if_neg (by omega), if_neg (by omega), if_neg (by omega)]
      rw [k]; rfl
    · have c : ¬ (decide (n = 0) || decide (dx ≠ 0) && (decide (dy ≠ 0) && (decide (dx ≠ dy) && decide (dx ≠ -dy)))) = true := by
        simp only [Bool.or_eq_true, Bool.and_eq_true, decide_eq_true_eq]; omega
      rw [if_neg c, g, bnd_def]
      have cases8 : (dx = n ∧ dy = 0) ∨ (dx = n ∧ dy = n) ∨ (dx = 0 ∧ dy = n) ∨ (dx = -n ∧ dy = n) ∨ (dx = -n ∧ dy = 0) ∨ (dx = -n ∧ dy = -n) ∨ (dx = 0 ∧ dy = -n) ∨ (dx = n ∧ dy = -n) := by omega
      obtain ⟨l0, l1, l2, l3, l4, l5, l6, l7⟩ := leap_is hn h0
      have fin : ∀ (d : Int), leapOf dx dy = (d, n) → water_Direction_p ⟨0, 0⟩ ⟨quoI dx n, quoI dy n⟩ = some d → (bnd (water_Direction_p ⟨0, 0⟩ ⟨quoI dx n, quoI dy n⟩) fun r1 => some (r1, n)) = some (if (leapOf dx dy).2 = 0 then (-1, 0) else leapOf dx dy) := by
        intro d h1 h2
        rw [h1, h2, bnd_def, if_neg h0]
      rcases cases8 with h | h | h | h | h | h | h | h
      · exact fin 0 (l0 h) (by rw [h.1, h.2, q1, q0]; rfl)
      · exact fin 1 (l1 h) (by rw [h.1, h.2, q1]; rfl)
      · exact fin 2 (l2 h) (by rw [h.1, h.2, q1, q0]; rfl)
      · exact fin 3 (l3 h) (by rw [h.1, h.2, q1, qm]; rfl)
      · exact fin 4 (l4 h) (by rw [h.1, h.2, q0, qm]; rfl)
      · exact fin 5 (l5 h) (by rw [h.1, h.2, qm]; rfl)
      · exact fin 6 (l6 h) (by rw [h.1, h.2, q0, qm]; rfl)
      · exact fin 7 (l7 h) (by rw [h.1, h.2, q1, qm]; rfl)

end Go.Proofs.YtlngccfplnbeiaaGreatDoor
