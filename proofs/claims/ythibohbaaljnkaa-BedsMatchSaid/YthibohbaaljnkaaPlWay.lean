/- Own text: ways: the program's checks and the document's. -/
import Derived.Test.YthibohbaaljnkaaPlField
namespace Go.Proofs.Ythibohbaaljnkaa
open Sx
set_option linter.all false

/-- Direction and number of steps of a leap; 0 steps: none. -/
def leapOf (dx dy : Int) : Int × Int :=
  let n := max (max (max dx (-dx)) dy) (-dy)
  if n = 0 then (0, 0) else if dx = n ∧ dy = 0 then (0, n) else if dx = n ∧ dy = n then (1, n) else if dx = 0 ∧ dy = n then (2, n) else if dx = -n ∧ dy = n then (3, n)
  else if dx = -n ∧ dy = 0 then (4, n) else if dx = -n ∧ dy = -n then (5, n) else if dx = 0 ∧ dy = -n then (6, n) else if dx = n ∧ dy = -n then (7, n) else (0, 0)
/-- A place in the plane. -/
def PtOK (p : S_api_Point) : Prop := -4194304 ≤ p.X ∧ p.X ≤ 4194304 ∧ -4194304 ≤ p.Y ∧ p.Y ≤ 4194304
instance (p : S_api_Point) : Decidable (PtOK p) := by unfold PtOK; infer_instance
def leapPt (a b : S_api_Point) : Int × Int := leapOf (b.X - a.X) (b.Y - a.Y)

theorem step0 : tarnref2_Step_p ((0 : Nat) : Int) = some (1, 0) := rfl
theorem step1 : tarnref2_Step_p ((1 : Nat) : Int) = some (1, 1) := rfl
theorem step2 : tarnref2_Step_p ((2 : Nat) : Int) = some (0, 1) := rfl
theorem step3 : tarnref2_Step_p ((3 : Nat) : Int) = some (-1, 1) := rfl
theorem step4 : tarnref2_Step_p ((4 : Nat) : Int) = some (-1, 0) := rfl
theorem step5 : tarnref2_Step_p ((5 : Nat) : Int) = some (-1, -1) := rfl
theorem step6 : tarnref2_Step_p ((6 : Nat) : Int) = some (0, -1) := rfl
theorem step7 : tarnref2_Step_p ((7 : Nat) : Int) = some (1, -1) := rfl

theorem if_and_dec {α : Type} (a b c : Prop) [Decidable a] [Decidable b] [Decidable c] (x y : α) : (if (decide a && (decide b && decide c)) = true then x else y) = if a ∧ b ∧ c then x else y := by
  by_cases h : a ∧ b ∧ c
  · rw [if_pos h, if_pos (by simp [h.1, h.2.1, h.2.2])]
  · rw [if_neg h, if_neg (by simpa using h)]
theorem beq_dec (a b : Int) : (a == b) = decide (a = b) := by
  by_cases h : a = b
  · subst h; simp
  · simp [h]

theorem Leap_eq {a b : S_api_Point} (ha : PtOK a) (hb : PtOK b) : tarnref2_Leap_p a b = some (leapPt a b) := by
  unfold tarnref2_Leap_p leapPt
  unfold PtOK at ha hb
  rw [subI_eq (a := b.X) (by omega), subI_eq (a := b.Y) (by omega)]
  rw [subI_eq (a := 0) (b := b.X - a.X) (by omega), subI_eq (a := 0) (b := b.Y - a.Y) (by omega)]
  simp only [maxI_eq, Int.zero_sub]
  generalize hdx : b.X - a.X = dx
  generalize hdy : b.Y - a.Y = dy
  have bx : -8388608 ≤ dx ∧ dx ≤ 8388608 := by omega
  have by' : -8388608 ≤ dy ∧ dy ≤ 8388608 := by omega
  clear hdx hdy ha hb
  unfold leapOf
  generalize hn : max (max (max dx (-dx)) dy) (-dy) = n
  have n1 : dx ≤ n ∧ -dx ≤ n ∧ dy ≤ n ∧ -dy ≤ n ∧ 0 ≤ n ∧ n ≤ 8388608 := by omega
  have m1 : mulI 1 n = n := by rw [mulI_eq (by omega)]; omega
  have m0 : mulI 0 n = 0 := by rw [mulI_eq (by omega)]; omega
  have mm : mulI (-1) n = -n := by rw [mulI_eq (by omega)]; omega
  simp only [forI, Nat.zero_add, Nat.reduceAdd, step0, step1, step2, step3, step4, step5, step6, step7, bnd_def, m1, m0, mm, beq_dec, if_and_dec, gt_iff_lt]
  by_cases h0 : n = 0
  · have hn0 : ¬ 0 < n := by omega
    simp only [hn0, false_and, if_false, bnd_def]
    rw [if_pos h0]
  · have hn0 : 0 < n := by omega
    simp only [hn0, true_and]
    rw [if_neg h0]
    have e : ∀ u v : Int, (u = dx ∧ v = dy) ↔ (dx = u ∧ dy = v) := fun u v => ⟨fun h => ⟨h.1.symm, h.2.symm⟩, fun h => ⟨h.1.symm, h.2.symm⟩⟩
    simp only [e]
    by_cases c0 : dx = n ∧ dy = 0
    · simp only [if_pos c0, bnd_def]; rfl
    simp only [if_neg c0]
    by_cases c1 : dx = n ∧ dy = n
    · simp only [if_pos c1, bnd_def]; rfl
    simp only [if_neg c1]
    by_cases c2 : dx = 0 ∧ dy = n
    · simp only [if_pos c2, bnd_def]; rfl
    simp only [if_neg c2]
    by_cases c3 : dx = -n ∧ dy = n
    · simp only [if_pos c3, bnd_def]; rfl
    simp only [if_neg c3]
    by_cases c4 : dx = -n ∧ dy = 0
    · simp only [if_pos c4, bnd_def]; rfl
    simp only [if_neg c4]
    by_cases c5 : dx = -n ∧ dy = -n
    · simp only [if_pos c5, bnd_def]; rfl
    simp only [if_neg c5]
    by_cases c6 : dx = 0 ∧ dy = -n
    · simp only [if_pos c6, bnd_def]; rfl
    simp only [if_neg c6]
    by_cases c7 : dx = n ∧ dy = -n
    · simp only [if_pos c7, bnd_def]; rfl
    simp only [if_neg c7, bnd_def]

theorem leapOf_cases (dx dy : Int) : (leapOf dx dy).2 = 0 ∧ (leapOf dx dy).1 = 0 ∨ (0 ≤ (leapOf dx dy).1 ∧ (leapOf dx dy).1 ≤ 7 ∧ 0 < (leapOf dx dy).2 ∧ (leapOf dx dy).2 = max (max (max dx (-dx)) dy) (-dy)) := by
  unfold leapOf
  generalize hn : max (max (max dx (-dx)) dy) (-dy) = n
  have : 0 ≤ n := by omega
  simp only
  (repeat' split) <;> first | exact .inl ⟨rfl, rfl⟩ | (right; refine ⟨?_, ?_, ?_, ?_⟩ <;> simp <;> omega)

theorem leapOf_n {dx dy n : Int} (hn : max (max (max dx (-dx)) dy) (-dy) = n) : leapOf dx dy = if n = 0 then (0, 0) else if dx = n ∧ dy = 0 then (0, n) else if dx = n ∧ dy = n then (1, n) else if dx = 0 ∧ dy = n then (2, n) else if dx = -n ∧ dy = n then (3, n)
  else if dx = -n ∧ dy = 0 then (4, n) else if dx = -n ∧ dy = -n then (5, n) else if dx = 0 ∧ dy = -n then (6, n) else if dx = n ∧ dy = -n then (7, n) else (0, 0) := by
  unfold leapOf; rw [hn]
theorem leap_is {dx dy n : Int} (hn : max (max (max dx (-dx)) dy) (-dy) = n) (h0 : n ≠ 0) :
    (dx = n ∧ dy = 0 → leapOf dx dy = (0, n)) ∧ (dx = n ∧ dy = n → leapOf dx dy = (1, n)) ∧ (dx = 0 ∧ dy = n → leapOf dx dy = (2, n)) ∧ (dx = -n ∧ dy = n → leapOf dx dy = (3, n)) ∧
    (dx = -n ∧ dy = 0 → leapOf dx dy = (4, n)) ∧ (dx = -n ∧ dy = -n → leapOf dx dy = (5, n)) ∧ (dx = 0 ∧ dy = -n → leapOf dx dy = (6, n)) ∧ (dx = n ∧ dy = -n → leapOf dx dy = (7, n)) := by
  rw [leapOf_n hn]
  refine ⟨fun h => ?_, fun h => ?_, fun h => ?_, fun h => ?_, fun h => ?_, fun h => ?_, fun h => ?_, fun h => ?_⟩
  · rw [if_neg h0, if_pos h]
  · rw [if_neg h0, if_neg (by omega), if_pos h]
  · rw [if_neg h0, if_neg (by omega), if_neg (by omega), if_pos h]
  · rw [if_neg h0, if_neg (by omega), if_neg (by omega), if_neg (by omega), if_pos h]
  · rw [if_neg h0, if_neg (by omega), if_neg (by omega), if_neg (by omega), if_neg (by omega), if_pos h]
  · rw [if_neg h0, if_neg (by omega), if_neg (by omega), if_neg (by omega), if_neg (by omega), if_neg (by omega), if_pos h]
  · rw [if_neg h0, if_neg (by omega), if_neg (by omega), if_neg (by omega), if_neg (by omega), if_neg (by omega), if_neg (by omega), if_pos h]
  · rw [if_neg h0, if_neg (by omega), if_neg (by omega), if_neg (by omega), if_neg (by omega), if_neg (by omega), if_neg (by omega), if_neg (by omega), if_pos h]

theorem Between_eq {a b : S_api_Point} (ha : PtOK a) (hb : PtOK b) : road_Between_p a b = some (if (leapPt a b).2 = 0 then (-1, 0) else leapPt a b) := by
  unfold road_Between_p leapPt
  unfold PtOK at ha hb
  rw [subI_eq (a := b.X) (by omega), subI_eq (a := b.Y) (by omega)]
  rw [subI_eq (a := 0) (b := b.X - a.X) (by omega), subI_eq (a := 0) (b := b.Y - a.Y) (by omega)]
  simp only [maxI_eq, Int.zero_sub]
  generalize hdx : b.X - a.X = dx
  generalize hdy : b.Y - a.Y = dy
  have bx : -8388608 ≤ dx ∧ dx ≤ 8388608 := by omega
  have by' : -8388608 ≤ dy ∧ dy ≤ 8388608 := by omega
  clear hdx hdy ha hb
  generalize hn : max (max (max dx (-dx)) dy) (-dy) = n
  have n1 : dx ≤ n ∧ -dx ≤ n ∧ dy ≤ n ∧ -dy ≤ n ∧ 0 ≤ n ∧ n ≤ 8388608 := by omega
  simp only [bnd_def, beq_dec, bne_dec]
  by_cases h0 : n = 0
  · have c : (decide (n = 0) || decide (dx ≠ 0) && (decide (dy ≠ 0) && (decide (dx ≠ dy) && decide (dx ≠ -dy)))) = true := by simp [h0]
    rw [if_pos c, leapOf_n hn, if_pos h0]; rfl
  · have hn0 : 0 < n := by omega
    have g : guardP (decide (n ≠ 0)) = some () := by unfold guardP; rw [if_pos (by simpa using h0)]
    have q1 : quoI n n = 1 := by rw [quoI_eq (by omega) hn0 (by omega)]; exact Int.ediv_self h0
    have q0 : quoI 0 n = 0 := by rw [quoI_eq (by omega) hn0 (by omega)]; exact Int.zero_ediv n
    have qm : quoI (-n) n = -1 := by
      unfold quoI
      rw [Int.neg_tdiv, Int.tdiv_self h0]; rfl
    by_cases bad : dx ≠ 0 ∧ dy ≠ 0 ∧ dx ≠ dy ∧ dx ≠ -dy
    · have c : (decide (n = 0) || decide (dx ≠ 0) && (decide (dy ≠ 0) && (decide (dx ≠ dy) && decide (dx ≠ -dy)))) = true := by simp [bad.1, bad.2.1, bad.2.2.1, bad.2.2.2]
      rw [if_pos c]
      have k : leapOf dx dy = (0, 0) := by
        rw [leapOf_n hn, if_neg h0, if_neg (by omega), if_neg (by omega), if_neg (by omega), if_neg (by omega), if_neg (by omega), if_neg (by omega), if_neg (by omega), if_neg (by omega)]
      rw [k]; rfl
    · have c : ¬ (decide (n = 0) || decide (dx ≠ 0) && (decide (dy ≠ 0) && (decide (dx ≠ dy) && decide (dx ≠ -dy)))) = true := by
        simp only [Bool.or_eq_true, Bool.and_eq_true, decide_eq_true_eq]; omega
      rw [if_neg c, g, bnd_def]
      have cases8 : (dx = n ∧ dy = 0) ∨ (dx = n ∧ dy = n) ∨ (dx = 0 ∧ dy = n) ∨ (dx = -n ∧ dy = n) ∨ (dx = -n ∧ dy = 0) ∨ (dx = -n ∧ dy = -n) ∨ (dx = 0 ∧ dy = -n) ∨ (dx = n ∧ dy = -n) := by omega
      obtain ⟨l0, l1, l2, l3, l4, l5, l6, l7⟩ := leap_is hn h0
      have fin : ∀ (d : Int), leapOf dx dy = (d, n) → water_Direction_p ⟨0, 0⟩ ⟨quoI dx n, quoI dy n⟩ = some d → (bnd (water_Direction_p ⟨0, 0⟩ ⟨quoI dx n, quoI dy n⟩) fun r1 => some (r1, n)) = some (if (leapOf dx dy).2 = 0 then (-1, 0) else leapOf dx dy) := by
        intro d h1 h2
        rw [h1, h2, bnd_def, if_neg h0]
      rcases cases8 with h | h | h | h | h | h | h | h
      · exact fin 0 (l0 h) (by rw [h.1, h.2, q1, q0]; rfl)
      · exact fin 1 (l1 h) (by rw [h.1, h.2, q1]; rfl)
      · exact fin 2 (l2 h) (by rw [h.1, h.2, q1, q0]; rfl)
      · exact fin 3 (l3 h) (by rw [h.1, h.2, q1, qm]; rfl)
      · exact fin 4 (l4 h) (by rw [h.1, h.2, q0, qm]; rfl)
      · exact fin 5 (l5 h) (by rw [h.1, h.2, qm]; rfl)
      · exact fin 6 (l6 h) (by rw [h.1, h.2, q0, qm]; rfl)
      · exact fin 7 (l7 h) (by rw [h.1, h.2, q1, qm]; rfl)

/-- What is said of the place number i of a way in a field; none: nothing. -/
def wayAt (f : S_api_Field) (way : List S_api_Point) (i : Nat) (p : S_api_Point) : Option Int :=
  if ¬ inR f.Region p.X p.Y then some 5 else if i = 0 then none else match way[i - 1]? with
    | some q => if (leapPt q p).2 = 0 ∨ (leapPt q p).2 > 12 then some 2 else none
    | none => none
theorem inR_pt {r : S_api_Region} (h : RegOK r) {p : S_api_Point} (hi : inR r p.X p.Y) : PtOK p := by
  unfold inR at hi; unfold PtOK
  obtain ⟨a1, a2, a3, a4, a5, a6, a7, a8, a9⟩ := h
  omega
theorem inside_one {f : S_api_Field} (h : RegOK f.Region) (p : S_api_Point) : road_onField_1_p p f = some (if inR f.Region p.X p.Y then 0 else 5) := by
  unfold road_onField_1_p road_inside_p
  rw [show ([p] : List S_api_Point).length = 1 from rfl]
  simp only [forI]
  rw [idx_nat]
  simp only [List.getElem?_cons_zero, bnd_def]
  rw [Place_eq h, bnd_def]
  by_cases hi : inR f.Region p.X p.Y
  · simp only [if_pos hi, Bool.not_true, Bool.false_eq_true, if_false, bnd_def]
  · simp only [if_neg hi, Bool.not_false, if_true, bnd_def]

theorem forI_rec {S E : Type} (body : Nat → S → Option (Ctl S E)) (j i : Nat) (s : S) : forI body (j + 1) i s = match body i s with | none => none | some (.go s') => forI body j (i + 1) s' | some (.out e) => some (.out e) := rfl

/-- Both loops over a way tell the same, from place i on. -/
theorem way_loops {f : S_api_Field} (h : RegOK f.Region) (way : List S_api_Point) (b1 b2 : Nat → Unit → Option (Ctl Unit Int))
    (e1 : ∀ i p, way[i]? = some p → (∀ q, i ≠ 0 → way[i - 1]? = some q → inR f.Region q.X q.Y) → b1 i () = some (match wayAt f way i p with | none => .go () | some e => .out e))
    (e2 : ∀ i p, way[i]? = some p → (∀ q, i ≠ 0 → way[i - 1]? = some q → inR f.Region q.X q.Y) → b2 i () = some (match wayAt f way i p with | none => .go () | some e => .out e)) :
    ∃ x : Ctl Unit Int, forI b1 way.length 0 () = some x ∧ forI b2 way.length 0 () = some x ∧ (x = .go () → (∀ p ∈ way, inR f.Region p.X p.Y) ∧ ∀ i p q, way[i + 1]? = some p → way[i]? = some q → (leapPt q p).2 ≠ 0 ∧ (leapPt q p).2 ≤ 12) ∧ ∀ e, x = .out e → e ≠ 0 := by
  have key : ∀ j i : Nat, i + j = way.length → (∀ k q, k < i → way[k]? = some q → inR f.Region q.X q.Y) → (∀ k p q, k + 1 < i → way[k + 1]? = some p → way[k]? = some q → (leapPt q p).2 ≠ 0 ∧ (leapPt q p).2 ≤ 12) →
      ∃ x : Ctl Unit Int, forI b1 j i () = some x ∧ forI b2 j i () = some x ∧ (x = .go () → (∀ k p, k < way.length → way[k]? = some p → inR f.Region p.X p.Y) ∧ ∀ k p q, k + 1 < way.length → way[k + 1]? = some p → way[k]? = some q → (leapPt q p).2 ≠ 0 ∧ (leapPt q p).2 ≤ 12) ∧ ∀ e, x = .out e → e ≠ 0 := by
    intro j
    induction j with
    | zero =>
      intro i hij h1 h2
      have : i = way.length := by omega
      subst this
      exact ⟨.go (), rfl, rfl, fun _ => ⟨h1, h2⟩, fun e he => (by cases he)⟩
    | succ j ih =>
      intro i hij h1 h2
      have hi : i < way.length := by omega
      have hp : way[i]? = some way[i] := List.getElem?_eq_getElem hi
      have hprev : ∀ q, i ≠ 0 → way[i - 1]? = some q → inR f.Region q.X q.Y := fun q h0 hq => h1 (i - 1) q (by omega) hq
      rw [forI_rec, forI_rec, e1 i _ hp hprev, e2 i _ hp hprev]
      cases hw : wayAt f way i way[i] with
      | some e =>
        refine ⟨.out e, rfl, rfl, fun h => (by cases h), fun e' he => ?_⟩
        injection he with he
        subst he
        unfold wayAt at hw
        split at hw
        · injection hw with hw; omega
        · split at hw
          · cases hw
          · split at hw
            · split at hw
              · injection hw with hw; omega
              · cases hw
            · cases hw
      | none =>
        simp only
        unfold wayAt at hw
        split at hw
        · cases hw
        · rename_i hin
          have hin := Decidable.of_not_not hin
          refine ih (i + 1) (by omega) (fun k q hk hq => ?_) (fun k p q hk hp' hq => ?_)
          · rcases Nat.lt_or_ge k i with hlt | hge
            · exact h1 k q hlt hq
            · have : k = i := by omega
              subst this
              rw [hp] at hq
              obtain rfl := Option.some.inj hq
              exact hin
          · rcases Nat.lt_or_ge (k + 1) i with hlt | hge
            · exact h2 k p q hlt hp' hq
            · have : i = k + 1 := by omega
              subst this
              rw [hp] at hp'
              obtain rfl := Option.some.inj hp'
              rw [if_neg (by omega), show k + 1 - 1 = k by omega, hq] at hw
              simp only at hw
              split at hw
              · cases hw
              · omega
  obtain ⟨x, h1, h2, h3, h4⟩ := key way.length 0 (by omega) (fun k q hk => by omega) (fun k p q hk => by omega)
  refine ⟨x, h1, h2, fun hx => ⟨fun p hp => ?_, fun i p q hp hq => ?_⟩, h4⟩
  · obtain ⟨k, hk, rfl⟩ := List.mem_iff_getElem.1 hp
    exact (h3 hx).1 k _ hk (List.getElem?_eq_getElem hk)
  · have hi : i + 1 < way.length := by
      rcases Nat.lt_or_ge (i + 1) way.length with hl | hl
      · exact hl
      · rw [List.getElem?_eq_none hl] at hp; cases hp
    exact (h3 hx).2 i p q hi hp hq

/-- A right way in a field. -/
structure WayOK (f : S_api_Field) (way : List S_api_Point) : Prop where
  ne : way ≠ []
  le : way.length ≤ 65536
  inr : ∀ p ∈ way, inR f.Region p.X p.Y
  leap : ∀ i p q, way[i + 1]? = some p → way[i]? = some q → (leapPt q p).2 ≠ 0 ∧ (leapPt q p).2 ≤ 12

theorem way_join {f : S_api_Field} (h : RegOK f.Region) (way : List S_api_Point) (h0 : ¬ way.length = 0) (hle : way.length ≤ 65536) {b1 b2 : Nat → Unit → Option (Ctl Unit Int)} {k1 k2 : Ctl Unit Int → Option Int}
    (e1 : ∀ i p, way[i]? = some p → (∀ q, i ≠ 0 → way[i - 1]? = some q → inR f.Region q.X q.Y) → b1 i () = some (match wayAt f way i p with | none => .go () | some e => .out e))
    (e2 : ∀ i p, way[i]? = some p → (∀ q, i ≠ 0 → way[i - 1]? = some q → inR f.Region q.X q.Y) → b2 i () = some (match wayAt f way i p with | none => .go () | some e => .out e))
    (hk1 : ∀ x, k1 x = some (match x with | .go _ => 0 | .out e => e)) (hk2 : ∀ x, k2 x = some (match x with | .go _ => 0 | .out e => e)) :
    ∃ e : Int, bnd (forI b1 way.length 0 ()) k1 = some e ∧ bnd (forI b2 way.length 0 ()) k2 = some e ∧ (e = 0 → WayOK f way) := by
  obtain ⟨x, hx1, hx2, hx3, hx4⟩ := way_loops h way b1 b2 e1 e2
  rw [hx1, hx2, bnd_def, bnd_def, hk1, hk2]
  refine ⟨_, rfl, rfl, fun he => ?_⟩
  cases x with
  | out e => exact absurd he (hx4 e rfl)
  | go s =>
    obtain ⟨g1, g2⟩ := hx3 rfl
    exact ⟨by intro h; rw [h] at h0; exact h0 rfl, hle, g1, g2⟩

theorem way_both {f : S_api_Field} (h : RegOK f.Region) (way : List S_api_Point) : ∃ e : Int, road_checkWay_p way f = some e ∧ tarnref2_WayError_p f way = some e ∧ (e = 0 → WayOK f way) := by
  unfold road_checkWay_p road_amount_p tarnref2_WayError_p
  by_cases h0 : way.length = 0
  · have c : ((way.length : Int) == 0) = true := by rw [h0]; rfl
    rw [if_pos c, if_pos c, bnd_def]
    exact ⟨10, rfl, rfl, fun h => (by cases h)⟩
  have c : ¬ ((way.length : Int) == 0) = true := by simpa using h0
  rw [if_neg c, if_neg c]
  by_cases h1 : (way.length : Int) > 65536
  · rw [if_pos (by simpa using h1), if_pos (by simpa using h1), bnd_def]
    exact ⟨4, rfl, rfl, fun h => (by cases h)⟩
  rw [if_neg (by simpa using h1), if_neg (by simpa using h1), bnd_def]
  simp only [bne_self_eq_false, Bool.false_eq_true, if_false]
  refine way_join h way h0 (by omega) ?_ ?_ (fun x => by cases x <;> rfl) (fun x => by cases x <;> rfl)
  · intro i p hp hprev
    have hil : i < way.length := by
      rcases Nat.lt_or_ge i way.length with hl | hl
      · exact hl
      · rw [List.getElem?_eq_none hl] at hp; cases hp
    simp only [idx_get hp, bnd_def, inside_one h]
    unfold wayAt
    by_cases hin : inR f.Region p.X p.Y
    · simp only [if_pos hin, bne_self_eq_false, Bool.false_eq_true, if_false, not_true_eq_false]
      by_cases hi0 : i = 0
      · subst hi0; simp [bnd_def, hin]
      · have c : ¬ ((i : Int) == 0) = true := by simpa using hi0
        rw [if_neg c, if_neg hi0, subI_eq (by omega), show (i : Int) - 1 = ((i - 1 : Nat) : Int) by omega, idx_nat]
        have hq : way[i - 1]? = some way[i - 1] := List.getElem?_eq_getElem (by omega)
        rw [hq, bnd_def]
        rw [Between_eq (inR_pt h (hprev _ hi0 hq)) (inR_pt h hin), bnd_def]
        simp only
        by_cases hl : (leapPt way[i - 1] p).2 = 0
        · simp [hl, bnd_def, hin]
        · have hne : (leapPt way[i - 1] p).1 ≠ -1 := by
            rcases leapOf_cases (p.X - way[i - 1].X) (p.Y - way[i - 1].Y) with hc | hc
            · exact absurd hc.1 hl
            · unfold leapPt; omega
          simp only [hl, if_false, false_or]
          have c2 : ((leapPt way[i - 1] p).1 == -1) = false := by simpa using hne
          rw [c2, Bool.false_or]
          by_cases hg : (leapPt way[i - 1] p).2 > 12
          · simp [hg, bnd_def, hin]
          · simp [hg, bnd_def, hin]
    · simp [if_neg hin, hin, bnd_def]
  · intro i p hp hprev
    have hil : i < way.length := by
      rcases Nat.lt_or_ge i way.length with hl | hl
      · exact hl
      · rw [List.getElem?_eq_none hl] at hp; cases hp
    simp only [idx_get hp, bnd_def, Has_eq h]
    unfold wayAt
    by_cases hin : inR f.Region p.X p.Y
    · have hpt := inR_pt h hin
      have hpt' := hpt
      unfold PtOK at hpt'
      rw [if_neg (by simp; omega), if_neg (by simp; omega), if_neg (by simp; omega), if_neg (by simp; omega), bnd_def]
      simp only [hin, decide_true, Bool.not_true, Bool.false_eq_true, if_false, not_true_eq_false]
      by_cases hi0 : i = 0
      · subst hi0; simp [bnd_def, hin]
      · have c : decide ((i : Int) > 0) = true := by simp; omega
        rw [if_pos c, if_neg hi0, subI_eq (by omega), show (i : Int) - 1 = ((i - 1 : Nat) : Int) by omega, idx_nat]
        have hq : way[i - 1]? = some way[i - 1] := List.getElem?_eq_getElem (by omega)
        rw [hq, bnd_def]
        rw [Leap_eq (inR_pt h (hprev _ hi0 hq)) hpt, bnd_def]
        simp only
        by_cases hl : (leapPt way[i - 1] p).2 = 0
        · simp [hl, bnd_def, hin]
        · have c2 : ((leapPt way[i - 1] p).2 == 0) = false := by simpa using hl
          simp only [hl, false_or, c2, Bool.false_or]
          by_cases hg : (leapPt way[i - 1] p).2 > 12
          · simp [hg, bnd_def, hin]
          · simp [hg, bnd_def, hin]
    · have e : (if decide (p.X < (-4194304)) then some true else if decide (p.X > 4194304) then some true else if decide (p.Y < (-4194304)) then some true else if decide (p.Y > 4194304) then some true else some (!decide (inR f.Region p.X p.Y))) = some true := by
        simp only [hin, decide_false, bnd_def, Bool.not_false]
        (repeat' split) <;> rfl
      rw [e, bnd_def, if_pos rfl, bnd_def, if_pos hin]
/-- The document's error of a way is one, whatever the field. -/
theorem WayError_tot (f : S_api_Field) (way : List S_api_Point) : ∃ e, tarnref2_WayError_p f way = some e := by
  unfold tarnref2_WayError_p
  suffices h : Ok (if ((way.length : Int) == 0) = true then some (10 : Int) else if decide ((way.length : Int) > 65536) = true then some 4 else _) (fun _ => True) by
    obtain ⟨e, he, _⟩ := h; exact ⟨e, he⟩
  refine ok_ite (fun _ => ok_some trivial) (fun _ => ok_ite (fun _ => ok_some trivial) (fun hlong => ?_))
  have hlong : way.length ≤ 65536 := by have h : ¬ (way.length : Int) > 65536 := by simpa using hlong
                                        omega
  refine ok_bnd (ok_forI (fun k _ => ∀ j p, j < k → way[j]? = some p → PtOK p) (fun _ => True) (fun j p h => by omega) ?_) (fun c _ => by cases c <;> exact ok_some trivial)
  intro k s hk hI
  have hp : way[k]? = some way[k] := List.getElem?_eq_getElem hk
  have goal : Ok (bnd (idx way (k : Int)) fun x3 => bnd (if decide (x3.X < (-4194304)) then some true else if decide (x3.X > 4194304) then some true else if decide (x3.Y < (-4194304)) then some true else if decide (x3.Y > 4194304) then some true else bnd (tarnref2_Has_p f.Region x3.X x3.Y) fun r1 => some (!r1)) fun (c1 : Bool) => if c1 then some (Ctl.out 5) else if decide ((k : Int) > 0) then bnd (idx way (subI (k : Int) 1)) fun x4 => bnd (tarnref2_Leap_p x4 x3) fun r2 => if ((r2.2 == 0) || (decide (r2.2 > 12))) then some (Ctl.out 2) else some (Ctl.go ()) else some (Ctl.go ()))
      (fun c : Ctl Unit Int => match c with | .go _ => PtOK way[k] | .out _ => True) := by
    refine ok_idxN hp ?_
    generalize way[k] = p at hp
    refine ok_bnd (P := fun c : Bool => c = true ∨ PtOK p) ?_ ?_
    · refine ok_ite (fun _ => ok_some (.inl rfl)) (fun h1 => ok_ite (fun _ => ok_some (.inl rfl)) (fun h2 => ok_ite (fun _ => ok_some (.inl rfl)) (fun h3 => ok_ite (fun _ => ok_some (.inl rfl)) (fun h4 => ?_))))
      obtain ⟨b, hb⟩ := Has_tot f.Region p.X p.Y
      refine ok_bnd_eq hb (ok_some (.inr ?_))
      unfold PtOK
      simp at h1 h2 h3 h4
      omega
    · intro c hc
      refine ok_ite (fun _ => ok_some trivial) (fun hc' => ?_)
      have hpt : PtOK p := hc.resolve_left hc'
      refine ok_ite (fun h0 => ?_) (fun h0 => ok_some hpt)
      have h0 : 0 < k := by simpa using h0
      rw [subI_eq (by omega), show (k : Int) - 1 = ((k - 1 : Nat) : Int) by omega]
      have hq : way[k - 1]? = some (way[k - 1]'(by omega)) := List.getElem?_eq_getElem (by omega)
      refine ok_idxN hq (ok_bnd_eq (Leap_eq (hI (k - 1) _ (by omega) hq) hpt) ?_)
      exact ok_ite (fun _ => ok_some trivial) (fun _ => ok_some hpt)
  refine ok_bnd goal ?_
  intro c hc
  cases c with
  | out e => exact ok_some trivial
  | go u =>
    refine ok_some ?_
    intro j p hj hjp
    rcases Nat.lt_or_ge j k with h | h
    · exact hI j p h hjp
    · have : j = k := by omega
      subst this
      rw [hp] at hjp
      obtain rfl := Option.some.inj hjp
      exact hc

end Go.Proofs.Ythibohbaaljnkaa
