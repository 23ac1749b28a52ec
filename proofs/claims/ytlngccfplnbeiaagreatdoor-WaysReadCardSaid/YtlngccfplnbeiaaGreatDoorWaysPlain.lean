/- Own text: texts of ways: what is read, and what is written of it. -/
import Derived.Test.YtlngccfplnbeiaaGreatDoorPlInt
namespace Go.Proofs.YtlngccfplnbeiaaGreatDoor
open Go Sx
set_option linter.all false

def tw (d : Int) : S_api_Point := (water_Toward_p d).getD ⟨0, 0⟩
theorem tw_eq {d : Int} (h : 0 ≤ d ∧ d ≤ 7) : water_Toward_p d = some (tw d) := by
  have : d = 0 ∨ d = 1 ∨ d = 2 ∨ d = 3 ∨ d = 4 ∨ d = 5 ∨ d = 6 ∨ d = 7 := by omega
  rcases this with rfl | rfl | rfl | rfl | rfl | rfl | rfl | rfl <;> rfl
def mv (a : S_api_Point) (st : Int × Int) : S_api_Point := ⟨addI a.X (mulI st.2 (tw st.1).X), addI a.Y (mulI st.2 (tw st.1).Y)⟩
def StOK (st : Int × Int) : Prop := 0 ≤ st.1 ∧ st.1 ≤ 7 ∧ 1 ≤ st.2 ∧ st.2 ≤ 12
def trail (p : S_api_Point) : List (Int × Int) → List S_api_Point
  | [] => [p]
  | st :: r => p :: trail (mv p st) r
def endP (p : S_api_Point) : List (Int × Int) → S_api_Point
  | [] => p
  | st :: r => endP (mv p st) r
theorem trail_snoc : ∀ (l : List (Int × Int)) (p : S_api_Point) (st : Int × Int), trail p (l ++ [st]) = trail p l ++ [mv (endP p l) st]
  | [], p, st => rfl
  | s :: l, p, st => by
    show p :: trail (mv p s) (l ++ [st]) = p :: (trail (mv p s) l ++ [mv (endP (mv p s) l) st])
    rw [trail_snoc l]
theorem endP_snoc : ∀ (l : List (Int × Int)) (p : S_api_Point) (st : Int × Int), endP p (l ++ [st]) = mv (endP p l) st
  | [], p, st => rfl
  | s :: l, p, st => endP_snoc l (mv p s) st
theorem trail_len : ∀ (l : List (Int × Int)) (p : S_api_Point), (trail p l).length = l.length + 1
  | [], p => rfl
  | s :: l, p => by show (trail (mv p s) l).length + 1 = _; rw [trail_len l]; rfl
theorem trail_head (l : List (Int × Int)) (p : S_api_Point) : (trail p l)[0]? = some p := by cases l <;> rfl
theorem trail_step : ∀ (l : List (Int × Int)) (p : S_api_Point) (k : Nat) (st : Int × Int), l[k]? = some st → ∃ a, (trail p l)[k]? = some a ∧ (trail p l)[k + 1]? = some (mv a st)
  | [], p, k, st, h => by simp at h
  | s :: l, p, 0, st, h => by
    obtain rfl : s = st := by simpa using h
    refine ⟨p, rfl, ?_⟩
    show (trail (mv p s) l)[0]? = _
    exact trail_head l _
  | s :: l, p, k + 1, st, h => trail_step l (mv p s) k st (by simpa using h)
theorem leap_mv {a : S_api_Point} {st : Int × Int} (ha : PtOK a) (hs : StOK st) : leapPt a (mv a st) = st := by
  obtain ⟨d, n⟩ := st
  unfold StOK at hs
  unfold PtOK at ha
  simp only at hs
  have m1 : mulI n 1 = n := by rw [mulI_eq (by omega)]; omega
  have m0 : mulI n 0 = 0 := by rw [mulI_eq (by omega)]; omega
  have mm : mulI n (-1) = -n := by rw [mulI_eq (by omega)]; omega
  have key : ∀ (tx ty : Int), tw d = ⟨tx, ty⟩ → (tx = 0 ∨ tx = 1 ∨ tx = -1) → (ty = 0 ∨ ty = 1 ∨ ty = -1) → leapPt a (mv a (d, n)) = leapOf (tx * n) (ty * n) := by
    intro tx ty ht hx hy
    unfold leapPt mv
    simp only [ht]
    have ex : mulI n tx = tx * n := by rcases hx with rfl | rfl | rfl <;> simp [m0, m1, mm] <;> omega
    have ey : mulI n ty = ty * n := by rcases hy with rfl | rfl | rfl <;> simp [m0, m1, mm] <;> omega
    rw [ex, ey]
    have bx : -12 ≤ tx * n ∧ tx * n ≤ 12 := by rcases hx with rfl | rfl | rfl <;> omega
    have by' : -12 ≤ ty * n ∧ ty * n ≤ 12 := by rcases hy with rfl | rfl | rfl <;> omega
    rw [addI_eq (by omega), addI_eq (by omega)]
    congr 1 <;> omega
  have h8 : d = 0 ∨ d = 1 ∨ d = 2 ∨ d = 3 ∨ d = 4 ∨ d = 5 ∨ d = 6 ∨ d = 7 := by omega
  have fin : ∀ dx dy : Int, max (max (max dx (-dx)) dy) (-dy) = n → leapPt a (mv a (d, n)) = leapOf dx dy → leapOf dx dy = (d, n) → leapPt a (mv a (d, n)) = (d, n) := fun dx dy _ h1 h2 => h1.trans h2
  rcases h8 with rfl | rfl | rfl | rfl | rfl | rfl | rfl | rfl
  · rw [key 1 0 rfl (by omega) (by omega)]; exact (leap_is (n := n) (by omega) (by omega)).1 (by omega)
  · rw [key 1 1 rfl (by omega) (by omega)]; exact (leap_is (n := n) (by omega) (by omega)).2.1 (by omega)
  · rw [key 0 1 rfl (by omega) (by omega)]; exact (leap_is (n := n) (by omega) (by omega)).2.2.1 (by omega)
  · rw [key (-1) 1 rfl (by omega) (by omega)]; exact (leap_is (n := n) (by omega) (by omega)).2.2.2.1 (by omega)
  · rw [key (-1) 0 rfl (by omega) (by omega)]; exact (leap_is (n := n) (by omega) (by omega)).2.2.2.2.1 (by omega)
  · rw [key (-1) (-1) rfl (by omega) (by omega)]; exact (leap_is (n := n) (by omega) (by omega)).2.2.2.2.2.1 (by omega)
  · rw [key 0 (-1) rfl (by omega) (by omega)]; exact (leap_is (n := n) (by omega) (by omega)).2.2.2.2.2.2.1 (by omega)
  · rw [key 1 (-1) rfl (by omega) (by omega)]; exact (leap_is (n := n) (by omega) (by omega)).2.2.2.2.2.2.2 (by omega)

theorem place_eq (p : S_api_Point) : road_place_p p = some (if PtOK p then 0 else 5) := by
  unfold road_place_p noise_CheckPlace_p
  by_cases h : PtOK p
  · rw [if_pos h, if_neg]
    · rfl
    · unfold PtOK at h
      simp only [Bool.or_eq_true, decide_eq_true_eq]; omega
  · rw [if_neg h, if_pos]
    · rfl
    · unfold PtOK at h
      simp only [Bool.or_eq_true, decide_eq_true_eq]; omega

/-- The steps of a trail, by the places' numbers. -/
theorem trail_prev {p : S_api_Point} {steps : List (Int × Int)} {k : Nat} {b : S_api_Point} (h0 : 0 < k) (hb : (trail p steps)[k]? = some b) : ∃ a st, steps[k - 1]? = some st ∧ (trail p steps)[k - 1]? = some a ∧ b = mv a st := by
  have hk : k < steps.length + 1 := by
    rw [← trail_len steps p]
    rcases Nat.lt_or_ge k (trail p steps).length with hl | hl
    · exact hl
    · rw [List.getElem?_eq_none hl] at hb; cases hb
  have hs : steps[k - 1]? = some (steps[k - 1]'(by omega)) := List.getElem?_eq_getElem _
  obtain ⟨a, h1, h2⟩ := trail_step steps p (k - 1) _ hs
  rw [show k - 1 + 1 = k by omega, hb] at h2
  exact ⟨a, _, hs, h1, Option.some.inj h2⟩

theorem checkWay_trail (p : S_api_Point) (steps : List (Int × Int)) (hs : ∀ st ∈ steps, StOK st) :
    Ok (road_checkWay_p (trail p steps)) (fun e => (e = 0 ∧ (∀ q ∈ trail p steps, PtOK q) ∧ (trail p steps).length ≤ 65536) ∨ e = 5 ∨ (e = 4 ∧ 65536 < (trail p steps).length)) := by
  unfold road_checkWay_p road_amount_p
  have hl : (trail p steps).length ≠ 0 := by rw [trail_len]; omega
  rw [if_neg (show ¬ (((trail p steps).length : Int) == 0) = true by simpa using hl)]
  by_cases hg : ((trail p steps).length : Int) > 65536
  · rw [if_pos (by simpa using hg)]
    exact ok_some (.inr (.inr ⟨rfl, by omega⟩))
  rw [if_neg (by simpa using hg)]
  simp only [bnd_def, bne_self_eq_false, Bool.false_eq_true, if_false]
  refine ok_bnd (ok_forI (fun k _ => ∀ j q, j < k → (trail p steps)[j]? = some q → PtOK q) (fun e => e = 5) (fun j q h => by omega) ?_) ?_
  · intro k u hk hI
    have hb : (trail p steps)[k]? = some (trail p steps)[k] := List.getElem?_eq_getElem hk
    refine ok_bnd (P := fun c : Ctl Unit Int => match c with | .go _ => PtOK (trail p steps)[k] | .out e => e = 5) ?_ ?_
    · refine ok_idxN hb ?_
      generalize (trail p steps)[k] = b at hb
      rw [place_eq, bnd_def]
      by_cases hp : PtOK b
      · rw [if_pos hp]
        simp only [bne_self_eq_false, Bool.false_eq_true, if_false]
        by_cases h0 : k = 0
        · subst h0
          exact ok_some hp
        · rw [if_neg (by simpa using h0)]
          obtain ⟨a, st, h1, h2, rfl⟩ := trail_prev (by omega) hb
          rw [subI_eq (by omega), show (k : Int) - 1 = ((k - 1 : Nat) : Int) by omega]
          refine ok_idxN h2 ?_
          have ha := hI (k - 1) a (by omega) h2
          have hst := hs st (List.mem_of_getElem? h1)
          refine ok_bnd_eq (Between_eq ha hp) ?_
          rw [leap_mv ha hst]
          unfold StOK at hst
          rw [if_neg (show ¬ st.2 = 0 by omega)]
          rw [if_neg]
          · exact ok_some hp
          · simp only [Bool.or_eq_true, beq_iff_eq, decide_eq_true_eq]; omega
      · rw [if_neg hp]
        exact ok_some rfl
    · intro c hc
      cases c with
      | out e => exact ok_some hc
      | go u =>
        refine ok_some (fun j q hj hq => ?_)
        rcases Nat.lt_or_ge j k with h | h
        · exact hI j q h hq
        · have : j = k := by omega
          subst this
          rw [hb] at hq
          obtain rfl := Option.some.inj hq
          exact hc
  · intro c hc
    cases c with
    | out e => exact ok_some (.inr (.inl hc))
    | go u =>
      refine ok_some (.inl ⟨rfl, fun q hq => ?_, by omega⟩)
      obtain ⟨j, hj, rfl⟩ := List.mem_iff_getElem.1 hq
      exact hc j _ hj (List.getElem?_eq_getElem hj)

theorem WayError_trail (p : S_api_Point) (steps : List (Int × Int)) (hs : ∀ st ∈ steps, StOK st) (hp : ∀ q ∈ trail p steps, PtOK q) (hl : (trail p steps).length ≤ 65536) : tarnref2_WayError_p (trail p steps) = some 0 := by
  have key : Ok (tarnref2_WayError_p (trail p steps)) (fun e => e = 0) := by
    unfold tarnref2_WayError_p
    have h0 : (trail p steps).length ≠ 0 := by rw [trail_len]; omega
    rw [if_neg (show ¬ (((trail p steps).length : Int) == 0) = true by simpa using h0), if_neg (by simp only [decide_eq_true_eq]; omega)]
    refine ok_bnd (ok_forI (fun _ _ => True) (fun _ => False) trivial ?_) ?_
    · intro k u hk _
      have hb : (trail p steps)[k]? = some (trail p steps)[k] := List.getElem?_eq_getElem hk
      refine ok_bnd (P := fun c : Ctl Unit Int => match c with | .go _ => True | .out e => False) ?_ ?_
      · refine ok_idxN hb ?_
        have hq := hp _ (List.getElem_mem hk)
        generalize (trail p steps)[k] = b at hb hq
        have hq' := hq
        unfold PtOK at hq'
        rw [if_neg (by simp only [Bool.or_eq_true, Bool.and_eq_true, decide_eq_true_eq]; omega)]
        by_cases hk0 : k = 0
        · subst hk0; exact ok_some trivial
        · rw [if_pos (by simp only [decide_eq_true_eq]; omega)]
          obtain ⟨a, st, h1, h2, rfl⟩ := trail_prev (by omega) hb
          rw [subI_eq (by omega), show (k : Int) - 1 = ((k - 1 : Nat) : Int) by omega]
          refine ok_idxN h2 ?_
          have ha := hp a (List.mem_of_getElem? h2)
          have hst := hs st (List.mem_of_getElem? h1)
          refine ok_bnd_eq (Leap_eq ha hq) ?_
          rw [leap_mv ha hst]
          unfold StOK at hst
          rw [if_neg]
          · exact ok_some trivial
          · simp only [Bool.or_eq_true, beq_iff_eq, decide_eq_true_eq]; omega
      · intro c hc
        cases c with
        | out e => exact absurd hc (fun h => h)
        | go u => exact ok_some trivial
    · intro c hc
      cases c with
      | out e => exact absurd hc (fun h => h)
      | go u => exact ok_some rfl
  obtain ⟨e, h1, rfl⟩ := key
  exact h1

/-- A way's text. -/
def wayT (p : S_api_Point) (steps : List (Int × Int)) : List UInt8 := Lib.itoa p.X ++ 32 :: (Lib.itoa p.Y ++ (steps.map fun st => 32 :: stepT st.1 st.2).flatten)
theorem itoaP_ok {n : Int} (h : -9223372036854775808 ≤ n ∧ n ≤ 9223372036854775807) : itoaP n = some (itoaB n) := by unfold itoaP; rw [if_pos h]
theorem bl_itoaB (n : Int) : bl (itoaB n) = Lib.itoa n := rfl
theorem itoa_le {n : Int} (h : -9223372036854775808 ≤ n ∧ n ≤ 9223372036854775807) : (Lib.itoa n).length ≤ 21 := Lib.itoa_length_le n h.1 h.2

theorem wayText_trail (p : S_api_Point) (steps : List (Int × Int)) (hs : ∀ st ∈ steps, StOK st) (hp : ∀ q ∈ trail p steps, PtOK q) (hl : (trail p steps).length ≤ 65536) : Ok (tarnlaw2_wayText_p (trail p steps)) (fun s => bl s = wayT p steps) := by
  unfold tarnlaw2_wayText_p
  have hpp : PtOK p := hp p (List.mem_of_getElem? (trail_head steps p))
  unfold PtOK at hpp
  refine ok_idx (x := p) (by omega) (trail_head steps p) ?_
  refine ok_bnd_eq (itoaP_ok (n := p.X) (by omega)) ?_
  have l1 := itoa_le (n := p.X) (by omega)
  have l2 := itoa_le (n := p.Y) (by omega)
  refine ok_bnd_eq (strAdd_ok (by rw [bl_itoaB, bl_one]; simp only [List.length_singleton]; omega)) ?_
  refine ok_bnd_eq (itoaP_ok (n := p.Y) (by omega)) ?_
  refine ok_bnd_eq (strAdd_ok (by rw [bl_app, bl_itoaB, bl_one, bl_itoaB]; simp only [List.length_append, List.length_singleton]; omega)) ?_
  refine ok_bnd (P := fun s => bl s = wayT p steps) ?_ (fun s hs => ok_some hs)
  rw [trail_len] at hl
  refine ok_loopP (fun s : ByteArray × Int => ∃ k : Nat, s.2 = ((k + 1 : Nat) : Int) ∧ k ≤ steps.length ∧ bl s.1 = wayT p (steps.take k) ∧ (bl s.1).length ≤ 100 + 100 * k) (fun s => steps.length + 1 - s.2.toNat) (by omega) ⟨0, rfl, by omega, ?_, ?_⟩ ?_
  · simp only [bl_app, bl_itoaB, bl_one]
    unfold wayT; simp
  · simp only [bl_app, bl_itoaB, bl_one, List.length_append, List.length_singleton]; omega
  rintro ⟨s, i⟩ ⟨k, hi, hk, hb, hlen⟩
  simp only at hi hb hlen
  subst hi
  simp only
  by_cases hlt : k < steps.length
  · have hst : steps[k]? = some steps[k] := List.getElem?_eq_getElem hlt
    have hok := hs _ (List.getElem_mem hlt)
    have htake : steps.take (k + 1) = steps.take k ++ [steps[k]] := by rw [List.take_succ, hst]; rfl
    generalize steps[k] = st at hst hok htake
    obtain ⟨a, ha, hb'⟩ := trail_step steps p k st hst
    rw [if_pos (by simp only [decide_eq_true_eq]; rw [trail_len]; omega)]
    have goal : ∀ z : ByteArray, bl z = bl s ++ 32 :: stepT st.1 st.2 → ∃ q : Nat, addI ((k + 1 : Nat) : Int) 1 = ((q + 1 : Nat) : Int) ∧ q ≤ steps.length ∧ bl z = wayT p (steps.take q) ∧ (bl z).length ≤ 100 + 100 * q := by
      intro z hz
      refine ⟨k + 1, by rw [addI_eq (by omega)]; omega, by omega, ?_, ?_⟩
      · rw [hz, hb, htake]
        unfold wayT
        simp
      · rw [hz]
        have e1 := itoa_le (n := st.1) (by unfold StOK at hok; omega)
        have e2 := itoa_le (n := st.2) (by unfold StOK at hok; omega)
        unfold stepT
        simp only [List.length_append, List.length_cons]
        split <;> simp only [List.length_cons, List.length_nil] <;> omega
    refine ok_bnd (P := fun z : ByteArray => bl z = bl s ++ 32 :: stepT st.1 st.2) ?_ ?_
    · rw [subI_eq (by omega), show ((k + 1 : Nat) : Int) - 1 = ((k : Nat) : Int) by omega]
      refine ok_idxN ha (ok_idxN hb' ?_)
      have pa := hp a (List.mem_of_getElem? ha)
      have pb := hp _ (List.mem_of_getElem? hb')
      refine ok_bnd_eq (Leap_eq pa pb) ?_
      rw [leap_mv pa hok]
      unfold StOK at hok
      have e1 := itoa_le (n := st.1) (by omega)
      have e2 := itoa_le (n := st.2) (by omega)
      refine ok_bnd_eq (itoaP_ok (by omega)) ?_
      refine ok_bnd_eq (strAdd_ok (by rw [bl_one, bl_itoaB]; simp only [List.length_singleton]; omega)) ?_
      refine ok_bnd_eq (strAdd_ok (by rw [bl_app, bl_one, bl_itoaB]; simp only [List.length_append, List.length_singleton]; omega)) ?_
      by_cases hn : st.2 > 1
      · rw [if_pos (by simpa using hn)]
        refine ok_bnd_eq (itoaP_ok (by omega)) ?_
        refine ok_bnd_eq (strAdd_ok (by rw [bl_one, bl_itoaB]; simp only [List.length_singleton]; omega)) ?_
        refine ok_bnd_eq (strAdd_ok (by simp only [bl_app, bl_one, bl_itoaB, List.length_append, List.length_singleton]; omega)) (ok_some ?_)
        simp only [bl_app, bl_one, bl_itoaB]
        unfold stepT
        rw [if_pos hn]; simp
      · rw [if_neg (by simpa using hn)]
        refine ok_some ?_
        simp only [bl_app, bl_one, bl_itoaB]
        unfold stepT
        rw [if_neg hn]; simp
    · intro z hz
      refine ok_some ⟨goal z hz, ?_⟩
      show steps.length + 1 - (addI ((k + 1 : Nat) : Int) 1).toNat < steps.length + 1 - (((k + 1 : Nat) : Int)).toNat
      rw [addI_eq (by omega)]; omega
  · rw [if_neg (by simp only [decide_eq_true_eq]; rw [trail_len]; omega)]
    refine ok_some ?_
    show bl s = _
    rw [hb, List.take_of_length_le (by omega)]
end Go.Proofs.YtlngccfplnbeiaaGreatDoor
