/- Own text: texts of rivers: many lines; the checks. -/
import Derived.Test.YteebpnooijknoaaDoorRiversPlain
namespace Go.Proofs.YteebpnooijknoaaDoor
open Go Sx
set_option linter.all false

def PtOK (p : S_api_Point) : Prop := -4194304 ≤ p.X ∧ p.X ≤ 4194304 ∧ -4194304 ≤ p.Y ∧ p.Y ≤ 4194304
instance (p : S_api_Point) : Decidable (PtOK p) := by unfold PtOK; infer_instance
theorem place_eq (p : S_api_Point) : noise_CheckPlace_p p.X p.Y = some (if PtOK p then 0 else 5) := by
  unfold noise_CheckPlace_p
  by_cases h : PtOK p
  · rw [if_pos h, if_neg]
    unfold PtOK at h
    simp only [Bool.or_eq_true, decide_eq_true_eq]; omega
  · rw [if_neg h, if_pos]
    unfold PtOK at h
    simp only [Bool.or_eq_true, decide_eq_true_eq]; omega
theorem Direction_mv (a : S_api_Point) {d : Int} (hd : DirOK d) : Ok (water_Direction_p a (mv a d)) (fun e => e ≠ -1) := by
  unfold water_Direction_p
  unfold DirOK at hd
  refine ok_bnd (ok_forI (fun k _ => (k : Int) ≤ d) (fun e => e ≠ -1) (by omega) ?_) ?_
  · intro k u hk hI
    refine ok_bnd_eq (tw_eq (d := (k : Int)) (by omega)) ?_
    refine ok_ite (fun _ => ok_some (by show ((k : Int)) ≠ -1; omega)) (fun hc => ok_some ?_)
    show ((k + 1 : Nat) : Int) ≤ d
    rcases Int.lt_or_le (k : Int) d with h | h
    · omega
    · have : d = (k : Int) := by omega
      subst this
      exact absurd (by unfold mv; simp) hc
  · intro c hc
    cases c with
    | out e => exact ok_some hc
    | go u => exfalso; have h : ((8 : Nat) : Int) ≤ d := hc; omega
theorem refDirection_mv {a : S_api_Point} (ha : PtOK a) {d : Int} (hd : DirOK d) : tarnref2_Direction_p a (mv a d) = some d := by
  unfold tarnref2_Direction_p
  unfold PtOK at ha
  have key : ∀ tx ty : Int, tw d = ⟨tx, ty⟩ → -1 ≤ tx ∧ tx ≤ 1 → -1 ≤ ty ∧ ty ≤ 1 → subI (mv a d).X a.X = tx ∧ subI (mv a d).Y a.Y = ty := by
    intro tx ty h hx hy
    unfold mv
    rw [h]
    simp only
    rw [addI_eq (by omega), addI_eq (by omega), subI_eq (by omega), subI_eq (by omega)]
    omega
  have h8 : d = 0 ∨ d = 1 ∨ d = 2 ∨ d = 3 ∨ d = 4 ∨ d = 5 ∨ d = 6 ∨ d = 7 := by unfold DirOK at hd; omega
  rcases h8 with rfl | rfl | rfl | rfl | rfl | rfl | rfl | rfl
  · rw [(key 1 0 rfl (by omega) (by omega)).1, (key 1 0 rfl (by omega) (by omega)).2]; rfl
  · rw [(key 1 1 rfl (by omega) (by omega)).1, (key 1 1 rfl (by omega) (by omega)).2]; rfl
  · rw [(key 0 1 rfl (by omega) (by omega)).1, (key 0 1 rfl (by omega) (by omega)).2]; rfl
  · rw [(key (-1) 1 rfl (by omega) (by omega)).1, (key (-1) 1 rfl (by omega) (by omega)).2]; rfl
  · rw [(key (-1) 0 rfl (by omega) (by omega)).1, (key (-1) 0 rfl (by omega) (by omega)).2]; rfl
  · rw [(key (-1) (-1) rfl (by omega) (by omega)).1, (key (-1) (-1) rfl (by omega) (by omega)).2]; rfl
  · rw [(key 0 (-1) rfl (by omega) (by omega)).1, (key 0 (-1) rfl (by omega) (by omega)).2]; rfl
  · rw [(key 1 (-1) rfl (by omega) (by omega)).1, (key 1 (-1) rfl (by omega) (by omega)).2]; rfl

/-- A river that is right among many. -/
structure RivIn (r : S_api_River) (many : Int) : Prop where
  a0 : 0 ≤ r.Amount
  a1 : r.Amount ≤ 1099511627776
  o0 : 1 ≤ r.Order
  o1 : r.Order ≤ 100
  i0 : -1 ≤ r.Into
  i1 : r.Into < many
  pt : ∀ q ∈ r.Points, PtOK q
theorem slc_one {α : Type} {l : List α} (h : 1 ≤ l.length) : slc l 1 (l.length : Int) = some (l.drop 1) := by
  unfold slc
  rw [if_pos ⟨by omega, by omega, by omega⟩]
  have e : ((l.length : Int)).toNat = l.length := by omega
  rw [e, List.take_length]; rfl

theorem checkRiver_spec {r : S_api_River} {p : S_api_Point} {ds : List Int} (h : RivOK r p ds) (many : Int) : Ok (water_checkRiver_p r many) (fun e => (e = 0 ∧ RivIn r many) ∨ e = 3 ∨ e = 11 ∨ e = 5) := by
  unfold water_checkRiver_p
  have hlen : r.Points.length = ds.length + 1 := by rw [h.pts, trail_len]
  rw [if_neg (show ¬ ((r.Points.length : Int) == 0) = true by simp only [beq_iff_eq]; omega)]
  refine ok_ite (fun _ => ok_some (.inr (.inl rfl))) (fun h1 => ok_ite (fun _ => ok_some (.inr (.inr (.inl rfl)))) (fun h2 => ?_))
  have h1 : ¬ (r.Amount < 0 ∨ r.Amount > 1099511627776 ∨ r.Order < 1 ∨ r.Order > 100) := by simpa using h1
  have h2 : ¬ (r.Into < -1 ∨ r.Into ≥ many) := by simpa using h2
  refine ok_bnd (ok_forI (fun k _ => ∀ j q, j < k → r.Points[j]? = some q → PtOK q) (fun e => e = 5) (fun j q h => by omega) ?_) ?_
  · intro k u hk hI
    have hb : r.Points[k]? = some r.Points[k] := List.getElem?_eq_getElem hk
    refine ok_idxN hb ?_
    rw [place_eq, bnd_def]
    by_cases hp : PtOK r.Points[k]
    · rw [if_pos hp]
      refine ok_some (fun j q hj hq => ?_)
      rcases Nat.lt_or_ge j k with hlt | hge
      · exact hI j q hlt hq
      · have : j = k := by omega
        subst this
        rw [hb] at hq
        obtain rfl := Option.some.inj hq
        exact hp
    · rw [if_neg hp]
      exact ok_some rfl
  · intro c hc
    cases c with
    | out e => exact ok_some (.inr (.inr (.inr hc)))
    | go u =>
      refine ok_bnd_eq (slc_one (by omega)) ?_
      refine ok_bnd (ok_forI (fun _ _ => True) (fun _ => False) trivial ?_) ?_
      · intro k u hk _
        rw [List.length_drop] at hk
        have hd : ds[k]? = some (ds[k]'(by omega)) := List.getElem?_eq_getElem _
        have hok := h.dirs _ (List.getElem_mem (l := ds) (n := k) (by omega))
        generalize ds[k]'(by omega) = d at hd hok
        obtain ⟨a, e1, e2⟩ := trail_step ds p k d hd
        rw [← h.pts] at e1 e2
        refine ok_idxN (x := mv a d) (by rw [List.getElem?_drop, Nat.add_comm]; exact e2) (ok_idxN e1 ?_)
        refine ok_bnd (Direction_mv a hok) (fun e he => ?_)
        rw [if_neg (by simpa using he)]
        exact ok_some trivial
      · intro c hc2
        cases c with
        | out e => exact absurd hc2 (fun h => h)
        | go u =>
          refine ok_some (.inl ⟨rfl, ⟨by omega, by omega, by omega, by omega, by omega, by omega, fun q hq => ?_⟩⟩)
          obtain ⟨j, hj, rfl⟩ := List.mem_iff_getElem.1 hq
          exact hc j _ hj (List.getElem?_eq_getElem hj)

theorem checkRivers_spec {l : List S_api_River} (h : ∀ r ∈ l, ∃ p ds, RivOK r p ds) : Ok (water_checkRivers_p l) (fun e => (e = 0 ∧ l.length ≤ 65536 ∧ ∀ r ∈ l, RivIn r l.length) ∨ e = 3 ∨ e = 11 ∨ e = 5 ∨ (e = 4 ∧ 65536 < l.length)) := by
  unfold water_checkRivers_p
  by_cases hg : (l.length : Int) > 65536
  · rw [if_pos (by simpa using hg)]
    exact ok_some (.inr (.inr (.inr (.inr ⟨rfl, by omega⟩))))
  rw [if_neg (by simpa using hg)]
  refine ok_bnd (ok_forI (fun k _ => ∀ j r, j < k → l[j]? = some r → RivIn r l.length) (fun e => e = 3 ∨ e = 11 ∨ e = 5) (fun j r h => by omega) ?_) ?_
  · intro k u hk hI
    have hb : l[k]? = some l[k] := List.getElem?_eq_getElem hk
    refine ok_idxN hb ?_
    obtain ⟨p, ds, hr⟩ := h _ (List.getElem_mem hk)
    refine ok_bnd (checkRiver_spec hr _) (fun e he => ?_)
    rcases he with ⟨rfl, he⟩ | he
    · rw [if_neg (by decide)]
      refine ok_some (fun j q hj hq => ?_)
      rcases Nat.lt_or_ge j k with hlt | hge
      · exact hI j q hlt hq
      · have : j = k := by omega
        subst this
        rw [hb] at hq
        obtain rfl := Option.some.inj hq
        exact he
    · rw [if_pos (by simp only [bne_iff_ne]; omega)]
      exact ok_some he
  · intro c hc
    cases c with
    | out e =>
      refine ok_some (.inr ?_)
      have hc : e = 3 ∨ e = 11 ∨ e = 5 := hc
      rcases hc with hc | hc | hc
      · exact .inl hc
      · exact .inr (.inl hc)
      · exact .inr (.inr (.inl hc))
    | go u =>
      refine ok_some (.inl ⟨rfl, by omega, fun r hr => ?_⟩)
      obtain ⟨j, hj, rfl⟩ := List.mem_iff_getElem.1 hr
      exact hc j _ hj (List.getElem?_eq_getElem hj)
end Go.Proofs.YteebpnooijknoaaDoor
