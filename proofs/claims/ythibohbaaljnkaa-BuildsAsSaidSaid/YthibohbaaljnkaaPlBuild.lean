/- Own text: the ground that fits a bed: the program and the document. -/
import Derived.Test.YthibohbaaljnkaaPlNear
namespace Go.Proofs.Ythibohbaaljnkaa
open Sx
set_option linter.all false

/-! ### Lists over the cells of a region -/
def Cells {α : Type} (r : S_api_Region) (l : List α) (g : Int → Int → α) : Prop := (l.length : Int) = r.W * r.H ∧ ∀ x y, inR r x y → l[(cellOf r x y).toNat]? = some (g x y)
theorem Cells.congr {α : Type} {r : S_api_Region} {l : List α} {g g' : Int → Int → α} (h : Cells r l g) (e : ∀ x y, inR r x y → g x y = g' x y) : Cells r l g' := ⟨h.1, fun x y hi => by rw [h.2 x y hi, e x y hi]⟩
theorem Cells.set {α : Type} {r : S_api_Region} (hr : RegOK r) {l : List α} {g g' : Int → Int → α} (h : Cells r l g) {X Y : Int} (hi : inR r X Y) {v : α} (e1 : g' X Y = v) (e2 : ∀ x y, inR r x y → ¬ (x = X ∧ y = Y) → g' x y = g x y) : Cells r (l.set (cellOf r X Y).toNat v) g' := by
  refine ⟨by rw [List.length_set]; exact h.1, fun x y hxy => ?_⟩
  have b := cell_bounds hr hi
  have b' := cell_bounds hr hxy
  have hl : (cellOf r X Y).toNat < l.length := by have := h.1; omega
  by_cases hc : x = X ∧ y = Y
  · obtain ⟨rfl, rfl⟩ := hc
    rw [List.getElem?_set_self hl, e1]
  · rw [List.getElem?_set_ne, h.2 x y hxy, e2 x y hxy hc]
    intro e
    have := cell_inj hr hi hxy (by omega)
    exact hc ⟨this.1.symm, this.2.symm⟩

/-- What stands at a cell while place m is being gone through, at (X, Y). -/
def midF (way : List S_api_Point) (far : Int) (m : Nat) (X Y x y : Int) : Int × Int := if y < Y ∨ (y = Y ∧ x < X) then nearF way far x y (m + 1) else nearF way far x y m

theorem nearF_succ {way : List S_api_Point} {far x y : Int} {m : Nat} {p : S_api_Point} (hp : way[m]? = some p) : nearF way far x y (m + 1) = if inBox far p x y ∧ ((nearF way far x y m).1 < 0 ∨ dist p x y < (nearF way far x y m).2) then ((m : Int), dist p x y) else nearF way far x y m := by
  conv => lhs; unfold nearF
  rw [hp]
theorem nearF_out {way : List S_api_Point} {far x y : Int} {m : Nat} {p : S_api_Point} (hp : way[m]? = some p) (hb : ¬ inBox far p x y) : nearF way far x y (m + 1) = nearF way far x y m := by
  rw [nearF_succ hp, if_neg (fun h => hb h.1)]

theorem nearest_ok {r : S_api_Region} (h : RegOK r) {way : List S_api_Point} (hw : ∀ p ∈ way, inR r p.X p.Y) {far : Int} (hf0 : 0 ≤ far) (hf1 : far ≤ 40) :
    Ok (road_nearest_p r way far) (fun z => Cells r z.1 (fun x y => (nearF way far x y way.length).1) ∧ Cells r z.2 (fun x y => (nearF way far x y way.length).2)) := by
  unfold road_nearest_p
  obtain ⟨m1, m2, m3⟩ := wh_eq h.w1 h.w2 h.h1 h.h2
  have hwh := h.wh
  obtain ⟨a1, a2, a3, a4, a5, a6, a7, a8, a9⟩ := h
  have h : RegOK r := ⟨a1, a2, a3, a4, a5, a6, a7, a8, a9⟩
  rw [m1]
  refine ok_bnd_eq (mk2_ok 0 m2 (by omega)) ?_
  have hN : ((List.replicate (r.W * r.H).toNat (0 : Int)).length : Int) = r.W * r.H := by rw [List.length_replicate]; omega
  generalize hl1 : List.replicate (r.W * r.H).toNat (0 : Int) = l1 at *
  have hz : ∀ k, k < l1.length → l1[k]? = some 0 := by
    intro k hk
    subst hl1
    rw [List.getElem?_replicate, if_pos (by simpa using hk)]
  refine ok_bnd (ok_forS (fun k s => s.length = l1.length ∧ ∀ j, j < k → s[j]? = some (-1)) ⟨rfl, fun j hj => by omega⟩ ?_) ?_
  · rintro k s hk ⟨hs1, hs2⟩
    refine ok_idxN (x := s[k]) (List.getElem?_eq_getElem (by omega)) ?_
    refine ok_bnd_eq rfl (ok_some ?_)
    simp only [Int.toNat_natCast]
    refine ⟨by rw [List.length_set]; exact hs1, fun j hj => ?_⟩
    rcases Nat.lt_or_ge j k with hlt | hge
    · rw [List.getElem?_set_ne (by omega)]; exact hs2 j hlt
    · have : j = k := by omega
      subst this
      rw [List.getElem?_set_self (by omega)]
  rintro nr0 ⟨hn1, hn2⟩
  have start : Cells r l1 (fun x y => (nearF way far x y 0).2) ∧ Cells r nr0 (fun x y => (nearF way far x y 0).1) := by
    refine ⟨⟨hN, fun x y hi => ?_⟩, ⟨by rw [hn1]; exact hN, fun x y hi => ?_⟩⟩
    · have b := cell_bounds h hi
      exact hz _ (by omega)
    · have b := cell_bounds h hi
      exact hn2 _ (by omega)
  refine ok_bnd (ok_forS (fun m s => Cells r s.1 (fun x y => (nearF way far x y m).2) ∧ Cells r s.2 (fun x y => (nearF way far x y m).1)) start ?_) (fun z hz => ok_some ⟨hz.2, hz.1⟩)
  rintro m ⟨sq, nr⟩ hm ⟨hsq, hnr⟩
  have hp : way[m]? = some way[m] := List.getElem?_eq_getElem hm
  have hin := hw _ (List.getElem_mem hm)
  generalize way[m] = p at hp hin
  obtain ⟨i1, i2, i3, i4⟩ := hin
  have hin : inR r p.X p.Y := ⟨i1, i2, i3, i4⟩
  refine ok_idxN hp ?_
  refine ok_bnd_eq rfl ?_
  rw [subI_eq (a := p.Y) (by omega), maxI_eq, addI_eq (a := p.Y) (by omega), addI_eq (a := r.Y) (by omega), subI_eq (a := r.Y + r.H) (by omega), minI_eq]
  rw [subI_eq (a := p.X) (by omega), maxI_eq, addI_eq (a := p.X) (by omega), addI_eq (a := r.X) (by omega), subI_eq (a := r.X + r.W) (by omega), minI_eq]
  -- the rows
  refine ok_bnd (ok_loopP (fun s : Int × List Int × List Int => max (p.Y - far) r.Y ≤ s.1 ∧ s.1 ≤ r.Y + r.H ∧ Cells r s.2.1 (fun x y => (midF way far m r.X s.1 x y).2) ∧ Cells r s.2.2 (fun x y => (midF way far m r.X s.1 x y).1))
    (fun s => (r.Y + r.H - s.1).toNat) (Q := fun s => Cells r s.1 (fun x y => (nearF way far x y (m + 1)).2) ∧ Cells r s.2 (fun x y => (nearF way far x y (m + 1)).1)) (by simp only; omega) ?_ ?_) (fun z hz => ok_some hz)
  · have e : ∀ x y, inR r x y → midF way far m r.X (max (p.Y - far) r.Y) x y = nearF way far x y m := by
      intro x y hi
      unfold midF
      split
      · refine nearF_out hp ?_
        unfold inBox; unfold inR at hi; omega
      · rfl
    exact ⟨Int.le_refl _, by simp only; omega, hsq.congr fun x y hi => by rw [e x y hi], hnr.congr fun x y hi => by rw [e x y hi]⟩
  rintro ⟨Y, sq, nr⟩ ⟨hY1, hY2, hsq, hnr⟩
  simp only at hY1 hY2 hsq hnr ⊢
  refine ok_ite (fun hc => ?_) (fun hc => ?_)
  rotate_left
  · have hc : ¬ Y ≤ min (p.Y + far) (r.Y + r.H - 1) := by simpa using hc
    have e : ∀ x y, inR r x y → midF way far m r.X Y x y = nearF way far x y (m + 1) := by
      intro x y hi
      unfold midF
      split
      · rfl
      · refine (nearF_out hp ?_).symm
        unfold inBox; unfold inR at hi; omega
    exact ok_some ⟨hsq.congr fun x y hi => by rw [e x y hi], hnr.congr fun x y hi => by rw [e x y hi]⟩
  have hc : Y ≤ min (p.Y + far) (r.Y + r.H - 1) := by simpa using hc
  refine ok_bnd_eq rfl ?_
  -- one row
  refine ok_bnd (ok_loopP (fun s : Int × List Int × List Int => max (p.X - far) r.X ≤ s.1 ∧ s.1 ≤ r.X + r.W ∧ Cells r s.2.1 (fun x y => (midF way far m s.1 Y x y).2) ∧ Cells r s.2.2 (fun x y => (midF way far m s.1 Y x y).1))
    (fun s => (r.X + r.W - s.1).toNat) (Q := fun s => Cells r s.1 (fun x y => (midF way far m r.X (Y + 1) x y).2) ∧ Cells r s.2 (fun x y => (midF way far m r.X (Y + 1) x y).1)) (by simp only; omega) ?_ ?_) ?_
  · have e : ∀ x y, inR r x y → midF way far m r.X Y x y = midF way far m (max (p.X - far) r.X) Y x y := by
      intro x y hi
      unfold inR at hi
      unfold midF
      by_cases c1 : y < Y
      · rw [if_pos (.inl c1), if_pos (.inl c1)]
      · rw [if_neg (by omega)]
        split
        · refine (nearF_out hp ?_).symm
          unfold inBox; omega
        · rfl
    exact ⟨Int.le_refl _, by simp only; omega, hsq.congr fun x y hi => by rw [e x y hi], hnr.congr fun x y hi => by rw [e x y hi]⟩
  · rintro ⟨X, sq, nr⟩ ⟨hX1, hX2, hsq, hnr⟩
    simp only at hX1 hX2 hsq hnr ⊢
    refine ok_ite (fun hd => ?_) (fun hd => ?_)
    rotate_left
    · have hd : ¬ X ≤ min (p.X + far) (r.X + r.W - 1) := by simpa using hd
      have e : ∀ x y, inR r x y → midF way far m X Y x y = midF way far m r.X (Y + 1) x y := by
        intro x y hi
        unfold inR at hi
        unfold midF
        by_cases c1 : y < Y ∨ (y = Y ∧ x < X)
        · rw [if_pos c1, if_pos (by omega)]
        · rw [if_neg c1]
          by_cases c2 : y < Y + 1
          · rw [if_pos (.inl c2)]
            refine (nearF_out hp ?_).symm
            unfold inBox; omega
          · rw [if_neg (by omega)]
      exact ok_some ⟨hsq.congr fun x y hi => by rw [e x y hi], hnr.congr fun x y hi => by rw [e x y hi]⟩
    have hd : X ≤ min (p.X + far) (r.X + r.W - 1) := by simpa using hd
    have hXY : inR r X Y := by unfold inR; omega
    have hbox : inBox far p X Y := by unfold inBox; omega
    obtain ⟨c1, c2⟩ := cell_bounds h hXY
    have hk : subI (addI (mulI (subI Y r.Y) r.W) X) r.X = cellOf r X Y := by
      unfold cellOf at c1 c2 ⊢
      have hm := mul_bound (a := Y - r.Y) (A := 512) (b := r.W) (B := 512) (by omega) (by omega)
      rw [subI_eq (a := Y) (by omega), mulI_eq (by omega), addI_eq (by omega), subI_eq (by omega)]
      omega
    rw [hk, dist_prog h hin hXY]
    have hs := hsq.2 X Y hXY
    have hn := hnr.2 X Y hXY
    have hmid : midF way far m X Y X Y = nearF way far X Y m := by unfold midF; rw [if_neg (by omega)]
    simp only [hmid] at hs hn
    have hother : ∀ x y, inR r x y → ¬ (x = X ∧ y = Y) → midF way far m (X + 1) Y x y = midF way far m X Y x y := by
      intro x y _ hne
      unfold midF
      by_cases c : y < Y ∨ (y = Y ∧ x < X)
      · rw [if_pos c, if_pos (by omega)]
      · rw [if_neg c, if_neg (by omega)]
    have hself : midF way far m (X + 1) Y X Y = nearF way far X Y (m + 1) := by unfold midF; rw [if_pos (by omega)]
    have hsucc := nearF_succ (far := far) (x := X) (y := Y) hp
    rw [addI_eq (a := X) (by omega)]
    refine ok_bnd (P := fun s : List Int × List Int => Cells r s.1 (fun x y => (midF way far m (X + 1) Y x y).2) ∧ Cells r s.2 (fun x y => (midF way far m (X + 1) Y x y).1)) ?_ (fun s hs => ok_some ⟨⟨by omega, by omega, hs.1, hs.2⟩, by simp only; omega⟩)
    refine ok_bnd_eq rfl ?_
    refine ok_bnd_eq rfl ?_
    refine ok_bnd (P := fun c : Bool => c = true ↔ ((nearF way far X Y m).1 < 0 ∨ dist p X Y < (nearF way far X Y m).2)) ?_ ?_
    · refine ok_idx c1 hn (ok_idx c1 hn ?_)
      refine ok_ite (fun hlt => ok_some ?_) (fun hlt => ?_)
      · have hlt : (nearF way far X Y m).1 < 0 := by simpa using hlt
        simp [hlt]
      · have hlt : ¬ (nearF way far X Y m).1 < 0 := by simpa using hlt
        refine ok_idx c1 hs (ok_idx c1 hs (ok_some ?_))
        simp [hlt]
    · intro c hcc
      refine ok_ite (fun ht => ?_) (fun ht => ?_)
      · have hcond := hcc.1 ht
        rw [if_pos ⟨hbox, hcond⟩] at hsucc
        refine ok_idx c1 hn (ok_bnd_eq rfl (ok_idx c1 hs (ok_bnd_eq rfl (ok_some ?_))))
        refine ⟨hsq.set h hXY ?_ fun x y hi hne => ?_, hnr.set h hXY ?_ fun x y hi hne => ?_⟩
        · simp only [hself, hsucc]
        · simp only [hother x y hi hne]
        · simp only [hself, hsucc]
        · simp only [hother x y hi hne]
      · have hcond : ¬ ((nearF way far X Y m).1 < 0 ∨ dist p X Y < (nearF way far X Y m).2) := fun h => ht (hcc.2 h)
        rw [if_neg (fun h => hcond h.2)] at hsucc
        have e : ∀ x y, inR r x y → midF way far m X Y x y = midF way far m (X + 1) Y x y := by
          intro x y hi
          by_cases hne : x = X ∧ y = Y
          · obtain ⟨rfl, rfl⟩ := hne; rw [hmid, hself, hsucc]
          · exact (hother x y hi hne).symm
        exact ok_some ⟨hsq.congr fun x y hi => by rw [e x y hi], hnr.congr fun x y hi => by rw [e x y hi]⟩
  · rintro ⟨sq', nr'⟩ ⟨h1, h2⟩
    rw [addI_eq (a := Y) (by omega)]
    exact ok_some ⟨⟨by omega, by omega, h1, h2⟩, by simp only; omega⟩
end Go.Proofs.Ythibohbaaljnkaa
