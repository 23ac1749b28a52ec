/- Own text: beds: lengths, heights, grades and the passes over a bed. -/
import Derived.Test.YthibohbaaljnkaaBedsPlain
namespace Go.Proofs.Ythibohbaaljnkaa
open Sx
set_option linter.all false

theorem keyOk {α : Type} {o : Option α} {z : α} (h : Ok o (fun r => r = z)) : o = some z := by obtain ⟨r, h1, rfl⟩ := h; exact h1
theorem all_get {α : Type} {P : α → Prop} {l : List α} (h : ∀ v ∈ l, P v) {i : Nat} {x : α} (hx : l[i]? = some x) : P x := h x (List.mem_of_getElem? hx)
theorem all_of_get {α : Type} {P : α → Prop} {l : List α} (h : ∀ (i : Nat) x, l[i]? = some x → P x) : ∀ v ∈ l, P v := by
  intro v hv
  obtain ⟨i, hi, rfl⟩ := List.mem_iff_getElem.1 hv
  exact h i _ (List.getElem?_eq_getElem hi)
theorem take_snoc {α : Type} {l : List α} {k : Nat} {x : α} (h : l[k]? = some x) : l.take k ++ [x] = l.take (k + 1) := by rw [List.take_add_one, h]; rfl
theorem get_lt {α : Type} {l : List α} {i : Nat} {x : α} (h : l[i]? = some x) : i < l.length := by
  rcases Nat.lt_or_ge i l.length with hl | hl
  · exact hl
  · rw [List.getElem?_eq_none hl] at h; cases h
theorem get_ex {α : Type} {l : List α} {i : Nat} (h : i < l.length) : ∃ x, l[i]? = some x := ⟨_, List.getElem?_eq_getElem h⟩

section
variable {f : S_api_Field} {way : List S_api_Point}

theorem lengths_ok (hf : FieldOK f) (hw : WayOK f way) : ∃ ls : List Nat, ls.length = way.length - 1 ∧ (∀ v ∈ ls, Bd v 1 24) ∧ road_lengths_p way = some ls ∧ road_lengths_v1_p way = some ls ∧ tarnref2_Lengths_p way = some ls := by
  have hlen : 0 < way.length := by
    rcases Nat.eq_zero_or_pos way.length with h | h
    · exact absurd (List.length_eq_zero_iff.1 h) hw.ne
    · exact h
  have hle := hw.le
  obtain ⟨ls, hl, hx⟩ := choose_list (fun i z => ∃ p q, way[i + 1]? = some p ∧ way[i]? = some q ∧ lenOf (leapPt q p) = some z ∧ Bd z 1 24 ∧ 0 ≤ (leapPt q p).1 ∧ 1 ≤ (leapPt q p).2 ∧ (leapPt q p).2 ≤ 12) (way.length - 1) (by
    intro i hi
    obtain ⟨p, hp⟩ := get_ex (l := way) (i := i + 1) (by omega)
    obtain ⟨q, hq⟩ := get_ex (l := way) (i := i) (by omega)
    obtain ⟨h1, h2⟩ := hw.leap i p q hp hq
    rcases leapOf_cases (p.X - q.X) (p.Y - q.Y) with hc | hc
    · exact absurd hc.1 h1
    · have hc' : 0 ≤ (leapPt q p).1 ∧ (leapPt q p).1 ≤ 7 ∧ 0 < (leapPt q p).2 := ⟨hc.1, hc.2.1, hc.2.2.1⟩
      obtain ⟨z, hz, bz⟩ := lenOf_ok (l := leapPt q p) hc'.1 (by omega) h2
      exact ⟨z, p, q, hp, hq, hz, bz, hc'.1, by omega, h2⟩)
  have pts : ∀ i p, way[i]? = some p → PtOK p := fun i p hp => inR_pt hf.toRegOK (all_get hw.inr hp)
  refine ⟨ls, hl, all_of_get fun i z hz => (hx i z hz).choose_spec.choose_spec.2.2.2.1, ?_, ?_, ?_⟩
  rotate_left
  · show road_lengths_p way = some ls
    exact keyOk (by
      unfold road_lengths_p
      have hs : slc way 1 (way.length : Int) = some (way.drop 1) := by
        unfold slc
        rw [if_pos (by omega)]
        simp
      refine ok_bnd_eq hs ?_
      refine ok_bnd (ok_forS (fun k s => s = ls.take k) (by simp) ?_) (fun s hs => ok_some ?_)
      · rintro k s hk rfl
        have hk' : k < ls.length := by rw [hl]; simpa using hk
        obtain ⟨z, hz⟩ := get_ex hk'
        obtain ⟨p, q, hp, hq, h1, _, h2, h3, h4⟩ := hx k z hz
        refine ok_idxN (x := p) (by rw [List.getElem?_drop, Nat.add_comm]; exact hp) (ok_idxN hq ?_)
        refine ok_bnd_eq (Between_eq (pts _ _ hq) (pts _ _ hp)) ?_
        rw [if_neg (by omega)]
        refine ok_bnd_eq ((length_eq h2 h3 h4).trans h1) (ok_bnd_eq (app_ok (by simp; omega)) (ok_some (take_snoc hz)))
      · subst hs
        rw [List.take_of_length_le (by rw [hl]; simp)])
  · exact keyOk (by
      unfold tarnref2_Lengths_p
      refine ok_bnd (ok_loopP (fun s : Int × List Nat => ∃ k : Nat, s.1 = (k : Int) + 1 ∧ k ≤ ls.length ∧ s.2 = ls.take k) (fun s => (way.length - s.1).toNat) (Q := fun s => s = ls) (by simp only; omega) ⟨0, rfl, by omega, by simp⟩ ?_) (fun s hs => ok_some hs)
      rintro ⟨i, s⟩ ⟨k, hi, hk, hs⟩
      simp only at hi hs ⊢
      subst hs
      refine ok_ite (fun hc => ?_) (fun hc => ?_)
      · have hc : i < (way.length : Int) := by simpa using hc
        obtain ⟨z, hz⟩ := get_ex (l := ls) (i := k) (by omega)
        obtain ⟨p, q, hp, hq, h1, _, h2, h3, h4⟩ := hx k z hz
        rw [subI_eq (a := i) (by omega), addI_eq (a := i) (by omega)]
        refine ok_idx (by omega) (x := q) (by rw [show (i - 1).toNat = k by omega]; exact hq) (ok_idx (by omega) (x := p) (by rw [show i.toNat = k + 1 by omega]; exact hp) ?_)
        refine ok_bnd_eq (Leap_eq (pts _ _ hq) (pts _ _ hp)) (ok_bnd_eq ((Reach_eq h2).trans h1) (ok_bnd_eq (app_ok (by simp; omega)) (ok_some ?_)))
        exact ⟨⟨k + 1, by omega, by omega, take_snoc hz⟩, by omega⟩
      · have hc : ¬ i < (way.length : Int) := by simpa using hc
        refine ok_some ?_
        exact List.take_of_length_le (by omega))
  · show road_lengths_p way = some ls
    exact keyOk (by
      unfold road_lengths_p
      have hs : slc way 1 (way.length : Int) = some (way.drop 1) := by
        unfold slc
        rw [if_pos (by omega)]
        simp
      refine ok_bnd_eq hs ?_
      refine ok_bnd (ok_forS (fun k s => s = ls.take k) (by simp) ?_) (fun s hs => ok_some ?_)
      · rintro k s hk rfl
        have hk' : k < ls.length := by rw [hl]; simpa using hk
        obtain ⟨z, hz⟩ := get_ex hk'
        obtain ⟨p, q, hp, hq, h1, _, h2, h3, h4⟩ := hx k z hz
        refine ok_idxN (x := p) (by rw [List.getElem?_drop, Nat.add_comm]; exact hp) (ok_idxN hq ?_)
        refine ok_bnd_eq (Between_eq (pts _ _ hq) (pts _ _ hp)) ?_
        rw [if_neg (by omega)]
        refine ok_bnd_eq ((length_eq h2 h3 h4).trans h1) (ok_bnd_eq (app_ok (by simp; omega)) (ok_some (take_snoc hz)))
      · subst hs
        rw [List.take_of_length_le (by rw [hl]; simp)])

theorem Cell_eq {r : S_api_Region} (h : RegOK r) {x y : Int} (hi : inR r x y) : tarnref2_Cell_p r x y = some (cellOf r x y) := by
  unfold tarnref2_Cell_p
  obtain ⟨c1, c2⟩ := cell_bounds h hi
  unfold cellOf at c1 c2 ⊢
  obtain ⟨a1, a2, a3, a4, a5, a6, a7, a8, a9⟩ := h
  obtain ⟨i1, i2, i3, i4⟩ := hi
  have hm := mul_bound (a := y - r.Y) (A := 512) (b := r.W) (B := 512) (by omega) (by omega)
  rw [subI_eq (a := y) (by omega), mulI_eq (by omega), addI_eq (by omega), subI_eq (by omega)]
  congr 1; omega

theorem heights_ok (hf : FieldOK f) (hw : WayOK f way) : ∃ hs : List Nat, hs.length = way.length ∧ (∀ v ∈ hs, hgtB v = true ∧ v ∈ f.V) ∧ road_heights_p f way = some hs ∧ tarnref2_Values_p f way = some hs ∧ tarnref2_Values_v1_p f way = some hs := by
  have hle := hw.le
  have hfl := hf.len
  obtain ⟨hs, hl, hx⟩ := choose_list (fun i z => ∃ p, way[i]? = some p ∧ inR f.Region p.X p.Y ∧ 0 ≤ cellOf f.Region p.X p.Y ∧ f.V[(cellOf f.Region p.X p.Y).toNat]? = some z ∧ hgtB z = true ∧ z ∈ f.V) way.length (by
    intro i hi
    obtain ⟨p, hp⟩ := get_ex hi
    have hin := all_get hw.inr hp
    obtain ⟨c1, c2⟩ := cell_bounds hf.toRegOK hin
    obtain ⟨z, hz⟩ := get_ex (l := f.V) (i := (cellOf f.Region p.X p.Y).toNat) (by omega)
    exact ⟨z, p, hp, hin, c1, hz, all_get hf.hts hz, List.mem_of_getElem? hz⟩)
  refine ⟨hs, hl, all_of_get fun i z hz => (hx i z hz).choose_spec.2.2.2.2, ?_, ?_, ?_⟩
  · exact keyOk (by
      unfold road_heights_p
      refine ok_bnd_eq (mk2_ok 0 (by omega) (by omega)) ?_
      refine ok_bnd (ok_forS (fun k s => s.length = way.length ∧ ∀ j, j < k → s[j]? = hs[j]?) ⟨by simp, fun j hj => by omega⟩ ?_) (fun s hs' => ok_some ?_)
      · rintro k s hk ⟨hsl, hs'⟩
        obtain ⟨z, hz⟩ := get_ex (l := hs) (i := k) (by omega)
        obtain ⟨p, hp, hin, c1, hv, _⟩ := hx k z hz
        refine ok_idxN hp (ok_bnd_eq (Place_eq hf.toRegOK _ _) ?_)
        rw [if_pos hin]
        obtain ⟨y, hy⟩ := get_ex (l := s) (i := k) (by omega)
        refine ok_idx c1 hv (ok_idxN hy (ok_bnd_eq rfl (ok_some ?_)))
        rw [Int.toNat_natCast]
        refine ⟨by rw [List.length_set]; exact hsl, fun j hj => ?_⟩
        rcases Nat.lt_or_ge j k with h | h
        · rw [List.getElem?_set_ne (by omega)]; exact hs' j h
        · have : j = k := by omega
          subst this
          rw [List.getElem?_set_self (by omega), hz]
      · obtain ⟨h1, h2⟩ := hs'
        apply List.ext_getElem?
        intro j
        rcases Nat.lt_or_ge j way.length with h | h
        · exact h2 j h
        · rw [List.getElem?_eq_none (by omega), List.getElem?_eq_none (by omega)])
  all_goals
    exact keyOk (by
      show Ok (tarnref2_Values_p f way) _
      unfold tarnref2_Values_p
      refine ok_bnd (ok_forS (fun k s => s = hs.take k) (by simp) ?_) (fun s hs' => ok_some ?_)
      · rintro k s hk rfl
        obtain ⟨z, hz⟩ := get_ex (l := hs) (i := k) (by omega)
        obtain ⟨p, hp, hin, c1, hv, _⟩ := hx k z hz
        refine ok_idxN hp (ok_bnd_eq (Cell_eq hf.toRegOK hin) (ok_idx c1 hv (ok_bnd_eq (app_ok (by simp; omega)) (ok_some (take_snoc hz)))))
      · subst hs'
        exact List.take_of_length_le (by omega))
end

theorem values_eq (l : List Nat) : road_values_p l = some (if ∀ v ∈ l, hgtB v = true then (l, 0) else ([], 3)) := by
  unfold road_values_p
  rw [forI_first l (fun v => if hgtB v then none else some (([] : List Nat), (3 : Int))) _ (by
    intro i x hx
    rw [idx_get hx, bnd_def]
    unfold field_Value_p field_height_p
    rw [bnd_def]
    show bnd (if (!hgtB x) = true then _ else _) _ = _
    cases hgtB x <;> rfl)]
  rw [bnd_def]
  by_cases h : ∀ v ∈ l, hgtB v = true
  · rw [if_pos h]
    have : List.findSome? (fun v => if hgtB v then none else some (([] : List Nat), (3 : Int))) l = none := by
      rw [List.findSome?_eq_none_iff]
      intro v hv; rw [h v hv]; rfl
    rw [this]
  · rw [if_neg h]
    cases hx : List.findSome? (fun v => if hgtB v then none else some (([] : List Nat), (3 : Int))) l with
    | none =>
      rw [List.findSome?_eq_none_iff] at hx
      exfalso; apply h
      intro v hv
      have := hx v hv
      cases hh : hgtB v with
      | true => rfl
      | false => rw [hh] at this; simp at this
    | some e =>
      rw [List.findSome?_eq_some_iff] at hx
      obtain ⟨_, a, _, _, hx, _⟩ := hx
      split at hx
      · cases hx
      · obtain rfl := Option.some.inj hx; rfl

/-! ### Grades -/
theorem sub_lt32 {a b z : Nat} (h : fsub .f32 a b = some z) : z < 2 ^ 32 := by
  have := Ieee.Format.sub_lt Ieee.single h
  rwa [show Ieee.single.width = 32 by decide +kernel] at this
theorem grade_ok {a b l : Nat} (ha : hgtB a = true) (hb : hgtB b = true) (hl : Bd l 1 24) : ∃ z d, fsub .f32 b a = some d ∧ road_grade_p a b l = some z ∧ (bnd (tarnref2_Abs_p d) fun r => bnd (fdiv .f32 r l) fun z => some z) = some z ∧ Bd z 0 2097152 := by
  have ba := hgtB_iff.1 ha
  have bb := hgtB_iff.1 hb
  obtain ⟨d, hd, bd⟩ := bd_sub bb ba (rp (n := -2097152) (by decide)) (rp (n := 2097152) (by decide)) (by decide) (by decide)
  have babs := bd_abs bd
  obtain ⟨z, hz, bz⟩ := bd_div babs hl (by decide) (rp (n := 0) (by decide)) (rp (n := 2097152) (by decide)) (by simp) (by rw [if_pos (by decide)]; decide)
  refine ⟨z, d, hd, ?_, ?_, bz⟩
  · unfold road_grade_p
    rw [hd, bnd_def, Magnitude_eq (sub_lt32 hd) bd.fi, bnd_def, hz, bnd_def]
  · rw [Abs_eq (sub_lt32 hd), bnd_def, hz, bnd_def]

/-! ### The passes -/
def fitS (how : Int) (s : List Nat) (i j : Nat) (d : Nat) : Option (List Nat) :=
  bnd s[j]? fun hb => bnd s[i]? fun hi => if how = 1 then bnd (fsub .f32 hb d) fun v => some (if fgt .f32 v hi = true then s.set i v else s) else bnd (fadd .f32 hb d) fun v => some (if flt .f32 v hi = true then s.set i v else s)
def Good (n : Nat) (s : List Nat) : Prop := s.length = n ∧ ∀ v ∈ s, hgtB v = true
theorem Good.set {n : Nat} {s : List Nat} (h : Good n s) (i : Nat) {v : Nat} (hv : hgtB v = true) : Good n (s.set i v) := by
  refine ⟨by rw [List.length_set]; exact h.1, fun u hu => ?_⟩
  rcases List.mem_or_eq_of_mem_set hu with hu | rfl
  · exact h.2 u hu
  · exact hv
theorem fit_ok {how : Int} {n : Nat} {s : List Nat} (hs : Good n s) {i j : Nat} (hi : i < n) (hj : j < n) {d : Nat} (hd : Bd d 0 32768) : ∃ s', fitS how s i j d = some s' ∧ Good n s' := by
  unfold fitS
  obtain ⟨a, ha⟩ := get_ex (l := s) (i := j) (by rw [hs.1]; exact hj)
  obtain ⟨b, hb⟩ := get_ex (l := s) (i := i) (by rw [hs.1]; exact hi)
  have ga := hgtB_iff.1 (all_get hs.2 ha)
  have gb := hgtB_iff.1 (all_get hs.2 hb)
  rw [ha, bnd_def, hb, bnd_def]
  by_cases hc : how = 1
  · rw [if_pos hc]
    obtain ⟨v, hv, bv⟩ := bd_sub ga hd (rp (n := -2097152) (by decide)) (rp (n := 1048576) (by decide)) (by decide) (by decide)
    rw [hv, bnd_def]
    refine ⟨_, rfl, ?_⟩
    rw [fgt_eq bv.nn gb.nn]
    split
    · rename_i hg
      have hg : W b < W v := by simpa using hg
      exact hs.set i (hgtB_iff.2 ⟨bv.1, by have := gb.2.1; omega, bv.2.2⟩)
    · exact hs
  · rw [if_neg hc]
    obtain ⟨v, hv, bv⟩ := bd_add ga hd (rp (n := -1048576) (by decide)) (rp (n := 2097152) (by decide)) (by decide) (by decide)
    rw [hv, bnd_def]
    refine ⟨_, rfl, ?_⟩
    rw [flt_eq bv.nn gb.nn]
    split
    · rename_i hg
      have hg : W v < W b := by simpa using hg
      exact hs.set i (hgtB_iff.2 ⟨bv.1, bv.2.1, by have := gb.2.2; omega⟩)
    · exact hs
def pass1 (how : Int) (ds h : List Nat) : Nat → Option (List Nat)
  | 0 => some h
  | k + 1 => bnd (pass1 how ds h k) fun s => bnd ds[k]? fun d => fitS how s (k + 1) k d
def pass2 (how : Int) (ds s0 : List Nat) : Nat → Option (List Nat)
  | 0 => some s0
  | j + 1 => bnd (pass2 how ds s0 j) fun s => bnd ds[ds.length - 1 - j]? fun d => fitS how s (ds.length - 1 - j) (ds.length - j) d
theorem pass1_ok {how : Int} {ds h : List Nat} (hd : ∀ d ∈ ds, Bd d 0 32768) (hh : Good (ds.length + 1) h) : ∀ k, k ≤ ds.length → ∃ s, pass1 how ds h k = some s ∧ Good (ds.length + 1) s
  | 0, _ => ⟨h, rfl, hh⟩
  | k + 1, hk => by
    obtain ⟨s, h1, h2⟩ := pass1_ok hd hh k (by omega)
    obtain ⟨d, hdk⟩ := get_ex (l := ds) (i := k) (by omega)
    obtain ⟨s', h3, h4⟩ := fit_ok (how := how) h2 (i := k + 1) (j := k) (by omega) (by omega) (all_get hd hdk)
    exact ⟨s', by unfold pass1; rw [h1, bnd_def, hdk, bnd_def, h3], h4⟩
theorem pass2_ok {how : Int} {ds h : List Nat} (hd : ∀ d ∈ ds, Bd d 0 32768) (hh : Good (ds.length + 1) h) : ∀ k, k ≤ ds.length → ∃ s, pass2 how ds h k = some s ∧ Good (ds.length + 1) s
  | 0, _ => ⟨h, rfl, hh⟩
  | k + 1, hk => by
    obtain ⟨s, h1, h2⟩ := pass2_ok hd hh k (by omega)
    obtain ⟨d, hdk⟩ := get_ex (l := ds) (i := ds.length - 1 - k) (by omega)
    obtain ⟨s', h3, h4⟩ := fit_ok (how := how) h2 (i := ds.length - 1 - k) (j := ds.length - k) (by omega) (by omega) (all_get hd hdk)
    exact ⟨s', by unfold pass2; rw [h1, bnd_def, hdk, bnd_def, h3], h4⟩
def bedS (how : Int) (ds h : List Nat) : Option (List Nat) := bnd (pass1 how ds h ds.length) fun s => pass2 how ds s ds.length
theorem bedS_ok {how : Int} {ds h : List Nat} (hd : ∀ d ∈ ds, Bd d 0 32768) (hh : Good (ds.length + 1) h) : ∃ s, bedS how ds h = some s ∧ Good (ds.length + 1) s := by
  obtain ⟨s, h1, h2⟩ := pass1_ok (how := how) hd hh ds.length (Nat.le_refl _)
  obtain ⟨s', h3, h4⟩ := pass2_ok (how := how) hd h2 ds.length (Nat.le_refl _)
  exact ⟨s', by unfold bedS; rw [h1, bnd_def, h3], h4⟩

/-- The program's passes. -/
theorem Clone_eq {l : List Nat} (h : l.length ≤ 2 ^ 39) : slices_Clone_float32_float32_p l = some l := by
  unfold slices_Clone_float32_float32_p
  rw [app_ok (by simpa using h), bnd_def]; rfl
theorem filled_eq {ds h : List Nat} (hd : ∀ d ∈ ds, Bd d 0 32768) (hh : Good (ds.length + 1) h) (hle : ds.length ≤ 65536) {s : List Nat} (hs : bedS 1 ds h = some s) : road_filled_p h ds = some s := keyOk (by
  unfold road_filled_p
  refine ok_bnd_eq (Clone_eq (by rw [hh.1]; omega)) ?_
  refine ok_bnd (ok_forS (fun k s => pass1 1 ds h k = some s) rfl ?_) ?_
  · intro k s hk hp
    obtain ⟨s0, h0, g⟩ := pass1_ok (how := 1) hd hh k (by omega)
    rw [hp] at h0
    obtain rfl := Option.some.inj h0
    obtain ⟨d, hdk⟩ := get_ex hk
    obtain ⟨s', h1, _⟩ := pass1_ok (how := 1) hd hh (k + 1) (by omega)
    have h2 := h1
    unfold pass1 at h2
    rw [hp, bnd_def, hdk, bnd_def] at h2
    unfold fitS at h2
    obtain ⟨a, ha, h2⟩ := bnd_some h2
    obtain ⟨b, hb, h2⟩ := bnd_some h2
    rw [if_pos rfl] at h2
    obtain ⟨v, hv, h2⟩ := bnd_some h2
    refine ok_bnd (P := fun s => pass1 1 ds h (k + 1) = some s) ?_ (fun s hs => ok_some hs)
    rw [addI_eq (by omega), show (k : Int) + 1 = ((k + 1 : Nat) : Int) by omega]
    refine ok_idxN hdk (ok_idxN ha (ok_bnd_eq hv (ok_idxN hb ?_)))
    refine ok_ite (fun hc => ?_) (fun hc => ?_)
    · rw [if_pos hc] at h2
      refine ok_idxN hb (ok_bnd_eq rfl (ok_some ?_))
      rw [Int.toNat_natCast]; exact h1.trans h2.symm
    · rw [if_neg hc] at h2
      exact ok_some (h1.trans h2.symm)
  · intro s1 hp1
    obtain ⟨s0, h0, g1⟩ := pass1_ok (how := 1) hd hh ds.length (Nat.le_refl _)
    rw [hp1] at h0
    obtain rfl := Option.some.inj h0
    unfold bedS at hs
    rw [hp1, bnd_def] at hs
    refine ok_bnd_eq rfl ?_
    rw [subI_eq (by omega)]
    refine ok_bnd (ok_loopP (fun x : Int × List Nat => ∃ j : Nat, j ≤ ds.length ∧ x.1 = (ds.length : Int) - 1 - j ∧ pass2 1 ds s1 j = some x.2) (fun x => (x.1 + 1).toNat) (Q := fun x => x = s) (by simp only; omega) ⟨0, by omega, by simp, rfl⟩ ?_) (fun x hx => ok_some hx)
    rintro ⟨i, x⟩ ⟨j, hj, hi, hp⟩
    simp only at hi hp ⊢
    refine ok_ite (fun hc => ?_) (fun hc => ?_)
    · have hc : i ≥ 0 := by simpa using hc
      obtain ⟨s', h1, _⟩ := pass2_ok (how := 1) hd g1 (j + 1) (by omega)
      have h2 := h1
      unfold pass2 at h2
      rw [hp, bnd_def] at h2
      obtain ⟨d, hdk, h2⟩ := bnd_some h2
      unfold fitS at h2
      obtain ⟨a, ha, h2⟩ := bnd_some h2
      obtain ⟨b, hb, h2⟩ := bnd_some h2
      rw [if_pos rfl] at h2
      obtain ⟨v, hv, h2⟩ := bnd_some h2
      have hin : i = ((ds.length - 1 - j : Nat) : Int) := by omega
      rw [addI_eq (by omega), subI_eq (by omega), show i + 1 = ((ds.length - j : Nat) : Int) by omega, show i - 1 = ((ds.length : Int) - 1 - ((j + 1 : Nat) : Int)) by omega, hin]
      refine ok_bnd (P := fun y => pass2 1 ds s1 (j + 1) = some y) ?_ (fun y hy => ok_some ⟨⟨j + 1, by omega, rfl, hy⟩, by omega⟩)
      refine ok_idxN ha (ok_idxN hdk (ok_bnd_eq hv (ok_idxN hb ?_)))
      refine ok_ite (fun hc => ?_) (fun hc => ?_)
      · rw [if_pos hc] at h2
        refine ok_idxN hb (ok_bnd_eq rfl (ok_some ?_))
        rw [Int.toNat_natCast]; exact h1.trans h2.symm
      · rw [if_neg hc] at h2
        exact ok_some (h1.trans h2.symm)
    · have hc : ¬ i ≥ 0 := by simpa using hc
      have : j = ds.length := by omega
      subst this
      rw [hs] at hp
      exact ok_some (Option.some.inj hp).symm)
theorem cut_eq {ds h : List Nat} (hd : ∀ d ∈ ds, Bd d 0 32768) (hh : Good (ds.length + 1) h) (hle : ds.length ≤ 65536) {s : List Nat} (hs : bedS 2 ds h = some s) : road_cut_p h ds = some s := keyOk (by
  unfold road_cut_p
  refine ok_bnd_eq (Clone_eq (by rw [hh.1]; omega)) ?_
  refine ok_bnd (ok_forS (fun k s => pass1 2 ds h k = some s) rfl ?_) ?_
  · intro k s hk hp
    obtain ⟨s0, h0, g⟩ := pass1_ok (how := 2) hd hh k (by omega)
    rw [hp] at h0
    obtain rfl := Option.some.inj h0
    obtain ⟨d, hdk⟩ := get_ex hk
    obtain ⟨s', h1, _⟩ := pass1_ok (how := 2) hd hh (k + 1) (by omega)
    have h2 := h1
    unfold pass1 at h2
    rw [hp, bnd_def, hdk, bnd_def] at h2
    unfold fitS at h2
    obtain ⟨a, ha, h2⟩ := bnd_some h2
    obtain ⟨b, hb, h2⟩ := bnd_some h2
    rw [if_neg (by decide)] at h2
    obtain ⟨v, hv, h2⟩ := bnd_some h2
    refine ok_bnd (P := fun s => pass1 2 ds h (k + 1) = some s) ?_ (fun s hs => ok_some hs)
    rw [addI_eq (by omega), show (k : Int) + 1 = ((k + 1 : Nat) : Int) by omega]
    refine ok_idxN hdk (ok_idxN ha (ok_bnd_eq hv (ok_idxN hb ?_)))
    refine ok_ite (fun hc => ?_) (fun hc => ?_)
    · rw [if_pos hc] at h2
      refine ok_idxN hb (ok_bnd_eq rfl (ok_some ?_))
      rw [Int.toNat_natCast]; exact h1.trans h2.symm
    · rw [if_neg hc] at h2
      exact ok_some (h1.trans h2.symm)
  · intro s1 hp1
    obtain ⟨s0, h0, g1⟩ := pass1_ok (how := 2) hd hh ds.length (Nat.le_refl _)
    rw [hp1] at h0
    obtain rfl := Option.some.inj h0
    unfold bedS at hs
    rw [hp1, bnd_def] at hs
    refine ok_bnd_eq rfl ?_
    rw [subI_eq (by omega)]
    refine ok_bnd (ok_loopP (fun x : Int × List Nat => ∃ j : Nat, j ≤ ds.length ∧ x.1 = (ds.length : Int) - 1 - j ∧ pass2 2 ds s1 j = some x.2) (fun x => (x.1 + 1).toNat) (Q := fun x => x = s) (by simp only; omega) ⟨0, by omega, by simp, rfl⟩ ?_) (fun x hx => ok_some hx)
    rintro ⟨i, x⟩ ⟨j, hj, hi, hp⟩
    simp only at hi hp ⊢
    refine ok_ite (fun hc => ?_) (fun hc => ?_)
    · have hc : i ≥ 0 := by simpa using hc
      obtain ⟨s', h1, _⟩ := pass2_ok (how := 2) hd g1 (j + 1) (by omega)
      have h2 := h1
      unfold pass2 at h2
      rw [hp, bnd_def] at h2
      obtain ⟨d, hdk, h2⟩ := bnd_some h2
      unfold fitS at h2
      obtain ⟨a, ha, h2⟩ := bnd_some h2
      obtain ⟨b, hb, h2⟩ := bnd_some h2
      rw [if_neg (by decide)] at h2
      obtain ⟨v, hv, h2⟩ := bnd_some h2
      have hin : i = ((ds.length - 1 - j : Nat) : Int) := by omega
      rw [addI_eq (by omega), subI_eq (by omega), show i + 1 = ((ds.length - j : Nat) : Int) by omega, show i - 1 = ((ds.length : Int) - 1 - ((j + 1 : Nat) : Int)) by omega, hin]
      refine ok_bnd (P := fun y => pass2 2 ds s1 (j + 1) = some y) ?_ (fun y hy => ok_some ⟨⟨j + 1, by omega, rfl, hy⟩, by omega⟩)
      refine ok_idxN ha (ok_idxN hdk (ok_bnd_eq hv (ok_idxN hb ?_)))
      refine ok_ite (fun hc => ?_) (fun hc => ?_)
      · rw [if_pos hc] at h2
        refine ok_idxN hb (ok_bnd_eq rfl (ok_some ?_))
        rw [Int.toNat_natCast]; exact h1.trans h2.symm
      · rw [if_neg hc] at h2
        exact ok_some (h1.trans h2.symm)
    · have hc : ¬ i ≥ 0 := by simpa using hc
      have : j = ds.length := by omega
      subst this
      rw [hs] at hp
      exact ok_some (Option.some.inj hp).symm)
theorem cut_v1_eq {ds h : List Nat} (hd : ∀ d ∈ ds, Bd d 0 32768) (hh : Good (ds.length + 1) h) (hle : ds.length ≤ 65536) {s : List Nat} (hs : bedS 2 ds h = some s) : road_cut_v1_p h ds = some s := keyOk (by
  unfold road_cut_v1_p
  refine ok_bnd_eq (Clone_eq (by rw [hh.1]; omega)) ?_
  refine ok_bnd (ok_forS (fun k s => pass1 2 ds h k = some s) rfl ?_) ?_
  · intro k s hk hp
    obtain ⟨s0, h0, g⟩ := pass1_ok (how := 2) hd hh k (by omega)
    rw [hp] at h0
    obtain rfl := Option.some.inj h0
    obtain ⟨d, hdk⟩ := get_ex hk
    obtain ⟨s', h1, _⟩ := pass1_ok (how := 2) hd hh (k + 1) (by omega)
    have h2 := h1
    unfold pass1 at h2
    rw [hp, bnd_def, hdk, bnd_def] at h2
    unfold fitS at h2
    obtain ⟨a, ha, h2⟩ := bnd_some h2
    obtain ⟨b, hb, h2⟩ := bnd_some h2
    rw [if_neg (by decide)] at h2
    obtain ⟨v, hv, h2⟩ := bnd_some h2
    refine ok_bnd (P := fun s => pass1 2 ds h (k + 1) = some s) ?_ (fun s hs => ok_some hs)
    rw [addI_eq (by omega), show (k : Int) + 1 = ((k + 1 : Nat) : Int) by omega]
    refine ok_idxN hdk (ok_idxN ha (ok_bnd_eq hv (ok_idxN hb ?_)))
    refine ok_ite (fun hc => ?_) (fun hc => ?_)
    · rw [if_pos hc] at h2
      refine ok_idxN hb (ok_bnd_eq rfl (ok_some ?_))
      rw [Int.toNat_natCast]; exact h1.trans h2.symm
    · rw [if_neg hc] at h2
      exact ok_some (h1.trans h2.symm)
  · intro s1 hp1
    obtain ⟨s0, h0, g1⟩ := pass1_ok (how := 2) hd hh ds.length (Nat.le_refl _)
    rw [hp1] at h0
    obtain rfl := Option.some.inj h0
    unfold bedS at hs
    rw [hp1, bnd_def] at hs
    refine ok_bnd_eq rfl ?_
    rw [subI_eq (by omega)]
    refine ok_bnd (ok_loopP (fun x : Int × List Nat => ∃ j : Nat, j ≤ ds.length ∧ x.1 = (ds.length : Int) - 1 - j ∧ pass2 2 ds s1 j = some x.2) (fun x => (x.1 + 1).toNat) (Q := fun x => x = s) (by simp only; omega) ⟨0, by omega, by simp, rfl⟩ ?_) (fun x hx => ok_some hx)
    rintro ⟨i, x⟩ ⟨j, hj, hi, hp⟩
    simp only at hi hp ⊢
    refine ok_ite (fun hc => ?_) (fun hc => ?_)
    · have hc : i ≥ 0 := by simpa using hc
      obtain ⟨s', h1, _⟩ := pass2_ok (how := 2) hd g1 (j + 1) (by omega)
      have h2 := h1
      unfold pass2 at h2
      rw [hp, bnd_def] at h2
      obtain ⟨d, hdk, h2⟩ := bnd_some h2
      unfold fitS at h2
      obtain ⟨a, ha, h2⟩ := bnd_some h2
      obtain ⟨b, hb, h2⟩ := bnd_some h2
      rw [if_neg (by decide)] at h2
      obtain ⟨v, hv, h2⟩ := bnd_some h2
      have hin : i = ((ds.length - 1 - j : Nat) : Int) := by omega
      rw [addI_eq (by omega), subI_eq (by omega), show i + 1 = ((ds.length - j : Nat) : Int) by omega, show i - 1 = ((ds.length : Int) - 1 - ((j + 1 : Nat) : Int)) by omega, hin]
      refine ok_bnd (P := fun y => pass2 2 ds s1 (j + 1) = some y) ?_ (fun y hy => ok_some ⟨⟨j + 1, by omega, rfl, hy⟩, by omega⟩)
      refine ok_idxN ha (ok_idxN hdk (ok_bnd_eq hv (ok_idxN hb ?_)))
      refine ok_ite (fun hc => ?_) (fun hc => ?_)
      · rw [if_pos hc] at h2
        refine ok_idxN hb (ok_bnd_eq rfl (ok_some ?_))
        rw [Int.toNat_natCast]; exact h1.trans h2.symm
      · rw [if_neg hc] at h2
        exact ok_some (h1.trans h2.symm)
    · have hc : ¬ i ≥ 0 := by simpa using hc
      have : j = ds.length := by omega
      subst this
      rw [hs] at hp
      exact ok_some (Option.some.inj hp).symm)
end Go.Proofs.Ythibohbaaljnkaa
