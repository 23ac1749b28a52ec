/- Own text: BedsMatch: what the law computes is true, for all values that can be read. -/
import Derived.Test.YthibohbaaljnkaaBedsPlain3
import Derived.Test.YthibohbaaljnkaaOp
namespace Go.Proofs.Ythibohbaaljnkaa
open Sx
set_option linter.all false

section
variable {f : S_api_Field} {way : List S_api_Point}

theorem onField_eq {we : Int} (hwe : fieldE f = 0 → road_checkWay_p way f = some we) : road_onField_p f way = some (if fieldE f ≠ 0 then fieldE f else we) := by
  unfold road_onField_p
  rw [Check_eq, bnd_def]
  by_cases h : fieldE f = 0
  · rw [if_neg (by simpa using h), hwe h, bnd_def, if_neg (by simpa using h)]
  · rw [if_pos (by simpa using h), if_pos h]

/-- The grades. -/
theorem grades_ok (hf : FieldOK f) (hw : WayOK f way) (hcw : road_checkWay_p way f = some 0) {ls hs : List Nat} (hll : ls.length + 1 = hs.length) (hle : hs.length ≤ 65536) (hl : ∀ v ∈ ls, Bd v 1 24) (hh : ∀ v ∈ hs, hgtB v = true)
    (el : road_lengths_v1_p way = some ls) (eh : road_heights_p f way = some hs) :
    ∃ gs : List Nat, gs.length = ls.length ∧ (∀ v ∈ gs, Bd v 0 2097152) ∧ road_Grades_p f way = some (if ∀ v ∈ gs, hgtB v = true then (gs, 0) else ([], 3)) ∧
      (∀ k : Nat, ∀ z a b l : Nat, gs[k]? = some z → hs[k]? = some a → hs[k + 1]? = some b → ls[k]? = some l → ∃ d, fsub .f32 b a = some d ∧ (bnd (tarnref2_Abs_p d) fun r => bnd (fdiv .f32 r l) fun z => some z) = some z) := by
  obtain ⟨gs, hg, hx⟩ := choose_list (fun i z => ∃ a b l d, hs[i]? = some a ∧ hs[i + 1]? = some b ∧ ls[i]? = some l ∧ fsub .f32 b a = some d ∧ road_grade_p a b l = some z ∧ (bnd (tarnref2_Abs_p d) fun r => bnd (fdiv .f32 r l) fun z => some z) = some z ∧ Bd z 0 2097152) ls.length (by
    intro i hi
    obtain ⟨a, ha⟩ := get_ex (l := hs) (i := i) (by omega)
    obtain ⟨b, hb⟩ := get_ex (l := hs) (i := i + 1) (by omega)
    obtain ⟨l, hl'⟩ := get_ex (l := ls) (i := i) hi
    obtain ⟨z, d, h1, h2, h3, h4⟩ := grade_ok (all_get hh ha) (all_get hh hb) (all_get hl hl')
    exact ⟨z, a, b, l, d, ha, hb, hl', h1, h2, h3, h4⟩)
  refine ⟨gs, hg, all_of_get fun i z hz => ?_, ?_, ?_⟩
  · obtain ⟨a, b, l, d, _, _, _, _, _, _, h⟩ := hx i z hz
    exact h
  · exact keyOk (by
      unfold road_Grades_p
      refine ok_bnd_eq (onField_eq (fun _ => hcw)) ?_
      rw [(show (if fieldE f ≠ 0 then fieldE f else (0 : Int)) = 0 by rw [fieldE_zero.2 hf]; rfl), if_neg (show ¬ ((0 : Int) != 0) = true by decide)]
      refine ok_bnd_eq eh (ok_bnd_eq el ?_)
      refine ok_bnd (ok_forS (fun k s => s = gs.take k) (by simp) ?_) ?_
      · rintro k s hk rfl
        obtain ⟨z, hz⟩ := get_ex (l := gs) (i := k) (by omega)
        obtain ⟨a, b, l, d, ha, hb, hl', h1, h2, h3, h4⟩ := hx k z hz
        rw [addI_eq (by omega), show (k : Int) + 1 = ((k + 1 : Nat) : Int) by omega]
        exact ok_idxN hl' (ok_idxN ha (ok_idxN hb (ok_bnd_eq h2 (ok_bnd_eq (app_ok (by simp; omega)) (ok_some (take_snoc hz))))))
      · rintro s rfl
        rw [List.take_of_length_le (by omega)]
        exact ok_bnd_eq (values_eq gs) (ok_some rfl))
  · intro k z a b l hz ha hb hl'
    obtain ⟨a', b', l', d, ha', hb', hl'', h1, h2, h3, h4⟩ := hx k z hz
    rw [ha] at ha'; rw [hb] at hb'; rw [hl'] at hl''
    obtain rfl := Option.some.inj ha'
    obtain rfl := Option.some.inj hb'
    obtain rfl := Option.some.inj hl''
    exact ⟨d, h1, h3⟩

theorem Equal_self {l : List Nat} (h : ∀ v ∈ l, NaNo v) : slices_Equal_float32_float32_p l l = some true := by
  unfold slices_Equal_float32_float32_p
  rw [if_neg (by simp)]
  rw [forI_first l (fun _ => (none : Option Bool)) _ (by
    intro i x hx
    rw [idx_get hx, bnd_def, bnd_def]
    have hn := all_get h hx
    rw [fne_eq hn hn]
    simp)]
  have : List.findSome? (fun _ : Nat => (none : Option Bool)) l = none := by rw [List.findSome?_eq_none_iff]; intros; rfl
  rw [this]; rfl
theorem bits_eqB (l : List Nat) : tarnlaw2_bits_p l l = some true := by
  unfold tarnlaw2_bits_p slices_EqualFunc_float32_float32_float32_float32_p
  rw [if_neg (by simp)]
  rw [forI_first l (fun _ => (none : Option Bool)) _ (by
    intro i x hx
    rw [idx_get hx, bnd_def, bnd_def]
    unfold tarnlaw2_bits_1_p
    simp [bnd_def])]
  have : List.findSome? (fun _ : Nat => (none : Option Bool)) l = none := by rw [List.findSome?_eq_none_iff]; intros; rfl
  rw [this]; rfl

theorem W_1024 : W 1149239296 = 1024 * U32 := by decide +kernel
theorem fi_1024 : Fi 1149239296 := by unfold Fi Fl.Fin; decide +kernel

/-- The errors of a bed's kind and grade. -/
def bedE (how : Int) (g : Nat) : Int := firstN [if ¬ (1 ≤ how ∧ how ≤ 3) then 1 else 0, numE [g], if (flt .f32 g 0 || fgt .f32 g 1149239296) = true then 3 else 0]

theorem Bed_bad {we how : Int} {g : Nat} (hwe : fieldE f = 0 → road_checkWay_p way f = some we) (h : firstN [fieldE f, we] ≠ 0) : road_Bed_p f way how g = some ([], firstN [fieldE f, we]) ∧ road_Grades_p f way = some ([], firstN [fieldE f, we]) := by
  have e : (if fieldE f ≠ 0 then fieldE f else we) = firstN [fieldE f, we] := by
    rw [firstN_cons, firstN_cons, firstN_nil]
    by_cases h1 : fieldE f = 0
    · rw [if_neg (by simpa using h1), if_neg (by simpa using h1)]
      by_cases h2 : we = 0
      · rw [if_neg (by simpa using h2), h2]
      · rw [if_pos h2]
    · rw [if_pos h1, if_pos h1]
  constructor
  · unfold road_Bed_p
    rw [onField_eq hwe, bnd_def, e, if_pos (by simpa using h)]
  · unfold road_Grades_p
    rw [onField_eq hwe, bnd_def, e, if_pos (by simpa using h)]
theorem Bed_refused {how : Int} {g : Nat} (hf : FieldOK f) (hcw : road_checkWay_p way f = some 0) (h : bedE how g ≠ 0) : road_Bed_p f way how g = some ([], bedE how g) := by
  unfold road_Bed_p
  unfold bedE at h ⊢
  rw [onField_eq (fun _ => hcw), bnd_def, (show (if fieldE f ≠ 0 then fieldE f else (0 : Int)) = 0 by rw [fieldE_zero.2 hf]; rfl), if_neg (show ¬ ((0 : Int) != 0) = true by decide)]
  simp only [firstN_cons, firstN_nil] at h ⊢
  by_cases h1 : ¬ (1 ≤ how ∧ how ≤ 3)
  · rw [if_pos (by simp; omega), if_pos h1]; rfl
  · rw [if_neg (by simp; omega)]
    rw [if_neg h1] at h ⊢
    simp only [ne_eq, not_true_eq_false, if_false] at h ⊢
    rw [Heights_eq, bnd_def]
    by_cases h2 : numE [g] = 0
    · rw [if_neg (by simpa using h2)]
      rw [if_neg (show ¬ ¬ numE [g] = 0 by simpa using h2)] at h ⊢
      by_cases h3 : (flt .f32 g 0 || fgt .f32 g 1149239296) = true
      · rw [if_pos h3, if_pos h3]; rfl
      · rw [if_neg h3] at h; simp at h
    · rw [if_pos (by simpa using h2), if_pos h2]

/-- The means, in place. -/
theorem means_ok {a b : List Nat} {n : Nat} (ha : Good n a) (hb : Good n b) : ∃ ms : List Nat, ms.length = n ∧ (∀ v ∈ ms, Bd v (-2097152) 2097152) ∧ ∀ k x y : Nat, ∀ z, ms[k]? = some z → a[k]? = some x → b[k]? = some y → ∃ c, fadd .f32 x y = some c ∧ fmul .f32 c 1056964608 = some z := by
  obtain ⟨ms, hm, hx⟩ := choose_list (fun i z => ∃ x y c, a[i]? = some x ∧ b[i]? = some y ∧ fadd .f32 x y = some c ∧ fmul .f32 c 1056964608 = some z ∧ Bd z (-2097152) 2097152) n (by
    intro i hi
    obtain ⟨x, h1⟩ := get_ex (l := a) (i := i) (by rw [ha.1]; exact hi)
    obtain ⟨y, h2⟩ := get_ex (l := b) (i := i) (by rw [hb.1]; exact hi)
    obtain ⟨c, z, h3, h4, h5⟩ := half_ok (all_get ha.2 h1) (all_get hb.2 h2)
    exact ⟨z, x, y, c, h1, h2, h3, h4, h5⟩)
  refine ⟨ms, hm, all_of_get fun i z hz => ?_, fun k x y z hz h1 h2 => ?_⟩
  · obtain ⟨_, _, _, _, _, _, _, h⟩ := hx i z hz; exact h
  · obtain ⟨x', y', c, h1', h2', h3, h4, _⟩ := hx k z hz
    rw [h1] at h1'; rw [h2] at h2'
    obtain rfl := Option.some.inj h1'
    obtain rfl := Option.some.inj h2'
    exact ⟨c, h3, h4⟩

theorem ext_prefix {xs ys : List Nat} {n : Nat} (h1 : xs.length = n) (h2 : ys.length = n) (h : ∀ j, j < n → xs[j]? = ys[j]?) : xs = ys := by
  apply List.ext_getElem?
  intro j
  rcases Nat.lt_or_ge j n with hj | hj
  · exact h j hj
  · rw [List.getElem?_eq_none (by omega), List.getElem?_eq_none (by omega)]

/-- Both beds are the same, of each kind. -/
theorem bed_both {how : Int} (h1 : 1 ≤ how) (h3 : how ≤ 3) {g : Nat} (hf : FieldOK f) (hcw : road_checkWay_p way f = some 0) (hg1 : numE [g] = 0) (hg2 : ¬ (flt .f32 g 0 || fgt .f32 g 1149239296) = true) {ls hs : List Nat} (hll : ls.length + 1 = hs.length) (hle : hs.length ≤ 65536) (hl : ∀ v ∈ ls, Bd v 1 24) (hh : ∀ v ∈ hs, hgtB v = true)
    (el : road_lengths_p way = some ls) (eh : road_heights_p f way = some hs) (el2 : tarnref2_Lengths_p way = some ls) (eh2 : tarnref2_Values_v1_p f way = some hs) :
    ∃ s : List Nat, (∀ v ∈ s, Fi v) ∧ road_Bed_p f way how g = some (if ∀ v ∈ s, hgtB v = true then (s, 0) else ([], 3)) ∧ tarnref2_BedOf_p f way how g = some s := by
  have bg := hgtB_iff.1 (numE_zero.1 hg1 g (by simp))
  have bg0 : Bd g 0 1024 := by
    rw [flt_eq bg.nn fi_0.nn, fgt_eq bg.nn fi_1024.nn, W_0, W_1024] at hg2
    simp only [Bool.or_eq_true, decide_eq_true_eq, not_or] at hg2
    exact ⟨bg.1, by omega, by omega⟩
  obtain ⟨ds, hdl, hdx⟩ := choose_list (fun i d => ∃ l, ls[i]? = some l ∧ fmul .f32 g l = some d ∧ Bd d 0 32768) ls.length (by
    intro i hi
    obtain ⟨l, hl'⟩ := get_ex (l := ls) (i := i) hi
    have bl := all_get hl hl'
    obtain ⟨d, hd, bd⟩ := bd_mul0 bg0 (bl.wide (by decide) (Int.le_refl _)) (rp (n := 32768) (by decide)) (by decide)
    exact ⟨d, l, hl', hd, bd⟩)
  have hd : ∀ d ∈ ds, Bd d 0 32768 := all_of_get fun i d h => by obtain ⟨_, _, _, h⟩ := hdx i d h; exact h
  have hds : ∀ i l d : Nat, ls[i]? = some l → ds[i]? = some d → fmul .f32 g l = some d := by
    intro i l d h1 h2
    obtain ⟨l', h3, h4, _⟩ := hdx i d h2
    rw [h1] at h3
    obtain rfl := Option.some.inj h3
    exact h4
  have gh : Good (ds.length + 1) hs := ⟨by omega, hh⟩
  obtain ⟨s1, hs1, g1⟩ := bedS_ok (how := 1) hd gh
  obtain ⟨s2, hs2, g2⟩ := bedS_ok (how := 2) hd gh
  have f1 := filled_eq hd gh (by omega) hs1
  have c1 := cut_eq hd gh (by omega) hs2
  have c2 := cut_v1_eq hd gh (by omega) hs2
  obtain ⟨b1, b1', b1''⟩ := BedOf_one (way := way) (f := f) (.inl rfl) hle hll (by omega) hds hd hh el2 eh2 hs1
  obtain ⟨b2, b2', b2''⟩ := BedOf_one (way := way) (f := f) (.inr rfl) hle hll (by omega) hds hd hh el2 eh2 hs2
  have drops : ∀ {Q : (List Nat × Int) → Prop}, (Ok (if (how == 1) = true then bnd (road_filled_p hs ds) fun r6 => bnd (road_values_p r6) fun r7 => some (r7.1, r7.2) else if (how == 2) = true then bnd (road_cut_p hs ds) fun r8 => bnd (road_values_p r8) fun r9 => some (r9.1, r9.2) else bnd (road_cut_v1_p hs ds) fun r10 => bnd (road_filled_p hs ds) fun r11 => bnd (forS (fun (i2 : Nat) (s2 : (List Nat)) => bnd (idx r11 (i2 : Int)) fun x5 => bnd (idx s2 (i2 : Int)) fun x6 => bnd (fadd .f32 x6 x5) fun r12 => bnd (fmul .f32 r12 1056964608) fun r13 => bnd (some (s2.set (i2 : Int).toNat r13)) fun l2 => some l2) r11.length 0 r10) fun (x4 : (List Nat)) => bnd (road_values_p x4) fun r14 => some (r14.1, r14.2)) Q) → Ok (road_Bed_p f way how g) Q := by
    intro Q hQ
    unfold road_Bed_p
    refine ok_bnd_eq (onField_eq (fun _ => hcw)) ?_
    rw [(show (if fieldE f ≠ 0 then fieldE f else (0 : Int)) = 0 by rw [fieldE_zero.2 hf]; rfl), if_neg (show ¬ ((0 : Int) != 0) = true by decide), if_neg (by simp; omega)]
    refine ok_bnd_eq (Heights_eq _) ?_
    rw [hg1, if_neg (by decide), if_neg hg2]
    refine ok_bnd_eq eh (ok_bnd_eq el ?_)
    refine ok_bnd (ok_forS (fun k s => s.length = ls.length ∧ (∀ j, j < k → s[j]? = ds[j]?) ∧ ∀ j, k ≤ j → s[j]? = ls[j]?) ⟨rfl, fun j hj => by omega, fun j hj => rfl⟩ ?_) ?_
    · rintro k s hk ⟨h1, h2, h3⟩
      obtain ⟨d, hdk⟩ := get_ex (l := ds) (i := k) (by omega)
      obtain ⟨l, hl', h4, _⟩ := hdx k d hdk
      have hsk : s[k]? = some l := by rw [h3 k (Nat.le_refl _)]; exact hl'
      refine ok_idxN hsk (ok_bnd_eq h4 (ok_idxN hsk (ok_bnd_eq rfl (ok_some ?_))))
      rw [Int.toNat_natCast]
      refine ⟨by rw [List.length_set]; exact h1, fun j hj => ?_, fun j hj => ?_⟩
      · rcases Nat.lt_or_ge j k with h | h
        · rw [List.getElem?_set_ne (by omega)]; exact h2 j h
        · have : j = k := by omega
          subst this
          rw [List.getElem?_set_self (by omega), hdk]
      · rw [List.getElem?_set_ne (by omega)]; exact h3 j (by omega)
    · rintro s ⟨h1, h2, _⟩
      have : s = ds := ext_prefix h1 hdl h2
      subst this
      exact hQ
  have hc : how = 1 ∨ how = 2 ∨ how = 3 := by omega
  rcases hc with rfl | rfl | rfl
  · refine ⟨s1, fun v hv => (hgtB_iff.1 (g1.2 v hv)).fi, keyOk (drops ?_), b1⟩
    rw [if_pos (by decide)]
    exact ok_bnd_eq f1 (ok_bnd_eq (values_eq s1) (ok_some rfl))
  · refine ⟨s2, fun v hv => (hgtB_iff.1 (g2.2 v hv)).fi, keyOk (drops ?_), b2⟩
    rw [if_neg (by decide), if_pos (by decide)]
    exact ok_bnd_eq c1 (ok_bnd_eq (values_eq s2) (ok_some rfl))
  · obtain ⟨ms, hm, bm, hmx⟩ := means_ok g2 g1
    have step : ∀ (k : Nat) (s : List Nat), k < ds.length + 1 → (s.length = ds.length + 1 ∧ (∀ j, j < k → s[j]? = ms[j]?) ∧ ∀ j, k ≤ j → s[j]? = s2[j]?) → ∃ x y c z, s[k]? = some x ∧ s1[k]? = some y ∧ fadd .f32 x y = some c ∧ fmul .f32 c 1056964608 = some z ∧ ((s.set k z).length = ds.length + 1 ∧ (∀ j, j < k + 1 → (s.set k z)[j]? = ms[j]?) ∧ ∀ j, k + 1 ≤ j → (s.set k z)[j]? = s2[j]?) := by
      rintro k s hk ⟨h1, h2, h3⟩
      obtain ⟨z, hz⟩ := get_ex (l := ms) (i := k) (by omega)
      obtain ⟨x, hx⟩ := get_ex (l := s2) (i := k) (by rw [g2.1]; exact hk)
      obtain ⟨y, hy⟩ := get_ex (l := s1) (i := k) (by rw [g1.1]; exact hk)
      obtain ⟨c, h4, h5⟩ := hmx k x y z hz hx hy
      refine ⟨x, y, c, z, by rw [h3 k (Nat.le_refl _)]; exact hx, hy, h4, h5, by rw [List.length_set]; exact h1, fun j hj => ?_, fun j hj => ?_⟩
      · rcases Nat.lt_or_ge j k with h | h
        · rw [List.getElem?_set_ne (by omega)]; exact h2 j h
        · have : j = k := by omega
          subst this
          rw [List.getElem?_set_self (by omega), hz]
      · rw [List.getElem?_set_ne (by omega)]; exact h3 j (by omega)
    refine ⟨ms, fun v hv => (bm v hv).fi, keyOk (drops ?_), keyOk ?_⟩
    · rw [if_neg (by decide), if_neg (by decide)]
      refine ok_bnd_eq c2 (ok_bnd_eq f1 ?_)
      refine ok_bnd (ok_forS (fun k s => s.length = ds.length + 1 ∧ (∀ j, j < k → s[j]? = ms[j]?) ∧ ∀ j, k ≤ j → s[j]? = s2[j]?) ⟨g2.1, fun j hj => by omega, fun j hj => rfl⟩ ?_) ?_
      · intro k s hk hI
        obtain ⟨x, y, c, z, hx, hy, h4, h5, h6⟩ := step k s (by rw [g1.1] at hk; exact hk) hI
        exact ok_idxN hy (ok_idxN hx (ok_bnd_eq h4 (ok_bnd_eq h5 (ok_bnd_eq rfl (ok_some (by rw [Int.toNat_natCast]; exact h6))))))
      · rintro s ⟨h1, h2, _⟩
        have : s = ms := ext_prefix h1 hm (fun j hj => h2 j (by rw [g1.1]; exact hj))
        subst this
        exact ok_bnd_eq (values_eq s) (ok_some rfl)
    · unfold tarnref2_BedOf_p
      refine ok_bnd_eq el2 ?_
      rw [if_pos (by decide)]
      refine ok_bnd_eq b2' (ok_bnd_eq b1'' ?_)
      refine ok_bnd (ok_forS (fun k s => s.length = ds.length + 1 ∧ (∀ j, j < k → s[j]? = ms[j]?) ∧ ∀ j, k ≤ j → s[j]? = s2[j]?) ⟨g2.1, fun j hj => by omega, fun j hj => rfl⟩ ?_) ?_
      · intro k s hk hI
        obtain ⟨x, y, c, z, hx, hy, h4, h5, h6⟩ := step k s (by rw [g2.1] at hk; exact hk) hI
        exact ok_idxN hx (ok_idxN hy (ok_bnd_eq h4 (ok_bnd_eq h5 (ok_bnd_eq rfl (ok_some (by rw [Int.toNat_natCast]; exact h6))))))
      · rintro s ⟨h1, h2, _⟩
        exact ok_some (ext_prefix h1 hm (fun j hj => h2 j (by rw [g2.1]; exact hj)))
end

theorem BedsMatch.plain : ∀ (a : S_api_Field) (b : List S_api_Point) (c : Int) (d : Nat), wfS_api_Field a → (InL wfS_api_Point 16) b → (InK .i64) c → (InF .f32) d → tarnlaw2_BedsMatch_p a b c d = some true := by
  intro f way how g _ _ _ _
  obtain ⟨we, hwe, hcw⟩ : ∃ we, tarnref2_WayError_p f way = some we ∧ (fieldE f = 0 → road_checkWay_p way f = some we ∧ (we = 0 → WayOK f way)) := by
    by_cases hf : fieldE f = 0
    · obtain ⟨e, h1, h2, h3⟩ := way_both (fieldE_zero.1 hf).toRegOK way
      exact ⟨e, h2, fun _ => ⟨h1, h3⟩⟩
    · obtain ⟨e, he⟩ := WayError_tot f way
      exact ⟨e, he, fun h => absurd h hf⟩
  refine keyOk ?_
  unfold tarnlaw2_BedsMatch_p
  by_cases hE : firstN [fieldE f, we] = 0
  · have g1 : fieldE f = 0 := by
      by_cases h : fieldE f = 0
      · exact h
      · rw [firstN_cons, if_pos h] at hE; exact hE
    have g2 : we = 0 := by
      rw [firstN_cons, if_neg (by simpa using g1), firstN_cons] at hE
      by_cases h : we = 0
      · exact h
      · rw [if_pos h] at hE; exact hE
    have hf := fieldE_zero.1 g1
    obtain ⟨hcw1, hcw2⟩ := hcw g1
    have hw := hcw2 g2
    subst g2
    have hwl := hw.le
    have hne : way.length ≠ 0 := fun h => hw.ne (List.length_eq_zero_iff.1 h)
    obtain ⟨ls, hl1, hl2, el, el1, elr⟩ := lengths_ok hf hw
    obtain ⟨hs, hh1, hh2, eh, ehr, ehr1⟩ := heights_ok hf hw
    have hh : ∀ v ∈ hs, hgtB v = true := fun v hv => (hh2 v hv).1
    obtain ⟨gs, hg1, hg2, eg, hgx⟩ := grades_ok hf hw hcw1 (by omega) (by omega) hl2 hh el1 eh
    -- what Bed gives
    have hbed : ∃ r : List Nat × Int, road_Bed_p f way how g = some r ∧ (bedE how g ≠ 0 → r = ([], bedE how g)) ∧ (bedE how g = 0 → ∃ s : List Nat, (∀ v ∈ s, Fi v) ∧ r = (if ∀ v ∈ s, hgtB v = true then (s, 0) else ([], 3)) ∧ tarnref2_BedOf_p f way how g = some s) := by
      by_cases hb : bedE how g = 0
      · have hb' := hb
        unfold bedE at hb'
        simp only [firstN_cons, firstN_nil] at hb'
        have b1 : 1 ≤ how ∧ how ≤ 3 := by
          by_cases h : 1 ≤ how ∧ how ≤ 3
          · exact h
          · rw [if_pos h] at hb'; simp at hb'
        rw [if_neg (show ¬ ¬ (1 ≤ how ∧ how ≤ 3) by simpa using b1)] at hb'
        simp only [ne_eq, not_true_eq_false, if_false] at hb'
        have b2 : numE [g] = 0 := by
          by_cases h : numE [g] = 0
          · exact h
          · rw [if_pos h] at hb'; exact hb'
        rw [if_neg (show ¬ ¬ numE [g] = 0 by simpa using b2)] at hb'
        have b3 : ¬ (flt .f32 g 0 || fgt .f32 g 1149239296) = true := by
          intro h; rw [if_pos h] at hb'; simp at hb'
        obtain ⟨s, h1, h2, h3⟩ := bed_both b1.1 b1.2 hf hcw1 b2 b3 (by omega) (by omega) hl2 hh el eh elr ehr1
        exact ⟨_, h2, fun h => absurd hb h, fun _ => ⟨s, h1, rfl, h3⟩⟩
      · exact ⟨_, Bed_refused hf hcw1 hb, fun _ => rfl, fun h => absurd h hb⟩
    obtain ⟨⟨rl, re⟩, er, rbad, rgood⟩ := hbed
    refine ok_bnd_eq er (ok_bnd_eq eg (ok_bnd_eq (FieldError_eq f) (ok_bnd_eq hwe (ok_bnd_eq (first_eq _) ?_))))
    refine ok_bnd_eq (x := false) ?_ ?_
    · rw [leads_eqB, bnd_def, if_neg (by decide), g1]; rfl
    rw [if_neg (by decide)]
    refine ok_bnd_eq ehr (ok_bnd_eq elr ?_)
    refine ok_bnd (ok_forS (fun k s => s = gs.take k) (by simp) ?_) ?_
    · rintro k s hk rfl
      obtain ⟨z, hz⟩ := get_ex (l := gs) (i := k) (by omega)
      obtain ⟨a, ha⟩ := get_ex (l := hs) (i := k) (by omega)
      obtain ⟨b, hb⟩ := get_ex (l := hs) (i := k + 1) (by omega)
      obtain ⟨l, hl⟩ := get_ex (l := ls) (i := k) hk
      obtain ⟨d, h1, h2⟩ := hgx k z a b l hz ha hb hl
      obtain ⟨r, hr, h2⟩ := bnd_some h2
      obtain ⟨q, hq, h2⟩ := bnd_some h2
      obtain rfl := Option.some.inj h2
      rw [addI_eq (by omega), show (k : Int) + 1 = ((k + 1 : Nat) : Int) by omega]
      exact ok_idxN hl (ok_idxN hb (ok_idxN ha (ok_bnd_eq h1 (ok_bnd_eq hr (ok_bnd_eq hq (ok_bnd_eq (app_ok (by simp; omega)) (ok_some (take_snoc hz))))))))
    rintro s rfl
    rw [List.take_of_length_le (by omega)]
    refine ok_bnd_eq (NumberError_eq gs) ?_
    refine ok_bnd (P := fun c : Ctl Unit Bool => c = .go ()) ?_ ?_
    · by_cases hall : ∀ v ∈ gs, hgtB v = true
      · rw [if_pos hall, if_neg (by rw [numE_zero.2 hall]; decide)]
        refine ok_bnd_eq (x := false) ?_ ?_
        · rw [if_neg (by simp), Equal_self (fun v hv => (hg2 v hv).nn), bnd_def]; rfl
        · rw [if_neg (by decide)]; exact ok_some rfl
      · have hn : numE gs ≠ 0 := fun h => hall (numE_zero.1 h)
        rw [if_neg hall, if_pos (by simpa using hn)]
        rw [if_neg (by simp)]
        exact ok_some rfl
    rintro c rfl
    refine ok_bnd_eq (within_eq _ _ _) (ok_bnd_eq (when_eq _ _) (ok_bnd_eq (NumberError_eq _) (ok_bnd_eq (when_eq _ _) (ok_bnd_eq (first_eq _) ?_))))
    have e1 : firstN [if (!decide (1 ≤ how ∧ how ≤ 3)) = true then 1 else 0, numE [g], if (flt .f32 g 0 || fgt .f32 g 1149239296) = true then 3 else 0] = bedE how g := by
      unfold bedE
      simp only [Bool.not_eq_true', decide_eq_false_iff_not]
    rw [e1]
    by_cases hb : bedE how g = 0
    · rw [if_neg (by simpa using hb)]
      obtain ⟨s, hs1, hs2, hs3⟩ := rgood hb
      refine ok_bnd_eq hs3 (ok_bnd_eq (NumberError_eq s) ?_)
      by_cases hall : ∀ v ∈ s, hgtB v = true
      · rw [if_pos hall] at hs2
        injection hs2 with h1 h2
        subst h1; subst h2
        rw [if_neg (by rw [numE_zero.2 hall]; decide)]
        refine ok_bnd_eq (x := true) ?_ (ok_some rfl)
        simp only [beq_self_eq_true, if_true, bits_eqB, bnd_def]
      · rw [if_neg hall] at hs2
        injection hs2 with h1 h2
        subst h1; subst h2
        have hn : numE s ≠ 0 := fun h => hall (numE_zero.1 h)
        rw [if_pos (by simpa using hn)]
        exact ok_some rfl
    · rw [if_pos (by simpa using hb)]
      have := rbad hb
      injection this with h1 h2
      subst h1; subst h2
      refine ok_some ?_
      simp
  · obtain ⟨hB, hG⟩ := Bed_bad (how := how) (g := g) (fun h => (hcw h).1) hE
    refine ok_bnd_eq hB (ok_bnd_eq hG (ok_bnd_eq (FieldError_eq f) (ok_bnd_eq hwe (ok_bnd_eq (first_eq _) ?_))))
    refine ok_bnd_eq (x := true) ?_ ?_
    · rw [leads_eqB, bnd_def, if_neg (by decide)]; simpa using hE
    rw [if_pos rfl]
    refine ok_bnd_eq (x := true) ?_ (ok_some rfl)
    rw [leads_eqB, bnd_def, if_pos rfl]
    simp
end Go.Proofs.Ythibohbaaljnkaa
