/- Own text: BuildsAsSaid: what the law computes is true, for all values that can be read. -/
import Derived.Test.YthibohbaaljnkaaPlBuild3
import Derived.Test.YthibohbaaljnkaaOp
namespace Go.Proofs.Ythibohbaaljnkaa
open Sx
set_option linter.all false

def earthS (V G : List Nat) : Nat → Option (Nat × Nat)
  | 0 => some (0, 0)
  | k + 1 => bnd (earthS V G k) fun s => bnd V[k]? fun v => bnd G[k]? fun w =>
    if flt .f32 w v = true then bnd (fsub .f32 v w) fun r => bnd (fadd .f32 s.1 r) fun r' => some (r', s.2)
    else if fgt .f32 w v = true then bnd (fsub .f32 w v) fun r => bnd (fadd .f32 s.2 r) fun r' => some (s.1, r') else some s

theorem diff_ok {v w : Nat} (hv : hgtB v = true) (hw : hgtB w = true) (h : W w ≤ W v) : ∃ r, fsub .f32 v w = some r ∧ Bd r 0 2097152 := by
  have bv := hgtB_iff.1 hv
  have bw := hgtB_iff.1 hw
  obtain ⟨z, hz, hr⟩ := Fl.sub_rnd (f := s32) bv.1 bw.1
  have g1 := bv.2; have g2 := bw.2
  unfold W at *
  exact ⟨z, hz, of_rnd hr (rp (n := 0) (by decide)) (rp (n := 2097152) (by decide)) (by omega) (by omega)⟩
theorem sum_ok {k : Nat} (hk : k < 65536) {s r : Nat} (hs : Bd s 0 ((k : Int) * 2 ^ 21)) (hr : Bd r 0 2097152) : ∃ z, fadd .f32 s r = some z ∧ Bd z 0 (((k + 1 : Nat) : Int) * 2 ^ 21) :=
  bd_add hs hr (rp (n := 0) (by decide)) (rp_pow (m := ((k + 1 : Nat) : Int)) (k := 21) (by omega) (by decide)) (by omega) (by omega)
theorem bd_step {k s : Nat} (hs : Bd s 0 ((k : Int) * 2 ^ 21)) : Bd s 0 (((k + 1 : Nat) : Int) * 2 ^ 21) := hs.wide (Int.le_refl _) (by omega)
theorem earth_tot {V G : List Nat} (hl : G.length = V.length) (hle : V.length ≤ 65536) (hV : ∀ v ∈ V, hgtB v = true) (hG : ∀ v ∈ G, hgtB v = true) : ∀ k : Nat, k ≤ V.length → ∃ s, earthS V G k = some s ∧ Bd s.1 0 ((k : Int) * 2 ^ 21) ∧ Bd s.2 0 ((k : Int) * 2 ^ 21)
  | 0, _ => ⟨(0, 0), rfl, bd_0.wide (by omega) (by omega), bd_0.wide (by omega) (by omega)⟩
  | k + 1, hk => by
    obtain ⟨s, h1, h2, h3⟩ := earth_tot hl hle hV hG k (by omega)
    have hv : V[k]? = some V[k] := List.getElem?_eq_getElem (by omega)
    have hw : G[k]? = some (G[k]'(by omega)) := List.getElem?_eq_getElem (by omega)
    have mv := hV _ (List.getElem_mem (show k < V.length by omega))
    have mw := hG _ (List.getElem_mem (show k < G.length by omega))
    unfold earthS
    rw [h1, bnd_def, hv, bnd_def, hw, bnd_def]
    have nv := (hgtB_iff.1 mv).nn
    have nw := (hgtB_iff.1 mw).nn
    generalize V[k] = v at *
    generalize G[k]'(by omega) = w at *
    rw [flt_eq nw nv, fgt_eq nw nv]
    by_cases c : W w < W v
    · rw [if_pos (by simpa using c)]
      obtain ⟨r, hr, br⟩ := diff_ok mv mw (by omega)
      obtain ⟨z, hz, bz⟩ := sum_ok (by omega) h2 br
      rw [hr, bnd_def, hz, bnd_def]
      exact ⟨_, rfl, bz, bd_step h3⟩
    · rw [if_neg (by simpa using c)]
      by_cases c2 : W v < W w
      · rw [if_pos (by simpa using c2)]
        obtain ⟨r, hr, br⟩ := diff_ok mw mv (by omega)
        obtain ⟨z, hz, bz⟩ := sum_ok (by omega) h3 br
        rw [hr, bnd_def, hz, bnd_def]
        exact ⟨_, rfl, bd_step h2, bz⟩
      · rw [if_neg (by simpa using c2)]
        exact ⟨_, rfl, bd_step h2, bd_step h3⟩

theorem CheckAll_two {f g : S_api_Field} (hf : fieldE f = 0) (hg : fieldE g = 0) : field_CheckAll_p ([f, g] : List S_api_Field) = some 0 := by
  unfold field_CheckAll_p
  rw [forI_first ([f, g] : List S_api_Field) (fun x => if fieldE x ≠ 0 then some (fieldE x) else none) _ (by
    intro i x hx
    rw [idx_get hx, bnd_def, Check_eq, bnd_def]
    by_cases h : fieldE x = 0
    · rw [h]; rfl
    · rw [if_pos (by simpa using h), if_pos h])]
  rw [bnd_def]
  simp [List.findSome?_cons, hf, hg]

theorem Earth_ok {f : S_api_Field} (hf : FieldOK f) {vs : List Nat} (hvl : vs.length = f.V.length) (hvs : ∀ v ∈ vs, hgtB v = true) {s : Nat × Nat} (hs : earthS f.V vs f.V.length = some s) : road_Earth_p f ⟨f.Region, vs⟩ = some (s.1, s.2, 0) := by
  have hg : FieldOK ⟨f.Region, vs⟩ := { toRegOK := hf.toRegOK, len := by have := hf.len; show (vs.length : Int) = f.Region.W * f.Region.H; omega, hts := hvs }
  have key : ∀ {α : Type} {o : Option α} {z : α}, Ok o (fun r => r = z) → o = some z := by rintro _ o z ⟨r, h1, rfl⟩; exact h1
  unfold road_Earth_p
  rw [CheckAll_two (fieldE_zero.2 hf) (fieldE_zero.2 hg), bnd_def]
  simp only [bne_self_eq_false, Bool.false_eq_true, if_false, beq_self_eq_true, Bool.and_self, Bool.not_true]
  refine key (ok_bnd (ok_forS (fun k s => earthS f.V vs k = some s) rfl ?_) (fun z hz => ok_some ?_))
  · intro k s hk hs
    have hv : f.V[k]? = some f.V[k] := List.getElem?_eq_getElem hk
    have hw : vs[k]? = some (vs[k]'(by omega)) := List.getElem?_eq_getElem (by omega)
    refine ok_bnd (P := fun s => earthS f.V vs (k + 1) = some s) ?_ (fun z hz => ok_some hz)
    refine ok_idxN hv (ok_idxN hw ?_)
    obtain ⟨s', h1, _, _⟩ := earth_tot hvl hf.le hf.hts hvs (k + 1) (by omega)
    have h2 := h1
    unfold earthS at h2
    rw [hs, bnd_def, hv, bnd_def, hw, bnd_def] at h2
    refine ok_ite (fun hc => ?_) (fun hc => ?_)
    · rw [if_pos hc] at h2
      obtain ⟨r, hr, h2⟩ := bnd_some h2
      obtain ⟨z, hz, h2⟩ := bnd_some h2
      exact ok_bnd_eq hr (ok_bnd_eq hz (ok_some (h1.trans h2.symm)))
    · rw [if_neg hc] at h2
      refine ok_ite (fun hc => ?_) (fun hc => ?_)
      · rw [if_pos hc] at h2
        obtain ⟨r, hr, h2⟩ := bnd_some h2
        obtain ⟨z, hz, h2⟩ := bnd_some h2
        exact ok_bnd_eq hr (ok_bnd_eq hz (ok_some (h1.trans h2.symm)))
      · rw [if_neg hc] at h2
        exact ok_some (h1.trans h2.symm)
  · rw [hs] at hz
    obtain rfl := Option.some.inj hz
    rfl

theorem bits_eq (l : List Nat) : tarnlaw2_bits_p l l = some true := by
  unfold tarnlaw2_bits_p slices_EqualFunc_float32_float32_float32_float32_p
  rw [if_neg (by simp)]
  rw [forI_first l (fun _ => (none : Option Bool)) _ (by
    intro i x hx
    rw [idx_get hx, bnd_def, bnd_def]
    unfold tarnlaw2_bits_1_p
    simp [bnd_def])]
  have : List.findSome? (fun _ : Nat => (none : Option Bool)) l = none := by rw [List.findSome?_eq_none_iff]; intros; rfl
  rw [this]; rfl

/-- Build, with any input: the document's errors, in their order. -/
theorem Build_bad {f : S_api_Field} {way : List S_api_Point} {bed : List Nat} {wide soft : Int} {we : Int} (hwe : fieldE f = 0 → road_checkWay_p way f = some we) (h : buildE f we bed way wide soft ≠ 0) :
    road_Build_p f way bed wide soft = some (zeroF, buildE f we bed way wide soft) := by
  unfold road_Build_p road_onField_p
  unfold buildE at h ⊢
  rw [Check_eq, bnd_def]
  simp only [firstN_cons, firstN_nil] at h ⊢
  by_cases h1 : fieldE f = 0
  · rw [if_neg (show ¬ fieldE f ≠ 0 by simpa using h1)] at h ⊢
    rw [h1]
    simp only [bne_self_eq_false, Bool.false_eq_true, if_false]
    rw [hwe h1, bnd_def, bnd_def]
    by_cases h2 : we = 0
    · rw [if_neg (show ¬ we ≠ 0 by simpa using h2)] at h ⊢
      rw [h2]
      simp only [bne_self_eq_false, Bool.false_eq_true, if_false]
      by_cases h3 : (bed.length : Int) = way.length
      · rw [if_neg (show ¬ (bed.length : Int) ≠ way.length by simpa using h3)] at h ⊢
        rw [if_neg (by simp [h3]), Heights_eq, bnd_def]
        simp only [ne_eq, not_true_eq_false, if_false] at h ⊢
        by_cases h4 : numE bed = 0
        · rw [if_neg (show ¬ ¬ numE bed = 0 by simpa using h4)] at h ⊢
          rw [h4]
          simp only [bne_self_eq_false, Bool.false_eq_true, if_false]
          by_cases h5 : ¬ (0 ≤ wide ∧ wide ≤ 20) ∨ ¬ (1 ≤ soft ∧ soft ≤ 20)
          · rw [if_pos h5, if_pos (by simp; omega)]; rfl
          · rw [if_neg h5] at h; simp at h
        · rw [if_pos h4, if_pos (by simpa using h4)]; rfl
      · rw [if_pos h3, if_pos (by simpa using h3)]; rfl
    · rw [if_pos (by simpa using h2)]
      simp only [ne_eq, h2, not_false_eq_true, if_true]; rfl
  · rw [if_pos (by simpa using h1), bnd_def, if_pos (by simpa using h1)]
    simp only [ne_eq, h1, not_false_eq_true, if_true]; rfl

/-- The document's error of a way is one, whatever the field. -/
theorem WayError_tot (f : S_api_Field) (way : List S_api_Point) : ∃ e, tarnref2_WayError_p f way = some e := by
  unfold tarnref2_WayError_p
  suffices h : Ok (if ((way.length : Int) == 0) = true then some (10 : Int) else if decide ((way.length : Int) > 65536) = true then some 4 else _) (fun _ => True) by
    obtain ⟨e, he, _⟩ := h; exact ⟨e, he⟩
  refine ok_ite (fun _ => ok_some trivial) (fun _ => ok_ite (fun _ => ok_some trivial) (fun hlong => ?_))
  have hlong : way.length ≤ 65536 := by have h : ¬ (way.length : Int) > 65536 := by simpa using hlong
                                        omega
  refine ok_bnd (ok_forI (fun k _ => ∀ j p, j < k → way[j]? = some p → PtOK p) (fun _ => True) (fun j p h => by omega) ?_) (fun c _ => by cases c <;> exact ok_some trivial)
  intro k s hk hI
  have hp : way[k]? = some way[k] := List.getElem?_eq_getElem hk
  have goal : Ok (bnd (idx way (k : Int)) fun x3 => bnd (if decide (x3.X < (-4194304)) then some true else if decide (x3.X > 4194304) then some true else if decide (x3.Y < (-4194304)) then some true else if decide (x3.Y > 4194304) then some true else bnd (tarnref2_Has_p f.Region x3.X x3.Y) fun r1 => some (!r1)) fun (c1 : Bool) => if c1 then some (Ctl.out 5) else if decide ((k : Int) > 0) then bnd (idx way (subI (k : Int) 1)) fun x4 => bnd (tarnref2_Leap_p x4 x3) fun r2 => if ((r2.2 == 0) || (decide (r2.2 > 12))) then some (Ctl.out 2) else some (Ctl.go ()) else some (Ctl.go ()))
      (fun c : Ctl Unit Int => match c with | .go _ => PtOK way[k] | .out _ => True) := by
    refine ok_idxN hp ?_
    generalize way[k] = p at hp
    refine ok_bnd (P := fun c : Bool => c = true ∨ PtOK p) ?_ ?_
    · refine ok_ite (fun _ => ok_some (.inl rfl)) (fun h1 => ok_ite (fun _ => ok_some (.inl rfl)) (fun h2 => ok_ite (fun _ => ok_some (.inl rfl)) (fun h3 => ok_ite (fun _ => ok_some (.inl rfl)) (fun h4 => ?_))))
      obtain ⟨b, hb⟩ := Has_tot f.Region p.X p.Y
      refine ok_bnd_eq hb (ok_some (.inr ?_))
      unfold PtOK
      simp at h1 h2 h3 h4
      omega
    · intro c hc
      refine ok_ite (fun _ => ok_some trivial) (fun hc' => ?_)
      have hpt : PtOK p := hc.resolve_left hc'
      refine ok_ite (fun h0 => ?_) (fun h0 => ok_some hpt)
      have h0 : 0 < k := by simpa using h0
      rw [subI_eq (by omega), show (k : Int) - 1 = ((k - 1 : Nat) : Int) by omega]
      have hq : way[k - 1]? = some (way[k - 1]'(by omega)) := List.getElem?_eq_getElem (by omega)
      refine ok_idxN hq (ok_bnd_eq (Leap_eq (hI (k - 1) _ (by omega) hq) hpt) ?_)
      exact ok_ite (fun _ => ok_some trivial) (fun _ => ok_some hpt)
  refine ok_bnd goal ?_
  intro c hc
  cases c with
  | out e => exact ok_some trivial
  | go u =>
    refine ok_some ?_
    intro j p hj hjp
    rcases Nat.lt_or_ge j k with h | h
    · exact hI j p h hjp
    · have : j = k := by omega
      subst this
      rw [hp] at hjp
      obtain rfl := Option.some.inj hjp
      exact hc

theorem result_good {r : S_api_Region} {vs : List Nat} (hvs : ∀ z ∈ vs, Bd z (-8388608) 8388608) :
    ∀ (g : S_api_Field) (e : Int), (if ∀ v ∈ vs, hgtB v = true then ((⟨r, vs⟩ : S_api_Field), (0 : Int)) else (zeroF, 3)) = (g, e) → tarnlaw2_result_p g e r vs = some true := by
  intro g e h
  unfold tarnlaw2_result_p
  rw [NumberError_eq, bnd_def]
  by_cases hall : ∀ v ∈ vs, hgtB v = true
  · rw [if_pos hall] at h
    injection h with h1 h2
    subst h1; subst h2
    rw [numE_zero.2 hall]
    simp only [bne_self_eq_false, Bool.false_eq_true, if_false, beq_self_eq_true, if_true, Bool.and_self, bits_eq, bnd_def]
  · rw [if_neg hall] at h
    injection h with h1 h2
    subst h1; subst h2
    have : numE vs ≠ 0 := fun h => hall (numE_zero.1 h)
    rw [if_pos (by simpa using this), empty_zero]
    rfl

theorem BuildsAsSaid.plain : ∀ (a : S_api_Field) (b : List S_api_Point) (c : List Nat) (d : Int) (e : Int), wfS_api_Field a → (InL wfS_api_Point 16) b → (InL (InF .f32) 4) c → (InK .i64) d → (InK .i64) e → tarnlaw2_BuildsAsSaid_p a b c d e = some true := by
  intro f way bed wide soft _ _ _ _ _
  have key : ∀ {α : Type} {o : Option α} {z : α}, Ok o (fun r => r = z) → o = some z := by rintro _ o z ⟨r, h1, rfl⟩; exact h1
  obtain ⟨we, hwe, hcw⟩ : ∃ we, tarnref2_WayError_p f way = some we ∧ (fieldE f = 0 → road_checkWay_p way f = some we ∧ (we = 0 → WayOK f way)) := by
    by_cases hf : fieldE f = 0
    · obtain ⟨e, h1, h2, h3⟩ := way_both (fieldE_zero.1 hf).toRegOK way
      exact ⟨e, h2, fun _ => ⟨h1, h3⟩⟩
    · obtain ⟨e, he⟩ := WayError_tot f way
      exact ⟨e, he, fun h => absurd h hf⟩
  unfold tarnlaw2_BuildsAsSaid_p
  have hfirst : tarnlaw2_first_p ([fieldE f, we, if ((bed.length : Int) != (way.length : Int)) = true then 2 else 0, numE bed, if (!decide (0 ≤ wide ∧ wide ≤ 20)) = true ∨ (!decide (1 ≤ soft ∧ soft ≤ 20)) = true then 3 else 0] : List Int) = some (buildE f we bed way wide soft) := by
    rw [first_eq]
    unfold buildE
    have e1 : (if ((bed.length : Int) != (way.length : Int)) = true then (2 : Int) else 0) = if (bed.length : Int) ≠ way.length then 2 else 0 := by simp
    have e2 : (if (!decide (0 ≤ wide ∧ wide ≤ 20)) = true ∨ (!decide (1 ≤ soft ∧ soft ≤ 20)) = true then (3 : Int) else 0) = if ¬ (0 ≤ wide ∧ wide ≤ 20) ∨ ¬ (1 ≤ soft ∧ soft ≤ 20) then 3 else 0 := by
      simp only [Bool.not_eq_true', decide_eq_false_iff_not]
    rw [e1, e2]
  by_cases hE : buildE f we bed way wide soft = 0
  · -- a right input
    have hE' := hE
    unfold buildE at hE
    simp only [firstN_cons, firstN_nil] at hE
    have g1 : fieldE f = 0 := by
      by_cases h : fieldE f = 0
      · exact h
      · rw [if_pos h] at hE; exact hE
    rw [if_neg (show ¬ fieldE f ≠ 0 by simpa using g1)] at hE
    have g2 : we = 0 := by
      by_cases h : we = 0
      · exact h
      · rw [if_pos h] at hE; exact hE
    rw [if_neg (show ¬ we ≠ 0 by simpa using g2)] at hE
    have g3 : (bed.length : Int) = way.length := by
      by_cases h : (bed.length : Int) = way.length
      · exact h
      · rw [if_pos h] at hE; simp at hE
    rw [if_neg (show ¬ (bed.length : Int) ≠ way.length by simpa using g3)] at hE
    simp only [ne_eq, not_true_eq_false, if_false] at hE
    have g4 : numE bed = 0 := by
      by_cases h : numE bed = 0
      · exact h
      · rw [if_pos h] at hE; exact hE
    rw [if_neg (show ¬ ¬ numE bed = 0 by simpa using g4)] at hE
    have g5 : (0 ≤ wide ∧ wide ≤ 20) ∧ (1 ≤ soft ∧ soft ≤ 20) := by
      by_cases h : ¬ (0 ≤ wide ∧ wide ≤ 20) ∨ ¬ (1 ≤ soft ∧ soft ≤ 20)
      · rw [if_pos h] at hE; simp at hE
      · omega
    have hf := fieldE_zero.1 g1
    obtain ⟨hcw1, hcw2⟩ := hcw g1
    have hw := hcw2 g2
    subst g2
    have hb := numE_zero.1 g4
    have hle := hf.le
    obtain ⟨⟨w0, w1⟩, s0, s1⟩ := g5
    obtain ⟨vs, hvl, hvs⟩ := built_all hf hw (by omega) hb w0 w1 s0 s1
    have hB := Build_good hf hw hcw1 (by omega) hb w0 w1 s0 s1 hvl hvs
    have hbd : ∀ z ∈ vs, Bd z (-8388608) 8388608 := by
      intro z hz
      obtain ⟨k, hk, rfl⟩ := List.mem_iff_getElem.1 hz
      exact (hvs k _ (List.getElem?_eq_getElem hk)).1
    generalize hr1 : (if ∀ v ∈ vs, hgtB v = true then ((⟨f.Region, vs⟩ : S_api_Field), (0 : Int)) else (zeroF, 3)) = r1 at hB
    rw [hB, bnd_def, FieldError_eq, bnd_def, hwe, bnd_def, when_eq, bnd_def, NumberError_eq, bnd_def, within_eq, bnd_def]
    rw [within_eq]
    simp only [w0, w1, s0, s1, and_self, decide_true, Bool.not_true, Bool.false_eq_true, if_false, bnd_def]
    rw [when_eq, bnd_def]
    have hf0 : tarnlaw2_first_p ([fieldE f, 0, if ((bed.length : Int) != (way.length : Int)) = true then 2 else 0, numE bed, if false = true then 3 else 0] : List Int) = some 0 := by
      rw [first_eq, g1, g4, g3]; simp [firstN]
    rw [hf0, bnd_def, leads_eq, bnd_def, bnd_def]
    simp only [Bool.not_true, Bool.false_eq_true, if_false, bnd_def, bne_self_eq_false]
    refine key (ok_bnd (ok_forS (fun k s => s = vs.take k) (by simp) ?_) ?_)
    · rintro k s hk rfl
      have hz : vs[k]? = some (vs[k]'(by omega)) := List.getElem?_eq_getElem (by omega)
      refine ok_bnd_eq (hvs k _ hz).2.1 (ok_bnd_eq (app_ok ?_) (ok_some ?_))
      · simp; omega
      · rw [List.take_add_one, hz]; rfl
    rintro s rfl
    rw [List.take_of_length_le (by omega)]
    obtain ⟨g, e⟩ := r1
    refine ok_bnd_eq (result_good hbd g e hr1) ?_
    simp only [Bool.not_true, Bool.false_eq_true, if_false]
    by_cases hall : ∀ v ∈ vs, hgtB v = true
    · rw [if_pos hall] at hr1
      injection hr1 with h1 h2
      subst h1; subst h2
      simp only [bne_self_eq_false, Bool.false_eq_true, if_false]
      obtain ⟨s, hs, bs1, bs2⟩ := earth_tot hvl hle hf.hts hall f.V.length (Nat.le_refl _)
      refine ok_bnd_eq (Earth_ok hf hvl hall hs) ?_
      refine ok_bnd (ok_forS (fun k s => earthS f.V vs k = some s) rfl ?_) (fun z hz => ok_some ?_)
      · intro k s hk hs
        have hv : f.V[k]? = some f.V[k] := List.getElem?_eq_getElem hk
        have hw : vs[k]? = some (vs[k]'(by omega)) := List.getElem?_eq_getElem (by omega)
        refine ok_bnd (P := fun s => earthS f.V vs (k + 1) = some s) ?_ (fun z hz => ok_some hz)
        have nv := (hgtB_iff.1 (hf.hts _ (List.getElem_mem hk))).nn
        have nw := (hgtB_iff.1 (hall _ (List.getElem_mem (show k < vs.length by omega)))).nn
        obtain ⟨s', h1, _, _⟩ := earth_tot hvl hle hf.hts hall (k + 1) (by omega)
        have h2 := h1
        unfold earthS at h2
        rw [hs, bnd_def, hv, bnd_def, hw, bnd_def] at h2
        have ex := flt_eq nw nv
        have ey := fgt_eq nw nv
        refine ok_idxN hw (ok_idxN hv ?_)
        refine ok_bnd (P := fun a => if flt .f32 (vs[k]'(by omega)) f.V[k] = true then (bnd (fsub .f32 f.V[k] (vs[k]'(by omega))) fun r => fadd .f32 s.1 r) = some a else a = s.1) ?_ ?_
        · refine ok_ite (fun hc => ?_) (fun hc => ?_)
          · rw [if_pos hc] at h2
            obtain ⟨r, hr, h2⟩ := bnd_some h2
            obtain ⟨z, hz, h2⟩ := bnd_some h2
            refine ok_idxN hv (ok_idxN hw (ok_bnd_eq hr (ok_bnd_eq hz (ok_some ?_))))
            rw [if_pos hc, hr, bnd_def, hz]
          · refine ok_some ?_
            rw [if_neg hc]
        · intro a ha
          refine ok_idxN hw (ok_idxN hv ?_)
          refine ok_ite (fun hc => ?_) (fun hc => ?_)
          · have hn : ¬ flt .f32 (vs[k]'(by omega)) f.V[k] = true := by
              rw [ex]; rw [ey] at hc
              have hc : W f.V[k] < W (vs[k]'(by omega)) := by simpa using hc
              simp; omega
            rw [if_neg hn] at ha h2
            rw [if_pos hc] at h2
            obtain ⟨r, hr, h2⟩ := bnd_some h2
            obtain ⟨z, hz, h2⟩ := bnd_some h2
            refine ok_idxN hw (ok_idxN hv (ok_bnd_eq hr (ok_bnd_eq hz (ok_some ?_))))
            rw [ha]; exact h1.trans h2.symm
          · refine ok_some ?_
            by_cases hl : flt .f32 (vs[k]'(by omega)) f.V[k] = true
            · rw [if_pos hl] at ha h2
              obtain ⟨r, hr, h2⟩ := bnd_some h2
              obtain ⟨z, hz, h2⟩ := bnd_some h2
              rw [hr, bnd_def, hz] at ha
              obtain rfl := Option.some.inj ha
              exact h1.trans h2.symm
            · rw [if_neg hl] at ha h2
              rw [if_neg hc] at h2
              rw [ha]; exact h1.trans h2.symm
      · rw [hs] at hz
        obtain rfl := Option.some.inj hz
        rw [feq_eq bs1.nn bs1.nn, feq_eq bs2.nn bs2.nn]
        simp
    · rw [if_neg hall] at hr1
      injection hr1 with h1 h2
      subst h1; subst h2
      exact ok_some rfl
  · -- refused
    have hB := Build_bad (fun h => (hcw h).1) hE
    rw [hB, bnd_def, FieldError_eq, bnd_def, hwe, bnd_def, when_eq, bnd_def, NumberError_eq, bnd_def, within_eq, bnd_def]
    refine key (ok_bnd (P := fun c => c = true ↔ (!decide (0 ≤ wide ∧ wide ≤ 20)) = true ∨ (!decide (1 ≤ soft ∧ soft ≤ 20)) = true) ?_ ?_)
    · refine ok_ite (fun hc => ok_some ?_) (fun hc => ?_)
      · simp only [true_iff]; exact .inl hc
      · refine ok_bnd_eq (within_eq _ _ _) (ok_some ?_)
        constructor
        · exact .inr
        · intro h; exact h.resolve_left hc
    intro c hc
    rw [when_eq, bnd_def]
    have hcc : (if c = true then (3 : Int) else 0) = if (!decide (0 ≤ wide ∧ wide ≤ 20)) = true ∨ (!decide (1 ≤ soft ∧ soft ≤ 20)) = true then 3 else 0 := by
      by_cases h : c = true
      · rw [if_pos h, if_pos (hc.1 h)]
      · rw [if_neg h, if_neg (fun h' => h (hc.2 h'))]
    rw [hcc, hfirst, bnd_def, leads_eq, bnd_def]
    simp only [Bool.not_true, Bool.false_eq_true, if_false, bnd_def]
    rw [if_pos (by simpa using hE)]
    simp only [if_true, empty_zero, bnd_def, beq_self_eq_true]
    exact ok_some rfl
end Go.Proofs.Ythibohbaaljnkaa
