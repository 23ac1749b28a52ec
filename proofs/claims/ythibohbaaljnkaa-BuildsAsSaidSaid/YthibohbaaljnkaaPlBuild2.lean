/- Own text: the ground that fits a bed, cell by cell. -/
import Derived.Test.YthibohbaaljnkaaPlBuild
namespace Go.Proofs.Ythibohbaaljnkaa
open Sx
set_option linter.all false

theorem refF_is {way : List S_api_Point} {x y : Int} : ∀ m : Nat, m ≤ way.length → m ≠ 0 → ∃ p ∈ way, (refF way x y m).2 = dist p x y
  | 0, _, h => absurd rfl h
  | m + 1, hm, _ => by
    have hp : way[m]? = some way[m] := List.getElem?_eq_getElem (by omega)
    unfold refF
    rw [hp]
    simp only
    split
    · exact ⟨way[m], List.getElem_mem _, rfl⟩
    · rename_i hc
      by_cases h0 : m = 0
      · subst h0; exact absurd (Or.inl (by show (-1 : Int) < 0; decide)) hc
      · exact refF_is m (by omega) h0
theorem nearF_is {way : List S_api_Point} {far x y : Int} : ∀ m : Nat, m ≤ way.length → 0 ≤ (nearF way far x y m).1 → ∃ p ∈ way, (nearF way far x y m).2 = dist p x y
  | 0, _, h => absurd h (by show ¬ (0 : Int) ≤ -1; decide)
  | m + 1, hm, h => by
    have hp : way[m]? = some way[m] := List.getElem?_eq_getElem (by omega)
    rw [nearF_succ hp] at h ⊢
    split at h
    · rename_i hc
      rw [if_pos hc]
      exact ⟨way[m], List.getElem_mem _, rfl⟩
    · rename_i hc
      rw [if_neg hc]
      exact nearF_is m (by omega) h

/-- What is made of a cell. -/
def cellV (bed : List Nat) (v : Nat) (wide soft nr sq : Int) : Option Nat :=
  if nr < 0 then some v else bnd (idx bed nr) fun b => if sq ≤ wide * wide then some b else bnd (rootP (fofI .f32 sq)) fun r5 => bnd (fsub .f32 r5 (fofI .f32 wide)) fun r6 => bnd (fdiv .f32 r6 (fofI .f32 soft)) fun r7 =>
    if flt .f32 r7 1065353216 then bnd (noise_ease_p r7) fun e => mixP b v e else some v

/-- The share of the way from the bed to the ground. -/
theorem share_ok {wide soft sq : Int} (hw0 : 0 ≤ wide) (hw1 : wide ≤ 20) (hs0 : 1 ≤ soft) (hs1 : soft ≤ 20) (h0 : 0 ≤ sq) (h1 : sq ≤ 524288) (hgt : wide * wide < sq) :
    ∃ r5 r6 r7, rootP (fofI .f32 sq) = some r5 ∧ fsub .f32 r5 (fofI .f32 wide) = some r6 ∧ fdiv .f32 r6 (fofI .f32 soft) = some r7 ∧ Bd r7 0 4096 ∧ ((wide + soft) * (wide + soft) < sq → flt .f32 r7 1065353216 = false) ∧ (flt .f32 r7 1065353216 = true → Bd r7 0 1) := by
  obtain ⟨r5, e5, b5, q5⟩ := root_ofI h0 (by omega)
  have bw := bd_ofI (n := wide) (by omega)
  have bs := bd_ofI (n := soft) (by omega)
  have b5' : Bd r5 wide 4096 := ⟨b5.1, (q5 wide hw0 (by omega)).1 (by omega), b5.2.2⟩
  obtain ⟨r6, e6, b6⟩ := bd_sub b5' bw (rp (n := 0) (by decide)) (rp (n := 4096) (by decide)) (by omega) (by omega)
  obtain ⟨r7, e7, b7⟩ := bd_div b6 bs (by omega) (rp (n := 0) (by decide)) (rp (n := 4096) (by decide)) (by simp) (by rw [if_pos (by decide)]; omega)
  refine ⟨r5, r6, r7, e5, e6, e7, b7, fun hfar => ?_, fun hlt => ?_⟩
  · have c5 : Bd r5 (wide + soft) 4096 := ⟨b5.1, (q5 (wide + soft) (by omega) (by omega)).1 (by omega), b5.2.2⟩
    obtain ⟨r6', e6', b6'⟩ := bd_sub c5 bw (rp (n := soft) (by omega)) (rp (n := 4096) (by decide)) (by omega) (by omega)
    rw [e6] at e6'
    obtain rfl := Option.some.inj e6'
    obtain ⟨r7', e7', b7'⟩ := bd_div b6' bs (by omega) (rp (n := 1) (by decide)) (rp (n := 4096) (by decide)) (by rw [if_neg (by decide)]; omega) (by rw [if_pos (by decide)]; omega)
    rw [e7] at e7'
    obtain rfl := Option.some.inj e7'
    rw [flt_eq b7.nn fi_1.nn, W_1]
    have := b7'.2.1
    simp; omega
  · rw [flt_eq b7.nn fi_1.nn, W_1] at hlt
    have h1 : W r7 < 1 * U32 := by simpa using hlt
    exact ⟨b7.1, b7.2.1, by omega⟩

theorem cell_tot {bed : List Nat} (hb : ∀ v ∈ bed, hgtB v = true) {v : Nat} (hv : hgtB v = true) {wide soft nr sq : Int} (hw0 : 0 ≤ wide) (hw1 : wide ≤ 20) (hs0 : 1 ≤ soft) (hs1 : soft ≤ 20) (hn : nr < bed.length) (h0 : 0 ≤ nr → 0 ≤ sq ∧ sq ≤ 524288) :
    ∃ z, cellV bed v wide soft nr sq = some z ∧ Bd z (-8388608) 8388608 ∧ (nr < 0 ∨ (wide + soft) * (wide + soft) < sq → z = v) := by
  have bv := hgtB_iff.1 hv
  unfold cellV
  by_cases hneg : nr < 0
  · rw [if_pos hneg]
    exact ⟨v, rfl, bv.wide (by decide) (by decide), fun _ => rfl⟩
  rw [if_neg hneg]
  obtain ⟨s0, s1⟩ := h0 (by omega)
  have hbn : bed[nr.toNat]? = some (bed[nr.toNat]'(by omega)) := List.getElem?_eq_getElem (by omega)
  rw [idx_int (by omega), hbn, bnd_def]
  have bb := hgtB_iff.1 (hb _ (List.getElem_mem (show nr.toNat < bed.length by omega)))
  generalize bed[nr.toNat]'(by omega) = b at bb
  have hww : wide * wide ≤ (wide + soft) * (wide + soft) := Int.mul_le_mul (by omega) (by omega) hw0 (by omega)
  by_cases hle : sq ≤ wide * wide
  · rw [if_pos hle]
    exact ⟨b, rfl, bb.wide (by decide) (by decide), fun h => by rcases h with h | h <;> omega⟩
  rw [if_neg hle]
  obtain ⟨r5, r6, r7, e5, e6, e7, b7, hfar, hone⟩ := share_ok hw0 hw1 hs0 hs1 s0 s1 (by omega)
  rw [e5, bnd_def, e6, bnd_def, e7, bnd_def]
  by_cases hlt : flt .f32 r7 1065353216 = true
  · rw [if_pos hlt]
    obtain ⟨e, he, _, be⟩ := ease_both (hone hlt)
    rw [he, bnd_def]
    obtain ⟨z, hz, bz⟩ := mix_ok bb bv be
    refine ⟨z, hz, bz, fun h => ?_⟩
    rcases h with h | h
    · exact absurd h hneg
    · rw [hfar h] at hlt; cases hlt
  · rw [if_neg hlt]
    exact ⟨v, rfl, bv.wide (by decide) (by decide), fun _ => rfl⟩

section
variable {f : S_api_Field} {way : List S_api_Point} {bed : List Nat} {wide soft : Int}
/-- The two searches lead to the same. -/
theorem cell_same (hf : FieldOK f) (hw : WayOK f way) (hbl : bed.length = way.length) (hb : ∀ v ∈ bed, hgtB v = true) (hw0 : 0 ≤ wide) (hw1 : wide ≤ 20) (hs0 : 1 ≤ soft) (hs1 : soft ≤ 20) {x y : Int} (hi : inR f.Region x y) {v : Nat} (hv : hgtB v = true) :
    ∃ z, Bd z (-8388608) 8388608 ∧ cellV bed v wide soft (refF way x y way.length).1 (refF way x y way.length).2 = some z ∧ cellV bed v wide soft (nearF way (wide + soft) x y way.length).1 (nearF way (wide + soft) x y way.length).2 = some z := by
  have hne : way.length ≠ 0 := fun h => hw.ne (List.length_eq_zero_iff.1 h)
  obtain ⟨h1, h2, h3, h4⟩ := near_ref (far := wide + soft) (by omega) way x y way.length (Nat.le_refl _)
  obtain ⟨g1, g2, g3⟩ := h1.resolve_left hne
  obtain ⟨p, hp, ep⟩ := refF_is (x := x) (y := y) way.length (Nat.le_refl _) hne
  have dp := (dist_le hf.toRegOK (hw.inr p hp) hi).1
  obtain ⟨z, hz1, hz2, hz3⟩ := cell_tot hb hv hw0 hw1 hs0 hs1 (nr := (refF way x y way.length).1) (sq := (refF way x y way.length).2) (by omega) (fun _ => ⟨g3, by omega⟩)
  refine ⟨z, hz2, hz1, ?_⟩
  by_cases hF : (refF way x y way.length).2 ≤ (wide + soft) * (wide + soft)
  · rw [h3 hne hF]; exact hz1
  · have hzv := hz3 (.inr (by omega))
    have h5 := h4 (.inr (by omega))
    have hsq : 0 ≤ (nearF way (wide + soft) x y way.length).1 → 0 ≤ (nearF way (wide + soft) x y way.length).2 ∧ (nearF way (wide + soft) x y way.length).2 ≤ 524288 := by
      intro h
      obtain ⟨q, hq, eq⟩ := nearF_is way.length (Nat.le_refl _) h
      have dq := (dist_le hf.toRegOK (hw.inr q hq) hi).1
      have := dist_nonneg q x y
      omega
    obtain ⟨z', hz1', _, hz3'⟩ := cell_tot hb hv hw0 hw1 hs0 hs1 (nr := (nearF way (wide + soft) x y way.length).1) (sq := (nearF way (wide + soft) x y way.length).2) (by omega) hsq
    have hzv' := hz3' (by rcases h5 with h5 | h5; exact .inl h5; exact .inr h5.2)
    rw [hz1', hzv', hzv]

/-- The document's value of a cell. -/
theorem BuiltOf_eq (hf : FieldOK f) (hw : WayOK f way) (hbl : bed.length = way.length) (hb : ∀ v ∈ bed, hgtB v = true) (hw0 : 0 ≤ wide) (hw1 : wide ≤ 20) (hs0 : 1 ≤ soft) (hs1 : soft ≤ 20) {k : Nat} (hk : k < f.V.length) {x y : Int} (hx : x = f.Region.X + (k : Int) % f.Region.W) (hy : y = f.Region.Y + (k : Int) / f.Region.W) {v : Nat} (hv : f.V[k]? = some v) {z : Nat}
    (hz : cellV bed v wide soft (refF way x y way.length).1 (refF way x y way.length).2 = some z) : tarnref2_BuiltOf_p f way bed wide soft (k : Int) = some z := by
  unfold tarnref2_BuiltOf_p
  have hkl : (k : Int) < f.Region.W * f.Region.H := by have := hf.len; omega
  obtain ⟨hi, hcell⟩ := place_of hf.toRegOK (k := (k : Int)) (by omega) hkl
  rw [← hx, ← hy] at hi hcell
  rw [Place2_eq hf.toRegOK (by omega) hkl, ← hx, ← hy, bnd_def]
  have hne : way.length ≠ 0 := fun h => hw.ne (List.length_eq_zero_iff.1 h)
  have hmul : mulI wide wide = wide * wide := by
    have := mul_bound (a := wide) (A := 20) (b := wide) (B := 20) (by omega) (by omega)
    exact mulI_eq (by omega)
  have key : ∀ {o : Option Nat}, Ok o (fun r => r = z) → o = some z := by rintro o ⟨r, h1, rfl⟩; exact h1
  refine key (ok_bnd (ok_forS (fun m s => s = refF way x y m) rfl ?_) ?_)
  · rintro m s hm rfl
    have hp : way[m]? = some way[m] := List.getElem?_eq_getElem hm
    refine ok_bnd (P := fun s => s = refF way x y (m + 1)) ?_ (fun s hs => ok_some hs)
    refine ok_idxN hp ?_
    rw [dist_ref hf.toRegOK (hw.inr _ (List.getElem_mem hm)) hi]
    refine ok_bnd_eq rfl ?_
    have er : refF way x y (m + 1) = if (refF way x y m).2 < 0 ∨ dist way[m] x y < (refF way x y m).2 then ((m : Int), dist way[m] x y) else refF way x y m := by
      conv => lhs; unfold refF
      rw [hp]
    rw [er]
    refine ok_ite (fun h => ok_some ?_) (fun h => ok_some ?_)
    · rw [if_pos (by simpa using h)]
    · rw [if_neg (by simpa using h)]
  rintro s rfl
  obtain ⟨h1, _, _, _⟩ := near_ref (far := 0) (Int.le_refl _) way x y way.length (Nat.le_refl _)
  obtain ⟨g1, g2, g3⟩ := h1.resolve_left hne
  unfold cellV at hz
  rw [if_neg (by omega), idx_int g1] at hz
  have hbn : bed[(refF way x y way.length).1.toNat]? = some (bed[(refF way x y way.length).1.toNat]'(by omega)) := List.getElem?_eq_getElem (by omega)
  rw [hbn, bnd_def] at hz
  rw [hmul]
  refine ok_ite (fun hc => ?_) (fun hc => ?_)
  · rw [if_pos (by simpa using hc)] at hz
    exact ok_idx g1 hbn (ok_some (Option.some.inj hz))
  · have hc' : ¬ (refF way x y way.length).2 ≤ wide * wide := by simpa using hc
    rw [if_neg hc'] at hz
    obtain ⟨p, hp, ep⟩ := refF_is (x := x) (y := y) way.length (Nat.le_refl _) hne
    have dp := (dist_le hf.toRegOK (hw.inr p hp) hi).1
    obtain ⟨r5, r6, r7, e5, e6, e7, b7, hfar, hone⟩ := share_ok hw0 hw1 hs0 hs1 g3 (by omega) (by omega)
    rw [e5, bnd_def, e6, bnd_def, e7, bnd_def] at hz
    refine ok_bnd_eq ((Root_r _).trans e5) (ok_bnd_eq e6 (ok_bnd_eq e7 ?_))
    refine ok_ite (fun ht => ?_) (fun ht => ?_)
    · rw [if_pos ht] at hz
      obtain ⟨e, he, he', _⟩ := ease_both (hone ht)
      rw [he, bnd_def] at hz
      refine ok_idx g1 hbn (ok_idxN hv ?_)
      unfold mixP at hz
      obtain ⟨m1, hm1, hz⟩ := bnd_some hz
      obtain ⟨m2, hm2, hz⟩ := bnd_some hz
      obtain ⟨m3, hm3, hz⟩ := bnd_some hz
      exact ok_bnd_eq hm1 (ok_bnd_eq he' (ok_bnd_eq hm2 (ok_bnd_eq hm3 (ok_some (Option.some.inj hz)))))
    · rw [if_neg ht] at hz
      exact ok_idxN hv (ok_some (Option.some.inj hz))

/-- The values of all cells. -/
theorem built_all (hf : FieldOK f) (hw : WayOK f way) (hbl : bed.length = way.length) (hb : ∀ v ∈ bed, hgtB v = true) (hw0 : 0 ≤ wide) (hw1 : wide ≤ 20) (hs0 : 1 ≤ soft) (hs1 : soft ≤ 20) :
    ∃ vs : List Nat, vs.length = f.V.length ∧ ∀ (k : Nat) (z : Nat), vs[k]? = some z → Bd z (-8388608) 8388608 ∧ tarnref2_BuiltOf_p f way bed wide soft (k : Int) = some z ∧
      ∀ v, f.V[k]? = some v → cellV bed v wide soft (nearF way (wide + soft) (f.Region.X + (k : Int) % f.Region.W) (f.Region.Y + (k : Int) / f.Region.W) way.length).1 (nearF way (wide + soft) (f.Region.X + (k : Int) % f.Region.W) (f.Region.Y + (k : Int) / f.Region.W) way.length).2 = some z := by
  refine choose_list (fun k z => Bd z (-8388608) 8388608 ∧ tarnref2_BuiltOf_p f way bed wide soft (k : Int) = some z ∧
      ∀ v, f.V[k]? = some v → cellV bed v wide soft (nearF way (wide + soft) (f.Region.X + (k : Int) % f.Region.W) (f.Region.Y + (k : Int) / f.Region.W) way.length).1 (nearF way (wide + soft) (f.Region.X + (k : Int) % f.Region.W) (f.Region.Y + (k : Int) / f.Region.W) way.length).2 = some z) _ fun k hk => ?_
  have hkl : (k : Int) < f.Region.W * f.Region.H := by have := hf.len; omega
  obtain ⟨hi, hcell⟩ := place_of hf.toRegOK (k := (k : Int)) (by omega) hkl
  have hv : f.V[k]? = some f.V[k] := List.getElem?_eq_getElem hk
  obtain ⟨z, hz1, hz2, hz3⟩ := cell_same hf hw hbl hb hw0 hw1 hs0 hs1 hi (hf.hts _ (List.getElem_mem hk))
  refine ⟨z, hz1, BuiltOf_eq hf hw hbl hb hw0 hw1 hs0 hs1 hk rfl rfl hv hz2, fun v hv' => ?_⟩
  rw [hv] at hv'
  obtain rfl := Option.some.inj hv'
  exact hz3
end
end Go.Proofs.Ythibohbaaljnkaa
