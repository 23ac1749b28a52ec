/- Own text: BuildsAsSaid: the plain law. -/
import Derived.Test.YthibohbaaljnkaaPlBuild2
namespace Go.Proofs.Ythibohbaaljnkaa
open Sx
set_option linter.all false

theorem Copy_eq {f : S_api_Field} (h : f.V.length ≤ 2 ^ 39) : field_Copy_p f = some f := by
  unfold field_Copy_p slices_Clone_float32_float32_p
  rw [app_ok (by simpa using h), bnd_def, bnd_def]; rfl
def zeroF : S_api_Field := ⟨⟨0, 0, 0, 0⟩, []⟩
theorem Result_eq (f : S_api_Field) : field_Result_p f = some (if ∀ v ∈ f.V, hgtB v = true then (f, 0) else (zeroF, 3)) := by
  unfold field_Result_p
  rw [forI_first f.V (fun v => if hgtB v then none else some (zeroF, 3)) _ (by
    intro i x hx
    rw [idx_get hx, bnd_def]
    unfold field_height_p
    rw [bnd_def]
    show (if (!hgtB x) = true then _ else _) = _
    cases hgtB x <;> rfl)]
  rw [bnd_def]
  by_cases h : ∀ v ∈ f.V, hgtB v = true
  · rw [if_pos h]
    have : List.findSome? (fun v => if hgtB v then none else some (zeroF, (3 : Int))) f.V = none := by
      rw [List.findSome?_eq_none_iff]
      intro v hv; rw [h v hv]; rfl
    rw [this]
  · rw [if_neg h]
    cases hx : List.findSome? (fun v => if hgtB v then none else some (zeroF, (3 : Int))) f.V with
    | none =>
      rw [List.findSome?_eq_none_iff] at hx
      exfalso; apply h
      intro v hv
      have := hx v hv
      cases hh : hgtB v with
      | true => rfl
      | false => rw [hh] at this; simp at this
    | some e =>
      rw [List.findSome?_eq_some_iff] at hx
      obtain ⟨_, a, _, _, hx, _⟩ := hx
      split at hx
      · cases hx
      · obtain rfl := Option.some.inj hx; rfl
theorem empty_eq (f : S_api_Field) : tarnlaw2_empty_p f = some (decide (f.Region.X = 0 ∧ f.Region.Y = 0 ∧ f.Region.W = 0 ∧ f.Region.H = 0 ∧ f.V.length = 0)) := by
  unfold tarnlaw2_empty_p
  congr 1
  rw [Bool.eq_iff_iff]
  simp only [Bool.and_eq_true, beq_iff_eq, and_true, decide_eq_true_eq]
  constructor
  · rintro ⟨⟨h1, h2, h3, h4⟩, h5⟩; exact ⟨h1, h2, h3, h4, by omega⟩
  · rintro ⟨h1, h2, h3, h4, h5⟩; exact ⟨⟨h1, h2, h3, h4⟩, by omega⟩
theorem empty_zero : tarnlaw2_empty_p zeroF = some true := rfl
theorem leads_eq : tarnlaw2_leads_p = some true := by kernel_rfl

/-- All checks of Build. -/
def buildE (f : S_api_Field) (we : Int) (bed : List Nat) (way : List S_api_Point) (wide soft : Int) : Int :=
  firstN [fieldE f, we, if (bed.length : Int) ≠ way.length then 2 else 0, numE bed, if ¬ (0 ≤ wide ∧ wide ≤ 20) ∨ ¬ (1 ≤ soft ∧ soft ≤ 20) then 3 else 0]

section
variable {f : S_api_Field} {way : List S_api_Point} {bed : List Nat} {wide soft : Int}

theorem ext_get {α : Type} {xs ys : List α} (hl : xs.length = ys.length) (h : ∀ (k : Nat) z, ys[k]? = some z → xs[k]? = some z) : xs = ys := by
  apply List.ext_getElem?
  intro k
  rcases Nat.lt_or_ge k ys.length with hk | hk
  · rw [List.getElem?_eq_getElem hk]; exact h k _ (List.getElem?_eq_getElem hk)
  · rw [List.getElem?_eq_none hk, List.getElem?_eq_none (by omega)]

theorem Build_good (hf : FieldOK f) (hw : WayOK f way) (hcw : road_checkWay_p way f = some 0) (hbl : bed.length = way.length) (hb : ∀ v ∈ bed, hgtB v = true) (hw0 : 0 ≤ wide) (hw1 : wide ≤ 20) (hs0 : 1 ≤ soft) (hs1 : soft ≤ 20)
    {vs : List Nat} (hvl : vs.length = f.V.length) (hvs : ∀ (k : Nat) (z : Nat), vs[k]? = some z → Bd z (-8388608) 8388608 ∧ tarnref2_BuiltOf_p f way bed wide soft (k : Int) = some z ∧
      ∀ v, f.V[k]? = some v → cellV bed v wide soft (nearF way (wide + soft) (f.Region.X + (k : Int) % f.Region.W) (f.Region.Y + (k : Int) / f.Region.W) way.length).1 (nearF way (wide + soft) (f.Region.X + (k : Int) % f.Region.W) (f.Region.Y + (k : Int) / f.Region.W) way.length).2 = some z) :
    road_Build_p f way bed wide soft = some (if ∀ v ∈ vs, hgtB v = true then (⟨f.Region, vs⟩, 0) else (zeroF, 3)) := by
  unfold road_Build_p road_onField_p
  have key : ∀ {α : Type} {o : Option α} {z : α}, Ok o (fun r => r = z) → o = some z := by rintro _ o z ⟨r, h1, rfl⟩; exact h1
  rw [Check_eq, bnd_def, fieldE_zero.2 hf]
  simp only [bne_self_eq_false, Bool.false_eq_true, if_false]
  rw [hcw, bnd_def, bnd_def]
  simp only [bne_self_eq_false, Bool.false_eq_true, if_false]
  rw [if_neg (by simp; omega), Heights_eq, numE_zero.2 hb, bnd_def]
  simp only [bne_self_eq_false, Bool.false_eq_true, if_false]
  rw [if_neg (by simp; omega), addI_eq (by omega)]
  have hmul : mulI wide wide = wide * wide := by
    have := mul_bound (a := wide) (A := 20) (b := wide) (B := 20) (by omega) (by omega)
    exact mulI_eq (by omega)
  rw [hmul]
  refine key (ok_bnd (nearest_ok hf.toRegOK hw.inr (by omega) (by omega)) ?_)
  rintro ⟨near, square⟩ ⟨hN, hS⟩
  simp only at hN hS ⊢
  have hle := hf.le
  refine ok_bnd_eq (Copy_eq (by omega)) ?_
  have hnl : near.length = f.V.length := by have := hN.1; have := hf.len; omega
  refine ok_bnd (ok_forS (fun k s => s.length = f.V.length ∧ (∀ j, j < k → s[j]? = vs[j]?) ∧ ∀ j, k ≤ j → s[j]? = f.V[j]?) ⟨rfl, fun j hj => by omega, fun j hj => rfl⟩ ?_) ?_
  · rintro k s hk ⟨hl, hd, ht⟩
    have hkV : k < f.V.length := by omega
    have hkl : (k : Int) < f.Region.W * f.Region.H := by have := hf.len; omega
    obtain ⟨hi, hcell⟩ := place_of hf.toRegOK (k := (k : Int)) (by omega) hkl
    have hn := hN.2 _ _ hi
    have hs := hS.2 _ _ hi
    rw [hcell, Int.toNat_natCast] at hn hs
    simp only at hn hs
    have hv : f.V[k]? = some f.V[k] := List.getElem?_eq_getElem hkV
    have hz : vs[k]? = some (vs[k]'(by omega)) := List.getElem?_eq_getElem (by omega)
    obtain ⟨_, _, h3⟩ := hvs k _ hz
    have h3 := h3 _ hv
    obtain ⟨_, hlt, _, _⟩ := near_ref (far := wide + soft) (by omega) way (f.Region.X + (k : Int) % f.Region.W) (f.Region.Y + (k : Int) / f.Region.W) way.length (Nat.le_refl _)
    have hwayne : way.length ≠ 0 := fun h => hw.ne (List.length_eq_zero_iff.1 h)
    have hsq : 0 ≤ (nearF way (wide + soft) (f.Region.X + (k : Int) % f.Region.W) (f.Region.Y + (k : Int) / f.Region.W) way.length).1 → 0 ≤ (nearF way (wide + soft) (f.Region.X + (k : Int) % f.Region.W) (f.Region.Y + (k : Int) / f.Region.W) way.length).2 ∧ (nearF way (wide + soft) (f.Region.X + (k : Int) % f.Region.W) (f.Region.Y + (k : Int) / f.Region.W) way.length).2 ≤ 524288 := by
      intro h
      obtain ⟨q, hq, eq⟩ := nearF_is way.length (Nat.le_refl _) h
      have dq := (dist_le hf.toRegOK (hw.inr q hq) hi).1
      have := dist_nonneg q (f.Region.X + (k : Int) % f.Region.W) (f.Region.Y + (k : Int) / f.Region.W)
      omega
    generalize (nearF way (wide + soft) (f.Region.X + (k : Int) % f.Region.W) (f.Region.Y + (k : Int) / f.Region.W) way.length) = N at *
    obtain ⟨nr, sq⟩ := N
    simp only at hn hs h3 hlt hsq ⊢
    generalize vs[k]'(by omega) = z at hz h3
    have hsk : s[k]? = some f.V[k] := by rw [ht k (Nat.le_refl _)]; exact hv
    have done : ∀ s' : List Nat, s' = s.set k z → s'.length = f.V.length ∧ (∀ j, j < k + 1 → s'[j]? = vs[j]?) ∧ ∀ j, k + 1 ≤ j → s'[j]? = f.V[j]? := by
      rintro s' rfl
      refine ⟨by rw [List.length_set]; exact hl, fun j hj => ?_, fun j hj => ?_⟩
      · rcases Nat.lt_or_ge j k with h | h
        · rw [List.getElem?_set_ne (by omega)]; exact hd j h
        · have : j = k := by omega
          subst this
          rw [List.getElem?_set_self (by omega), hz]
      · rw [List.getElem?_set_ne (by omega)]; exact ht j (by omega)
    have same : z = f.V[k] → s = s.set k z := by
      intro e
      rw [e]
      apply List.ext_getElem?
      intro j
      by_cases hj : j = k
      · subst hj; rw [List.getElem?_set_self (by omega), hsk]
      · rw [List.getElem?_set_ne (by omega)]
    refine ok_bnd (P := fun s' => s' = s.set k z) ?_ (fun s' hs' => ok_some (done s' hs'))
    refine ok_idxN hn ?_
    unfold cellV at h3
    refine ok_ite (fun hc => ?_) (fun hc => ?_)
    · have hc : nr < 0 := by simpa using hc
      rw [if_pos hc] at h3
      exact ok_some (same (Option.some.inj h3).symm)
    have hc : ¬ nr < 0 := by simpa using hc
    rw [if_neg hc] at h3
    have hbn : bed[nr.toNat]? = some (bed[nr.toNat]'(by omega)) := List.getElem?_eq_getElem (by omega)
    rw [idx_int (by omega), hbn, bnd_def] at h3
    refine ok_idx (by omega) hbn (ok_idxN hv (ok_idxN hs ?_))
    generalize bed[nr.toNat]'(by omega) = b at h3
    refine ok_ite (fun hq => ?_) (fun hq => ?_)
    · have hq : sq ≤ wide * wide := by simpa using hq
      rw [if_pos hq] at h3
      refine ok_idxN hsk (ok_bnd_eq rfl (ok_some ?_))
      rw [Int.toNat_natCast, Option.some.inj h3]
    have hq : ¬ sq ≤ wide * wide := by simpa using hq
    rw [if_neg hq] at h3
    obtain ⟨s0, s1⟩ := hsq (by omega)
    obtain ⟨r5, r6, r7, e5, e6, e7, b7, hfar, hone⟩ := share_ok hw0 hw1 hs0 hs1 s0 s1 (by omega)
    rw [e5, bnd_def, e6, bnd_def, e7, bnd_def] at h3
    refine ok_idxN hs (ok_bnd_eq ((Root_p _).trans e5) (ok_bnd_eq e6 (ok_bnd_eq e7 ?_)))
    refine ok_ite (fun hlt1 => ?_) (fun hlt1 => ?_)
    · rw [if_pos hlt1] at h3
      obtain ⟨e, he, _, _⟩ := ease_both (hone hlt1)
      rw [he, bnd_def] at h3
      have hE : noise_Ease_p r7 = some (e, 0) := by rw [Ease_eq (hone hlt1), he, bnd_def]
      refine ok_bnd_eq hE (ok_bnd_eq ((Mix_p _ _ _).trans h3) (ok_idxN hsk (ok_bnd_eq rfl (ok_some ?_))))
      rw [Int.toNat_natCast]
    · rw [if_neg hlt1] at h3
      exact ok_some (same (Option.some.inj h3).symm)
  · rintro s ⟨hl, hd, _⟩
    have hsv : s = vs := ext_get (by omega) fun k z hz => by
      have hk : k < vs.length := by
        rcases Nat.lt_or_ge k vs.length with h | h
        · exact h
        · rw [List.getElem?_eq_none h] at hz; cases hz
      rw [hd k (by omega), hz]
    subst hsv
    refine ok_bnd_eq (Result_eq _) (ok_some ?_)
    rfl
end
end Go.Proofs.Ythibohbaaljnkaa
