/- Own text: BedsMatch: the plain law. -/
import Derived.Test.YthibohbaaljnkaaBedsPlain2
namespace Go.Proofs.Ythibohbaaljnkaa
open Sx
set_option linter.all false

theorem leads_eqB : tarnlaw2_leads_p = some true := by kernel_rfl
/-- The document's fit. -/
theorem fit_ref {how : Int} (hhow : how = 1 ∨ how = 2) {i j : Nat} {l g d : Nat} {s s' : List Nat} (hd : fmul .f32 g l = some d) (hs : fitS how s i j d = some s') : tarnref2_BedOf_1_p (i : Int) (j : Int) l g how s = some s' := keyOk (by
  unfold tarnref2_BedOf_1_p
  unfold fitS at hs
  obtain ⟨a, ha, hs⟩ := bnd_some hs
  obtain ⟨b, hb, hs⟩ := bnd_some hs
  refine ok_bnd_eq hd ?_
  rcases hhow with rfl | rfl
  · rw [if_pos rfl] at hs
    obtain ⟨v, hv, hs⟩ := bnd_some hs
    have hs := Option.some.inj hs
    refine ok_bnd (P := fun c => c = fgt .f32 v b) ?_ ?_
    · rw [if_pos (by decide)]
      exact ok_idxN ha (ok_idxN ha (ok_bnd_eq hv (ok_idxN hb (ok_idxN hb (ok_some rfl)))))
    · rintro c rfl
      refine ok_bnd (P := fun x => x = s') ?_ ?_
      · refine ok_ite (fun hc => ?_) (fun hc => ?_)
        · rw [if_pos hc] at hs
          refine ok_idxN ha (ok_bnd_eq hv (ok_idxN hb (ok_bnd_eq rfl (ok_some ?_))))
          rw [Int.toNat_natCast]; exact hs
        · rw [if_neg hc] at hs
          exact ok_some hs
      · rintro x rfl
        rw [if_neg (by decide)]
        refine ok_bnd_eq rfl ?_
        rw [if_neg (by decide)]
        exact ok_some rfl
  · rw [if_neg (by decide)] at hs
    obtain ⟨v, hv, hs⟩ := bnd_some hs
    have hs := Option.some.inj hs
    rw [if_neg (by decide)]
    refine ok_bnd_eq rfl ?_
    rw [if_neg (by decide)]
    refine ok_bnd_eq rfl ?_
    refine ok_bnd (P := fun c => c = flt .f32 v b) ?_ ?_
    · rw [if_pos (by decide)]
      exact ok_idxN ha (ok_idxN ha (ok_bnd_eq hv (ok_idxN hb (ok_idxN hb (ok_some rfl)))))
    · rintro c rfl
      refine ok_ite (fun hc => ?_) (fun hc => ?_)
      · rw [if_pos hc] at hs
        refine ok_idxN ha (ok_bnd_eq hv (ok_idxN hb (ok_bnd_eq rfl (ok_some ?_))))
        rw [Int.toNat_natCast]; exact hs
      · rw [if_neg hc] at hs
        exact ok_some hs)

section
variable {f : S_api_Field} {way : List S_api_Point}

/-- The document's bed, of one kind. -/
theorem BedOf_one {how : Int} (hhow : how = 1 ∨ how = 2) {g : Nat} {ls hs ds : List Nat} (hle : hs.length ≤ 65536) (hll : ls.length + 1 = hs.length) (hdl : ds.length = ls.length) (hds : ∀ i l d : Nat, ls[i]? = some l → ds[i]? = some d → fmul .f32 g l = some d) (hd : ∀ d ∈ ds, Bd d 0 32768) (hh : ∀ v ∈ hs, hgtB v = true)
    (el : tarnref2_Lengths_p way = some ls) (eh : tarnref2_Values_v1_p f way = some hs) {s : List Nat} (hb : bedS how ds hs = some s) : tarnref2_BedOf_p f way how g = some s ∧ tarnref2_BedOf_v1_p f way how g = some s ∧ tarnref2_BedOf_v4_p f way how g = some s := by
  have hn3 : ¬ (how == 3) = true := by rcases hhow with rfl | rfl <;> decide
  have gh : Good (ds.length + 1) hs := ⟨by omega, hh⟩
  refine ⟨?_, ?_, ?_⟩
  all_goals
    exact keyOk (by
      first | unfold tarnref2_BedOf_p | unfold tarnref2_BedOf_v1_p | unfold tarnref2_BedOf_v4_p
      refine ok_bnd_eq el ?_
      rw [if_neg hn3]
      refine ok_bnd_eq eh ?_
      unfold bedS at hb
      obtain ⟨s1, hp1, hb2⟩ := bnd_some hb
      refine ok_bnd (ok_loopP (fun x : Int × List Nat => ∃ k : Nat, k ≤ ds.length ∧ x.1 = (k : Int) + 1 ∧ pass1 how ds hs k = some x.2) (fun x => (hs.length - x.1).toNat) (Q := fun x => x = s1) (by simp only; omega) ⟨0, by omega, rfl, rfl⟩ ?_) ?_
      · rintro ⟨i, x⟩ ⟨k, hk, hi, hp⟩
        simp only at hi hp ⊢
        refine ok_ite (fun hc => ?_) (fun hc => ?_)
        · have hc : i < (hs.length : Int) := by simpa using hc
          obtain ⟨s', h1, _⟩ := pass1_ok (how := how) hd gh (k + 1) (by omega)
          have h2 := h1
          unfold pass1 at h2
          rw [hp, bnd_def] at h2
          obtain ⟨d, hdk, h2⟩ := bnd_some h2
          obtain ⟨l, hlk⟩ := get_ex (l := ls) (i := k) (by omega)
          rw [subI_eq (by omega), addI_eq (by omega), show i - 1 = (k : Int) by omega, show i = ((k + 1 : Nat) : Int) by omega]
          refine ok_idxN hlk (ok_bnd_eq (fit_ref hhow (hds k l d hlk hdk) h2) (ok_some ?_))
          exact ⟨⟨k + 1, by omega, by omega, h1⟩, by omega⟩
        · have hc : ¬ i < (hs.length : Int) := by simpa using hc
          have : k = ds.length := by omega
          subst this
          rw [hp1] at hp
          exact ok_some (Option.some.inj hp).symm
      · rintro x rfl
        obtain ⟨x0, h0, g1⟩ := pass1_ok (how := how) hd gh ds.length (Nat.le_refl _)
        rw [hp1] at h0
        obtain rfl := Option.some.inj h0
        rw [subI_eq (by omega)]
        refine ok_bnd (ok_loopP (fun y : Int × List Nat => ∃ j : Nat, j ≤ ds.length ∧ y.1 = (ds.length : Int) - 1 - j ∧ pass2 how ds x j = some y.2) (fun y => (y.1 + 1).toNat) (Q := fun y => y = s) (by simp only; omega) ⟨0, by omega, by simp; omega, rfl⟩ ?_) (fun y hy => ok_some hy)
        rintro ⟨i, y⟩ ⟨j, hj, hi, hp⟩
        simp only at hi hp ⊢
        refine ok_ite (fun hc => ?_) (fun hc => ?_)
        · have hc : i ≥ 0 := by simpa using hc
          obtain ⟨s', h1, _⟩ := pass2_ok (how := how) hd g1 (j + 1) (by omega)
          have h2 := h1
          unfold pass2 at h2
          rw [hp, bnd_def] at h2
          obtain ⟨d, hdk, h2⟩ := bnd_some h2
          obtain ⟨l, hlk⟩ := get_ex (l := ls) (i := ds.length - 1 - j) (by omega)
          rw [subI_eq (by omega), addI_eq (by omega), show i + 1 = ((ds.length - j : Nat) : Int) by omega, show i - 1 = (ds.length : Int) - 1 - ((j + 1 : Nat) : Int) by omega, show i = ((ds.length - 1 - j : Nat) : Int) by omega]
          refine ok_idxN hlk (ok_bnd_eq (fit_ref hhow (hds _ l d hlk hdk) h2) (ok_some ?_))
          exact ⟨⟨j + 1, by omega, rfl, h1⟩, by omega⟩
        · have hc : ¬ i ≥ 0 := by simpa using hc
          have : j = ds.length := by omega
          subst this
          rw [hb2] at hp
          exact ok_some (Option.some.inj hp).symm)

/-- The mean of two beds, in place of the first. -/
theorem half_ok {a b : Nat} (ha : hgtB a = true) (hb : hgtB b = true) : ∃ c z, fadd .f32 a b = some c ∧ fmul .f32 c 1056964608 = some z ∧ Bd z (-2097152) 2097152 := by
  have ga := hgtB_iff.1 ha
  have gb := hgtB_iff.1 hb
  have bh : Bd 1056964608 0 1 := by
    have hf : Fi 1056964608 := by unfold Fi Fl.Fin; decide +kernel
    have h1 : 0 * U32 ≤ W 1056964608 := by decide +kernel
    have h2 : W 1056964608 ≤ 1 * U32 := by decide +kernel
    exact ⟨hf, h1, h2⟩
  obtain ⟨c, hc, bc⟩ := bd_add ga gb (rp (n := -2097152) (by decide)) (rp (n := 2097152) (by decide)) (by decide) (by decide)
  obtain ⟨z, hz, bz⟩ := bd_mul (b := 2097152) (d := 1) bc (bh.wide (by decide) (by decide)) (rp (n := -2097152) (by decide)) (rp (n := 2097152) (by decide)) (by decide)
  exact ⟨c, z, hc, hz, bz⟩
end
end Go.Proofs.Ythibohbaaljnkaa
