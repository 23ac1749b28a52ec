/- Own text: the program's reading of integers. -/
import Derived.Test.YteebpnooijknoaaDoorPlStr
import Derived.Test.YteebpnooijknoaaDoorPu
namespace Go.Proofs.YteebpnooijknoaaDoor
open Go Sx
set_option linter.all false

theorem bl_one (c : UInt8) : bl (⟨#[c]⟩ : ByteArray) = [c] := rfl
theorem bl_nil : bl (⟨#[]⟩ : ByteArray) = [] := rfl
theorem CutPrefix_one (s : ByteArray) (c : UInt8) : ∃ z b, strings_CutPrefix_p s (⟨#[c]⟩ : ByteArray) = some (z, b) ∧ ((b = true ∧ bl s = c :: bl z) ∨ (b = false ∧ z = s ∧ ∀ t, bl s ≠ c :: t)) := by
  unfold strings_CutPrefix_p internal_stringslite_CutPrefix_p internal_stringslite_HasPrefix_p
  have hz : ((⟨#[c]⟩ : ByteArray).size : Int) = ((1 : Nat) : Int) := rfl
  rw [hz]
  cases hs : bl s with
  | nil =>
    have h0 : s.size = 0 := by rw [bl_size, hs]; rfl
    rw [if_neg (by rw [h0]; decide)]
    exact ⟨s, false, rfl, .inr ⟨rfl, rfl, fun t ht => by cases ht⟩⟩
  | cons x t =>
    have h1 : 1 ≤ (bl s).length := by rw [hs]; simp
    rw [if_pos (by rw [bl_size]; simp only [decide_eq_true_eq]; omega)]
    obtain ⟨z, hz1, hz2⟩ := strSlc_head h1
    rw [hz1]
    simp only [bnd_def]
    rw [hs] at hz2
    by_cases hx : x = c
    · subst hx
      have he : strEq z (⟨#[x]⟩ : ByteArray) = true := by rw [strEq_bl, hz2]; rfl
      rw [he]
      obtain ⟨y, hy1, hy2⟩ := strSlc_ok h1
      simp only [Bool.not_true, Bool.false_eq_true, if_false]
      rw [hy1]
      refine ⟨y, true, rfl, .inl ⟨rfl, ?_⟩⟩
      rw [hy2, hs]; rfl
    · have he : strEq z (⟨#[c]⟩ : ByteArray) = false := by
        rw [strEq_false, hz2]
        intro h
        exact hx (by injection h)
      rw [he]
      refine ⟨s, false, rfl, .inr ⟨rfl, rfl, fun t' ht => hx (by injection ht)⟩⟩

theorem digits_spec (s : ByteArray) (hs : s.size ≤ 2 ^ 40) : Ok (field_digits_p s) (fun k => k = (s.size : Int) → ∀ c ∈ bl s, digB c) := by
  unfold field_digits_p
  refine ok_bnd (P := fun k => k = (s.size : Int) → ∀ c ∈ bl s, digB c) ?_ (fun x hx => ok_some hx)
  refine ok_loopP (fun i : Int => ∃ j : Nat, i = (j : Int) ∧ j ≤ s.size ∧ ∀ q c, q < j → (bl s)[q]? = some c → digB c) (fun i => s.size - i.toNat) (by omega) ⟨0, rfl, by omega, fun q c h => by omega⟩ ?_
  rintro i ⟨j, rfl, hj, hI⟩
  by_cases hlt : j < s.size
  · have hb : (bl s)[j]? = some ((bl s)[j]'(by rw [← bl_size]; exact hlt)) := List.getElem?_eq_getElem _
    generalize (bl s)[j]'(by rw [← bl_size]; exact hlt) = b at hb
    rw [if_pos (by simp only [decide_eq_true_eq]; omega), strIdx_ok hb]
    simp only [bnd_def]
    by_cases h1 : byteI b ≥ 48
    · rw [if_pos (by simpa using h1)]
      by_cases h2 : byteI b ≤ 57
      · have e : decide (byteI b ≤ 57) = true := by simpa using h2
        simp only [bnd_def, e, if_true]
        refine ok_some ⟨⟨j + 1, ?_, by omega, fun q c hq hc => ?_⟩, ?_⟩
        · rw [addI_eq (by omega)]; omega
        · rcases Nat.lt_or_ge q j with hlt' | hge
          · exact hI q c hlt' hc
          · have : q = j := by omega
            subst this
            rw [hb] at hc
            obtain rfl := Option.some.inj hc
            unfold byteI at h1 h2
            unfold digB; omega
        · rw [addI_eq (by omega)]; omega
      · have e : decide (byteI b ≤ 57) = false := by simpa using h2
        simp only [bnd_def, e, Bool.false_eq_true, if_false]
        exact ok_some (fun h => by omega)
    · rw [if_neg (by simpa using h1)]
      simp only [bnd_def, Bool.false_eq_true, if_false]
      exact ok_some (fun h => by omega)
  · rw [if_neg (by simp only [decide_eq_true_eq]; omega)]
    simp only [bnd_def, Bool.false_eq_true, if_false]
    refine ok_some (fun _ c hc => ?_)
    obtain ⟨q, hq, rfl⟩ := List.mem_iff_getElem.1 hc
    exact hI q _ (by rw [bl_size] at hlt; omega) (List.getElem?_eq_getElem hq)

/-- What is read as an integer is the numeral of what it gives. -/
theorem Integer_spec (s : ByteArray) (hs : s.size ≤ 2 ^ 40) : Ok (field_Integer_p s) (fun r => r.2 = true → Lib.itoa r.1 = bl s ∧ -9223372036854775808 ≤ r.1 ∧ r.1 ≤ 9223372036854775807) := by
  unfold field_Integer_p
  obtain ⟨z, neg, h1, h2⟩ := CutPrefix_one s 45
  refine ok_bnd_eq h1 ?_
  simp only
  have hzs : z.size ≤ 2 ^ 40 := by
    rcases h2 with ⟨_, h⟩ | ⟨_, h, _⟩
    · rw [bl_size] at hs ⊢; rw [h] at hs; simp at hs; omega
    · rw [h]; exact hs
  refine ok_bnd (P := fun c => c = false → ∃ x t, bl z = x :: t ∧ digB x ∧ (x.toNat ≠ 48 ∨ (t = [] ∧ neg = false))) ?_ ?_
  · by_cases he : strEq z (⟨#[]⟩ : ByteArray) = true
    · rw [if_pos he]; exact ok_some (fun h => by cases h)
    rw [if_neg he]
    have hne : bl z ≠ [] := by
      intro h; exact he ((strEq_bl _ _).2 (by rw [h]; rfl))
    obtain ⟨x, t, hx⟩ := List.exists_cons_of_ne_nil hne
    refine ok_bnd (digits_spec z hzs) (fun k hk => ?_)
    refine ok_ite (fun _ => ok_some (fun h => by cases h)) (fun hkz => ?_)
    have hkz : k = (z.size : Int) := by simpa using hkz
    have hdig := hk hkz
    have hdx : digB x := hdig x (by rw [hx]; exact List.mem_cons_self ..)
    have h0 : (bl z)[0]? = some x := by rw [hx]; rfl
    refine ok_bnd_eq (strIdx_ok (i := 0) h0) ?_
    refine ok_ite (fun h48 => ?_) (fun h48 => ok_some (fun _ => ⟨x, t, hx, hdx, .inl ?_⟩))
    · refine ok_ite (fun _ => ok_some (fun h => by cases h)) (fun hl => ok_some (fun hn => ⟨x, t, hx, hdx, .inr ⟨?_, hn⟩⟩))
      have hl : ¬ (z.size : Int) > 1 := by simpa using hl
      rw [bl_size, hx] at hl
      simp only [List.length_cons] at hl
      exact List.length_eq_zero_iff.1 (by omega)
    · intro h
      apply h48
      unfold byteI
      rw [h]; rfl
  · intro c hc
    refine ok_ite (fun _ => ok_some (fun h => by cases h)) (fun hcf => ?_)
    have hcf : c = false := by simpa using hcf
    obtain ⟨x, t, hx, hd, hz⟩ := hc hcf
    have ha : atoiP s = some (atoiE (bl s)) := by unfold atoiP; rw [if_pos (by omega)]; rfl
    refine ok_bnd_eq ha (ok_some (fun hok => ?_))
    have hall := atoiE_true hok rfl
    refine ⟨?_, Lib.atoiAll_bounds hall⟩
    rcases h2 with ⟨hn, h⟩ | ⟨hn, h, _⟩
    · rw [h, hx] at hall ⊢
      have hz' : x.toNat ≠ 48 := by
        rcases hz with hz | ⟨_, hz⟩
        · exact hz
        · rw [hn] at hz; cases hz
      exact atoi_canon_neg hd hz' hall
    · subst h
      rw [hx] at hall ⊢
      refine (atoi_canon_pos hd ?_ hall).1
      rcases hz with hz | ⟨hz, _⟩
      · exact .inl hz
      · exact .inr hz

end Go.Proofs.YteebpnooijknoaaDoor
