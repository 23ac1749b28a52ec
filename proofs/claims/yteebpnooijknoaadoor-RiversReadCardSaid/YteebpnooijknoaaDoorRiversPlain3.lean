/- Own text: texts of rivers: what ParseRivers gives. -/
import Derived.Test.YteebpnooijknoaaDoorRiversPlain2
import Derived.Lib.SplitLaws
namespace Go.Proofs.YteebpnooijknoaaDoor
open Go Sx
set_option linter.all false

theorem cut_spec (s : ByteArray) (hs : s.size ≤ 4194304) : ∃ r, cutP s (⟨#[10]⟩ : ByteArray) = some r ∧ (r.2.2 = true → bl s = bl r.1 ++ 10 :: bl r.2.1) ∧ r.1.size ≤ s.size := by
  refine ⟨_, by unfold cutP; rw [if_pos (by omega)], ?_, ?_⟩
  · intro hb
    simp only at hb ⊢
    unfold cutL Lib.cut at hb ⊢
    rcases Lib.index_spec s.data.toList [10] with ⟨h1, _⟩ | ⟨i, h1, h2, h3, _⟩
    · exfalso
      simp [h1] at hb
    · have hc := Lib.occAt_head (c := 10) (t := []) rfl h3
      have hi : i < s.data.toList.length := by
        rcases Nat.lt_or_ge i s.data.toList.length with hl | hl
        · exact hl
        · rw [List.getElem?_eq_none hl] at hc; cases hc
      have hx : s.data.toList[i] = 10 := by rw [List.getElem?_eq_getElem hi] at hc; exact Option.some.inj hc
      have h := List.take_append_drop i s.data.toList
      rw [List.drop_eq_getElem_cons hi, hx] at h
      have hne : ¬ ((i : Int) == -1) = true := by simp only [beq_iff_eq]; omega
      have e : ((i : Int)).toNat = i := by omega
      have hlen : (⟨#[10]⟩ : ByteArray).data.toList.length = 1 := rfl
      have hl : (⟨#[10]⟩ : ByteArray).data.toList = [10] := rfl
      simp only [hl, h1, hne, e, List.length_singleton] at hb ⊢
      unfold bl
      simpa using h.symm
  · have : (cutL s (⟨#[10]⟩ : ByteArray)).1.length ≤ s.data.toList.length := by
      unfold cutL Lib.cut
      split
      · simp only [List.length_take]; omega
      · exact Nat.le_refl _
    rw [Lib.size_eq, Lib.size_eq]
    simpa using this

abbrev Rd := S_api_River × S_api_Point × List Int
def qT (q : Rd) : List UInt8 := lineT q.1 q.2.1 q.2.2 ++ [10]
theorem count_lines : ∀ (qs : List Rd) (t : List UInt8), qs.length ≤ ((qs.map qT).flatten ++ t).count 10
  | [], t => Nat.zero_le _
  | q :: qs, t => by
    have ih := count_lines qs t
    simp only [List.map_cons, List.flatten_cons, List.append_assoc, List.count_append, List.length_cons] at ih ⊢
    have h1 : 1 ≤ (qT q).count 10 := by
      unfold qT
      rw [List.count_append]
      have : ([10] : List UInt8).count 10 = 1 := rfl
      omega
    omega

theorem ParseRivers_spec (text : ByteArray) : Ok (water_ParseRivers_p text) (fun r =>
    (r.2.2 = 0 ∧ r.2.1 = 0 ∧ ∃ qs : List Rd, r.1 = qs.map (·.1) ∧ (∀ q ∈ qs, RivOK q.1 q.2.1 q.2.2) ∧ bl text = (qs.map qT).flatten ∧ qs.length ≤ 65536 ∧ (∀ q ∈ qs, RivIn q.1 qs.length)) ∨
    (r.1 = [] ∧ r.2.2 = 9 ∧ 0 ≤ r.2.1 ∧ r.2.1 ≤ ((bl text).count 10 : Nat)) ∨
    (r.1 = [] ∧ r.2.1 = 0 ∧ (r.2.2 = 3 ∨ r.2.2 = 11 ∨ r.2.2 = 5 ∨ (r.2.2 = 4 ∧ 65536 ≤ text.size)))) := by
  unfold water_ParseRivers_p
  by_cases hbig : (text.size : Int) > 4194304
  · rw [if_pos (by simpa using hbig)]
    exact ok_some (.inr (.inr ⟨rfl, rfl, .inr (.inr (.inr ⟨rfl, by omega⟩))⟩))
  rw [if_neg (by simpa using hbig)]
  have hts : text.size ≤ 4194304 := by omega
  have size_qs : ∀ (qs : List Rd) (t : List UInt8), bl text = (qs.map qT).flatten ++ t → qs.length ≤ text.size := fun qs t h => by
    have h1 := count_lines qs t
    rw [← h] at h1
    have h2 := List.count_le_length (a := (10 : UInt8)) (l := bl text)
    rw [bl_size]; omega
  refine ok_bnd (ok_loopP (Q := fun x : Ctl (List S_api_River) ((List S_api_River) × Int × Int) => match x with | .go l => ∃ qs : List Rd, l = qs.map (·.1) ∧ (∀ q ∈ qs, RivOK q.1 q.2.1 q.2.2) ∧ bl text = (qs.map qT).flatten | .out r => r.1 = [] ∧ r.2.2 = 9 ∧ 0 ≤ r.2.1 ∧ r.2.1 ≤ ((bl text).count 10 : Nat))
    (fun s => ∃ qs : List Rd, s.2.2 = qs.map (·.1) ∧ s.2.1 = (qs.length : Int) ∧ (∀ q ∈ qs, RivOK q.1 q.2.1 q.2.2) ∧ bl text = (qs.map qT).flatten ++ bl s.1) (fun s => s.1.size) (Nat.lt_of_le_of_lt (show text.size ≤ 4194304 from hts) (by decide)) ⟨[], rfl, rfl, fun q h => (by cases h), rfl⟩ ?_) ?_
  · rintro ⟨t, i, l⟩ ⟨qs, j1, j2, j3, j4⟩
    simp only at j1 j2 j4
    subst j1; subst j2
    simp only
    have hq := size_qs qs _ j4
    have htl : t.size ≤ text.size := by rw [bl_size, bl_size, j4, List.length_append]; omega
    by_cases he : strEq t (⟨#[]⟩ : ByteArray) = true
    · rw [if_neg (by simp [he])]
      refine ok_some ⟨qs, rfl, j3, ?_⟩
      rw [j4, (strEq_bl _ _).1 he, bl_nil, List.append_nil]
    · rw [if_pos (by simpa using he)]
      obtain ⟨r, c1, c2, c3⟩ := cut_spec t (by omega)
      refine ok_bnd_eq c1 (ok_bnd (readRiver_spec r.1 (by omega)) (fun v hv => ?_))
      have hcount := count_lines qs (bl t)
      rw [← j4] at hcount
      refine ok_ite (fun _ => ok_some ⟨rfl, rfl, by simp, by simpa using hcount⟩) (fun hb => ?_)
      have hb : r.2.2 = true ∧ v.2 = true := by
        cases h1 : r.2.2 <;> cases h2 : v.2 <;> simp_all
      obtain ⟨p, ds, hr, hl⟩ := hv hb.2
      have hcut := c2 hb.1
      refine ok_bnd_eq (app_ok (by simp only [List.length_map, List.length_singleton]; omega)) (ok_some ?_)
      refine ⟨⟨qs ++ [(v.1, p, ds)], by simp, ?_, ?_, ?_⟩, ?_⟩
      · show addI (qs.length : Int) 1 = _
        rw [addI_eq (by omega)]; simp
      · intro q hq'
        rcases List.mem_append.1 hq' with h | h
        · exact j3 q h
        · obtain rfl : q = (v.1, p, ds) := by simpa using h
          exact hr
      · show bl text = ((qs ++ [(v.1, p, ds)]).map qT).flatten ++ bl r.2.1
        rw [j4, hcut, hl]
        simp [qT]
      · show r.2.1.size < t.size
        rw [bl_size, bl_size, hcut]
        simp only [List.length_append, List.length_cons]; omega
  · intro x hx
    cases x with
    | out e => exact ok_some (.inr (.inl hx))
    | go l =>
      obtain ⟨qs, rfl, k2, k3⟩ := hx
      have hq := size_qs qs [] (by rw [List.append_nil]; exact k3)
      refine ok_bnd (checkRivers_spec (l := qs.map (·.1)) (fun r hr => ?_)) (fun e he => ?_)
      · obtain ⟨q, hq', rfl⟩ := List.mem_map.1 hr
        exact ⟨q.2.1, q.2.2, k2 q hq'⟩
      · rw [List.length_map] at he
        rcases he with ⟨rfl, h1, h2⟩ | he
        · rw [if_neg (by decide)]
          exact ok_some (.inl ⟨rfl, rfl, qs, rfl, k2, k3, h1, fun q hq' => h2 q.1 (List.mem_map.2 ⟨q, hq', rfl⟩)⟩)
        · rw [if_pos (by simp only [bne_iff_ne]; omega)]
          refine ok_some (.inr (.inr ⟨rfl, rfl, ?_⟩))
          show e = 3 ∨ e = 11 ∨ e = 5 ∨ (e = 4 ∧ 65536 ≤ text.size)
          omega
end Go.Proofs.YteebpnooijknoaaDoor
