/- Own text: any text is read as what is printed so, or refused. -/
import Derived.Test.YtlngccfplnbeiaaGreatDoorWaysPlain
namespace Go.Proofs.YtlngccfplnbeiaaGreatDoor
open Go Sx
set_option linter.all false

theorem piece_size {l : List ByteArray} {s : ByteArray} (h : joinSp (l.map bl) = bl s) {x : ByteArray} (hx : x ∈ l) : x.size ≤ s.size := by
  have key : ∀ (l : List (List UInt8)) (x : List UInt8), x ∈ l → x.length ≤ (joinSp l).length := by
    intro l x hx
    cases l with
    | nil => cases hx
    | cons y l =>
      unfold joinSp
      rw [List.length_append]
      rcases List.mem_cons.1 hx with rfl | hx
      · omega
      · have : ∀ l : List (List UInt8), x ∈ l → x.length ≤ ((l.map fun p => (32 : UInt8) :: p).flatten).length := by
          intro l
          induction l with
          | nil => intro h; cases h
          | cons z l ih =>
            intro h
            simp only [List.map_cons, List.flatten_cons, List.length_append, List.length_cons]
            rcases List.mem_cons.1 h with rfl | h
            · omega
            · have := ih h; omega
        have := this l hx
        omega
  rw [bl_size, bl_size, ← h]
  exact key _ _ (List.mem_map.2 ⟨x, hx, rfl⟩)

theorem Parse_spec (text : ByteArray) : Ok (road_Parse_p text) (fun r =>
    (r.2 = 0 ∧ ∃ p steps, r.1 = trail p steps ∧ (∀ st ∈ steps, StOK st) ∧ (∀ q ∈ trail p steps, PtOK q) ∧ (trail p steps).length ≤ 65536 ∧ bl text = wayT p steps) ∨
    (r.1 = [] ∧ (r.2 = 9 ∨ r.2 = 5 ∨ (r.2 = 4 ∧ 65536 ≤ text.size)))) := by
  unfold road_Parse_p
  by_cases hbig : (text.size : Int) > 4194304
  · rw [if_pos (by simpa using hbig)]
    exact ok_some (.inr ⟨rfl, .inr (.inr ⟨rfl, by omega⟩)⟩)
  rw [if_neg (by simpa using hbig)]
  have hts : text.size ≤ 4194304 := by omega
  obtain ⟨ws, h1, h2, h3, h4⟩ := split_sp hts
  refine ok_bnd_eq h1 ?_
  refine ok_ite (fun _ => ok_some (.inr ⟨rfl, .inl rfl⟩)) (fun hlen => ?_)
  have hlen : ¬ (ws.length : Int) < 2 := by simpa using hlen
  cases ws with
  | nil => exact absurd rfl h3
  | cons w0 ws =>
  cases ws with
  | nil => simp at hlen
  | cons w1 rest =>
  have hsz : ∀ x ∈ w0 :: w1 :: rest, x.size ≤ 2 ^ 40 := fun x hx => by have := piece_size h2 hx; omega
  refine ok_idx (x := w0) (by omega) rfl ?_
  refine ok_bnd (Integer_spec w0 (hsz w0 (by simp))) (fun x hx => ?_)
  refine ok_idx (x := w1) (by omega) rfl ?_
  refine ok_bnd (Integer_spec w1 (hsz w1 (by simp))) (fun y hy => ?_)
  refine ok_ite (fun _ => ok_some (.inr ⟨rfl, .inl rfl⟩)) (fun hxy => ?_)
  have hxy' : x.2 = true ∧ y.2 = true := by
    cases hx2 : x.2 <;> cases hy2 : y.2 <;> simp_all
  obtain ⟨kx, _, _⟩ := hx hxy'.1
  obtain ⟨ky, _, _⟩ := hy hxy'.2
  have hslc : slc (w0 :: w1 :: rest) 2 ((w0 :: w1 :: rest).length : Int) = some rest := by
    unfold slc
    rw [if_pos ⟨by omega, by simp only [List.length_cons]; omega, by omega⟩]
    have e : (((w0 :: w1 :: rest).length : Int)).toNat = (w0 :: w1 :: rest).length := by omega
    rw [e, List.take_length]; rfl
  refine ok_bnd_eq hslc ?_
  have hrl : rest.length ≤ text.size := by simp only [List.length_cons] at h4; omega
  refine ok_bnd (ok_forI (fun k s => ∃ steps : List (Int × Int), steps.length = k ∧ (∀ st ∈ steps, StOK st) ∧ s.1 = trail ⟨x.1, y.1⟩ steps ∧ s.2.1 = (endP ⟨x.1, y.1⟩ steps).X ∧ s.2.2 = (endP ⟨x.1, y.1⟩ steps).Y ∧ (rest.take k).map bl = steps.map fun st => stepT st.1 st.2) (fun e => e = ([], 9))
    ⟨[], rfl, fun st h => (by cases h), rfl, rfl, rfl, rfl⟩ ?_) ?_
  · rintro k ⟨o, px, py⟩ hk ⟨steps, q1, q2, q3, q4, q5, q6⟩
    simp only at q3 q4 q5
    have hw : rest[k]? = some rest[k] := List.getElem?_eq_getElem hk
    have hws := hsz rest[k] (by simp [List.getElem_mem])
    have htake : rest.take (k + 1) = rest.take k ++ [rest[k]] := by rw [List.take_succ, hw]; rfl
    refine ok_idxN hw ?_
    generalize rest[k] = w at hw hws htake
    refine ok_bnd (readStep_spec w hws) (fun r hr => ?_)
    refine ok_ite (fun _ => ok_some rfl) (fun hr2 => ?_)
    obtain ⟨r1, r2, r3, r4, r5⟩ := hr (by simpa using hr2)
    refine ok_bnd_eq (tw_eq ⟨r1, r2⟩) ?_
    have hol : o.length = k + 1 := by rw [q3, trail_len, q1]
    refine ok_bnd_eq (app_ok (by rw [hol]; simp only [List.length_singleton]; omega)) (ok_some ?_)
    refine ⟨steps ++ [(r.1, r.2.1)], by simp [q1], fun st hst => ?_, ?_, ?_, ?_, ?_⟩
    · rcases List.mem_append.1 hst with h | h
      · exact q2 st h
      · obtain rfl : st = (r.1, r.2.1) := by simpa using h
        exact ⟨r1, r2, r3, r4⟩
    · show o ++ [_] = _
      rw [trail_snoc, q3, q4, q5]; rfl
    · rw [endP_snoc, q4]; rfl
    · rw [endP_snoc, q5]; rfl
    · rw [htake, List.map_append, q6, List.map_append]
      simp [r5]
  · intro c hc
    cases c with
    | out e => rw [show e = ([], 9) from hc]; exact ok_some (.inr ⟨rfl, .inl rfl⟩)
    | go s =>
      obtain ⟨steps, q1, q2, q3, _, _, q6⟩ := hc
      rw [List.take_length] at q6
      refine ok_bnd (P := fun e => (e = 0 ∧ (∀ q ∈ trail ⟨x.1, y.1⟩ steps, PtOK q) ∧ (trail ⟨x.1, y.1⟩ steps).length ≤ 65536) ∨ e = 5 ∨ (e = 4 ∧ 65536 < (trail ⟨x.1, y.1⟩ steps).length)) ?_ ?_
      · rw [q3]; exact checkWay_trail _ steps q2
      intro e he
      rcases he with ⟨rfl, he1, he2⟩ | rfl | ⟨rfl, he1⟩
      · rw [if_neg (by decide)]
        refine ok_some (.inl ⟨rfl, ⟨x.1, y.1⟩, steps, q3, q2, he1, he2, ?_⟩)
        rw [← h2]
        unfold joinSp wayT
        simp only [List.map_cons, List.flatten_cons]
        rw [kx, ky, q6, List.map_map]
        simp [Function.comp_def]
      · rw [if_pos (by decide)]
        exact ok_some (.inr ⟨rfl, .inr (.inl rfl)⟩)
      · rw [if_pos (by decide)]
        rw [trail_len, q1] at he1
        exact ok_some (.inr ⟨rfl, .inr (.inr ⟨rfl, by omega⟩)⟩)

theorem leads_eq : tarnlaw2_leads_p = some true := by kernel_rfl

theorem WaysRead.plain (text : ByteArray) (h : InStr text) : tarnlaw2_WaysRead_p text = some true := by
  have key : Ok (tarnlaw2_WaysRead_p text) (fun b => b = true) := by
    unfold tarnlaw2_WaysRead_p
    refine ok_bnd (Parse_spec text) (fun r hr => ?_)
    rw [leads_eq]
    simp only [bnd_def, Bool.not_true, Bool.false_eq_true, if_false]
    by_cases hbig : (text.size : Int) > 10000
    · rw [if_pos (by simpa using hbig)]; exact ok_some rfl
    rw [if_neg (by simpa using hbig)]
    rcases hr with ⟨h0, p, steps, e1, hs, hp, hl, ht⟩ | ⟨h0, hc⟩
    · rw [if_pos (by rw [h0]; rfl), e1, WayError_trail p steps hs hp hl]
      simp only [bnd_def, beq_self_eq_true, if_true]
      refine ok_bnd (P := fun b => b = true) ?_ (fun b hb => ok_some hb)
      refine ok_bnd (wayText_trail p steps hs hp hl) (fun s hs => ok_some ?_)
      rw [strEq_bl, hs, ht]
    · have h9 : r.2 = 9 ∨ r.2 = 5 := by
        rcases hc with hc | hc | ⟨_, hc⟩
        · exact .inl hc
        · exact .inr hc
        · omega
      rw [if_neg (by simp only [beq_iff_eq]; omega), h0]
      rcases h9 with h9 | h9 <;> (rw [h9]; exact ok_some rfl)
  obtain ⟨b, h1, rfl⟩ := key
  exact h1
end Go.Proofs.YtlngccfplnbeiaaGreatDoor
