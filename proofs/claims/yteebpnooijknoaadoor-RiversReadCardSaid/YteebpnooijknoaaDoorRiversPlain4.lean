/- Own text: any text is read as what is printed so, or refused. -/
import Derived.Test.YteebpnooijknoaaDoorRiversPlain3
namespace Go.Proofs.YteebpnooijknoaaDoor
open Go Sx
set_option linter.all false

theorem RiverError_zero {qs : List Rd} (h1 : ∀ q ∈ qs, RivOK q.1 q.2.1 q.2.2) (h2 : ∀ q ∈ qs, RivIn q.1 qs.length) (hl : qs.length ≤ 65536) : tarnref2_RiverError_p (qs.map (·.1)) = some 0 := by
  have key : Ok (tarnref2_RiverError_p (qs.map (·.1))) (fun e => e = 0) := by
    unfold tarnref2_RiverError_p
    rw [List.length_map, if_neg (by simp only [decide_eq_true_eq]; omega)]
    refine ok_bnd (ok_forI (fun _ _ => True) (fun _ => False) trivial ?_) ?_
    · intro k u hk _
      have hq : (qs.map (·.1))[k]? = some qs[k].1 := by rw [List.getElem?_map, List.getElem?_eq_getElem hk]; rfl
      refine ok_idxN hq ?_
      have hr := h1 _ (List.getElem_mem hk)
      have hi := h2 _ (List.getElem_mem hk)
      generalize qs[k] = q at hr hi
      obtain ⟨r, p, ds⟩ := q
      simp only at hr hi
      have hlen : r.Points.length = ds.length + 1 := by rw [hr.pts, trail_len]
      have hmany := hr.many
      obtain ⟨a0, a1, o0, o1, i0, i1, pt⟩ := hi
      simp only
      rw [if_neg (by simp only [beq_iff_eq]; omega), if_neg (by simp only [Bool.or_eq_true, decide_eq_true_eq]; omega), if_neg (by simp only [Bool.or_eq_true, decide_eq_true_eq]; omega)]
      refine ok_bnd (ok_forI (fun _ _ => True) (fun _ => False) trivial ?_) ?_
      · intro j u hj _
        have hb : r.Points[j]? = some r.Points[j] := List.getElem?_eq_getElem hj
        have hp := pt _ (List.getElem_mem hj)
        refine ok_idxN hb ?_
        unfold PtOK at hp
        rw [if_neg (by simp only [Bool.or_eq_true, decide_eq_true_eq]; omega)]
        exact ok_some trivial
      · intro c hc
        cases c with
        | out e => exact absurd hc (fun h => h)
        | go u =>
          refine ok_bnd (ok_forI (fun _ _ => True) (fun _ => False) trivial ?_) ?_
          · intro j u hj _
            have hb : r.Points[j]? = some r.Points[j] := List.getElem?_eq_getElem hj
            refine ok_idxN hb ?_
            refine ok_bnd (P := fun c => c = false) ?_ (fun c hc => by rw [hc, if_neg (by decide)]; exact ok_some trivial)
            by_cases hj0 : j = 0
            · subst hj0; rw [if_neg (by decide)]; exact ok_some rfl
            · rw [if_pos (by simp only [decide_eq_true_eq]; omega), subI_eq (by omega), show (j : Int) - 1 = ((j - 1 : Nat) : Int) by omega]
              have hd : ds[j - 1]? = some (ds[j - 1]'(by omega)) := List.getElem?_eq_getElem _
              have hok := hr.dirs _ (List.getElem_mem (l := ds) (n := j - 1) (by omega))
              generalize ds[j - 1]'(by omega) = d at hd hok
              obtain ⟨a, e1, e2⟩ := trail_step ds p (j - 1) d hd
              rw [← hr.pts] at e1 e2
              rw [show j - 1 + 1 = j by omega, hb] at e2
              refine ok_idxN e1 ?_
              rw [Option.some.inj e2, refDirection_mv (pt a (List.mem_of_getElem? e1)) hok, bnd_def]
              unfold DirOK at hok
              refine ok_some ?_
              simp only [decide_eq_false_iff_not]; omega
          · intro c hc
            cases c with
            | out e => exact absurd hc (fun h => h)
            | go u => exact ok_some trivial
    · intro c hc
      cases c with
      | out e => exact absurd hc (fun h => h)
      | go u => exact ok_some rfl
  obtain ⟨e, e1, rfl⟩ := key
  exact e1

theorem itoaP_ok {n : Int} (h : InI n) : itoaP n = some (itoaB n) := by unfold itoaP; exact if_pos h
theorem bl_itoaB (n : Int) : bl (itoaB n) = Lib.itoa n := rfl
theorem itoa_le {n : Int} (h : InI n) : (Lib.itoa n).length ≤ 21 := Lib.itoa_length_le n h.1 h.2
theorem bl_river : bl (⟨#[114, 105, 118, 101, 114, 32]⟩ : ByteArray) = [114, 105, 118, 101, 114, 32] := rfl

theorem riverText_spec {qs : List Rd} (h1 : ∀ q ∈ qs, RivOK q.1 q.2.1 q.2.2) (h2 : ∀ q ∈ qs, RivIn q.1 qs.length) (hl : qs.length ≤ 65536) : Ok (tarnlaw2_riverText_p (qs.map (·.1))) (fun s => bl s = (qs.map qT).flatten) := by
  unfold tarnlaw2_riverText_p
  rw [List.length_map]
  refine ok_bnd (ok_forS (fun k s => bl s = ((qs.take k).map qT).flatten ∧ (bl s).length ≤ k * 100000000) ⟨rfl, by simp [bl_nil]⟩ ?_) (fun s hs => ok_some (by rw [hs.1, List.take_length]))
  rintro k s hk ⟨hs, hsl⟩
  have hqk : qs[k]? = some qs[k] := List.getElem?_eq_getElem hk
  have hq : (qs.map (·.1))[k]? = some qs[k].1 := by rw [List.getElem?_map, hqk]; rfl
  have htake : qs.take (k + 1) = qs.take k ++ [qs[k]] := by rw [List.take_succ, hqk]; rfl
  refine ok_idxN hq ?_
  have hr := h1 _ (List.getElem_mem hk)
  have hi := h2 _ (List.getElem_mem hk)
  generalize qs[k] = q at hr hi htake
  obtain ⟨r, p, ds⟩ := q
  simp only at hr hi
  have hlen : r.Points.length = ds.length + 1 := by rw [hr.pts, trail_len]
  have hpt := hi.pt
  simp only
  have hmany := hr.many
  have la := itoa_le hr.am
  have lo := itoa_le hr.od
  have li := itoa_le hr.it
  have lx := itoa_le hr.px
  have ly := itoa_le hr.py
  refine ok_idx (x := p) (by omega) (by rw [hr.pts]; exact trail_head ds p) ?_
  have sz : ∀ {a b : ByteArray}, (bl a).length + (bl b).length ≤ 10000000000000 → strAdd a b = some (a ++ b) := fun h => strAdd_ok (by omega)
  refine ok_bnd_eq (itoaP_ok hr.am) (ok_bnd_eq (sz (by simp only [bl_app, bl_itoaB, bl_river, bl_one, List.length_append, List.length_cons, List.length_nil]; omega)) ?_)
  refine ok_bnd_eq (sz (by simp only [bl_app, bl_itoaB, bl_river, bl_one, List.length_append, List.length_cons, List.length_nil]; omega)) ?_
  refine ok_bnd_eq (itoaP_ok hr.od) (ok_bnd_eq (sz (by simp only [bl_app, bl_itoaB, bl_river, bl_one, List.length_append, List.length_cons, List.length_nil]; omega)) ?_)
  refine ok_bnd_eq (sz (by simp only [bl_app, bl_itoaB, bl_river, bl_one, List.length_append, List.length_cons, List.length_nil]; omega)) ?_
  refine ok_bnd_eq (itoaP_ok hr.it) (ok_bnd_eq (sz (by simp only [bl_app, bl_itoaB, bl_river, bl_one, List.length_append, List.length_cons, List.length_nil]; omega)) ?_)
  refine ok_bnd_eq (sz (by simp only [bl_app, bl_itoaB, bl_river, bl_one, List.length_append, List.length_cons, List.length_nil]; omega)) ?_
  refine ok_bnd_eq (itoaP_ok hr.px) (ok_bnd_eq (sz (by simp only [bl_app, bl_itoaB, bl_river, bl_one, List.length_append, List.length_cons, List.length_nil]; omega)) ?_)
  refine ok_bnd_eq (sz (by simp only [bl_app, bl_itoaB, bl_river, bl_one, List.length_append, List.length_cons, List.length_nil]; omega)) ?_
  refine ok_bnd_eq (itoaP_ok hr.py) (ok_bnd_eq (sz (by simp only [bl_app, bl_itoaB, bl_river, bl_one, List.length_append, List.length_cons, List.length_nil]; omega)) ?_)
  refine ok_bnd_eq (sz (by simp only [bl_app, bl_itoaB, bl_river, bl_one, List.length_append, List.length_cons, List.length_nil]; omega)) ?_
  refine ok_bnd_eq (sz (by simp only [bl_app, bl_itoaB, bl_river, bl_one, List.length_append, List.length_cons, List.length_nil]; omega)) ?_
  refine ok_bnd_eq (slc_one (by omega)) ?_
  generalize hZ : s ++ _ = Z
  have hz : bl Z = bl s ++ ([114, 105, 118, 101, 114] ++ (32 :: Lib.itoa r.Amount ++ (32 :: Lib.itoa r.Order ++ (32 :: Lib.itoa r.Into ++ (32 :: Lib.itoa p.X ++ (32 :: Lib.itoa p.Y ++ [32])))))) := by
    rw [← hZ]
    simp only [bl_app, bl_itoaB, bl_river, bl_one]
    simp
  have hzl : (bl Z).length ≤ (bl s).length + 300 := by
    rw [hz]; simp only [List.length_append, List.length_cons, List.length_nil]; omega
  refine ok_bnd (ok_forS (fun j z => bl z = bl Z ++ ((ds.take j).map Lib.itoa).flatten ∧ (bl z).length ≤ (bl Z).length + 21 * j) ⟨by simp, by simp⟩ ?_) ?_
  · rintro j z hj ⟨g1, g2⟩
    rw [List.length_drop] at hj
    have hd : ds[j]? = some (ds[j]'(by omega)) := List.getElem?_eq_getElem _
    have hok := hr.dirs _ (List.getElem_mem (l := ds) (n := j) (by omega))
    have hdt : ds.take (j + 1) = ds.take j ++ [ds[j]'(by omega)] := by rw [List.take_succ, hd]; rfl
    generalize ds[j]'(by omega) = d at hd hok hdt
    obtain ⟨a, e1, e2⟩ := trail_step ds p j d hd
    rw [← hr.pts] at e1 e2
    refine ok_idxN e1 ?_
    rw [addI_eq (by omega), show (j : Int) + 1 = ((j + 1 : Nat) : Int) by omega]
    refine ok_idxN e2 ?_
    rw [refDirection_mv (hpt a (List.mem_of_getElem? e1)) hok, bnd_def]
    have hid : InI d := by unfold DirOK at hok; exact ⟨by omega, by omega⟩
    have ld := itoa_le hid
    refine ok_bnd_eq (itoaP_ok hid) (ok_bnd_eq (sz (by rw [bl_itoaB]; omega)) (ok_some ⟨?_, ?_⟩))
    · rw [bl_app, bl_itoaB, g1, hdt]; simp
    · rw [bl_app, bl_itoaB, List.length_append]; omega
  · rintro z ⟨g1, g2⟩
    rw [List.length_drop] at g1 g2
    rw [List.take_of_length_le (by omega)] at g1
    refine ok_bnd (P := fun y => bl y = bl Z ++ dirsT ds ∧ (bl y).length ≤ (bl Z).length + 21 * ds.length + 1) ?_ ?_
    · by_cases hds : ds = []
      · rw [if_pos (by rw [hlen, hds]; rfl)]
        refine ok_bnd_eq (sz (by rw [bl_one]; simp only [List.length_singleton]; omega)) (ok_some ⟨?_, ?_⟩)
        · rw [bl_app, bl_one, g1, hds]; simp [dirsT]
        · rw [bl_app, bl_one, List.length_append, List.length_singleton]; omega
      · rw [if_neg (by
          have : ds.length ≠ 0 := fun h => hds (List.length_eq_zero_iff.1 h)
          simp only [beq_iff_eq]; omega)]
        refine ok_some ⟨?_, by omega⟩
        rw [g1]; unfold dirsT; rw [if_neg hds]
    · rintro y ⟨y1, y2⟩
      refine ok_bnd_eq (sz (by rw [bl_one]; simp only [List.length_singleton]; omega)) (ok_some ⟨?_, ?_⟩)
      · rw [bl_app, bl_one, y1, htake, hz, hs]
        simp [qT, lineT]
      · rw [bl_app, bl_one, List.length_append, List.length_singleton]; omega

theorem flows_eq : tarnlaw2_flows_p = some true := by kernel_rfl
theorem contains3 : slices_Contains_api_Errno_api_Errno_p [3, 11, 5] 3 = some true := by kernel_rfl
theorem contains11 : slices_Contains_api_Errno_api_Errno_p [3, 11, 5] 11 = some true := by kernel_rfl
theorem contains5 : slices_Contains_api_Errno_api_Errno_p [3, 11, 5] 5 = some true := by kernel_rfl

theorem RiversRead.plain (text : ByteArray) (h : InStr text) : tarnlaw2_RiversRead_p text = some true := by
  have key : Ok (tarnlaw2_RiversRead_p text) (fun b => b = true) := by
    unfold tarnlaw2_RiversRead_p
    refine ok_bnd (ParseRivers_spec text) (fun r hr => ?_)
    rw [flows_eq]
    simp only [bnd_def, Bool.not_true, Bool.false_eq_true, if_false]
    by_cases hbig : (text.size : Int) > 10000
    · rw [if_pos (by simpa using hbig)]; exact ok_some rfl
    rw [if_neg (by simpa using hbig)]
    obtain ⟨l, at0, e⟩ := r
    simp only at hr ⊢
    rcases hr with ⟨rfl, rfl, qs, rfl, hOK, ht, hl, hIn⟩ | ⟨rfl, rfl, h0, h1⟩ | ⟨rfl, rfl, he⟩
    · simp only [beq_self_eq_true, if_true]
      rw [RiverError_zero hOK hIn hl]
      simp only [bnd_def, beq_self_eq_true, if_true]
      refine ok_bnd (P := fun b => b = true) (ok_bnd (riverText_spec hOK hIn hl) (fun s hs => ok_some ?_)) (fun b hb => ok_some hb)
      rw [strEq_bl, hs, ht]
    · rw [if_neg (by decide)]
      have hc : countP text (⟨#[10]⟩ : ByteArray) = some (((bl text).count 10 : Nat) : Int) := by
        unfold countP
        rw [if_pos ⟨by omega, by decide⟩]
        show some ((Lib.count text.data.toList [10] : Nat) : Int) = _
        rw [Lib.count_one]; rfl
      refine ok_bnd_eq hc ?_
      rw [if_pos (show ((9 : Int) == 9) = true from rfl)]
      refine ok_bnd (P := fun b => b = true) ?_ (fun b hb => ok_some hb)
      rw [if_pos (show ((([] : List S_api_River).length : Int) == 0) = true from rfl)]
      unfold tarnlaw2_within_p
      simp only [bnd_def]
      refine ok_some ?_
      simp only [Bool.and_eq_true, decide_eq_true_eq]
      omega
    · have hc : ∃ n, countP text (⟨#[10]⟩ : ByteArray) = some n := by
        unfold countP
        rw [if_pos ⟨by omega, by decide⟩]; exact ⟨_, rfl⟩
      obtain ⟨n, hc⟩ := hc
      have he : e = 3 ∨ e = 11 ∨ e = 5 := by omega
      rcases he with rfl | rfl | rfl
      · rw [if_neg (by decide)]
        refine ok_bnd_eq hc ?_
        rw [if_neg (by decide), if_pos (show ((([] : List S_api_River).length : Int) == 0) = true from rfl), if_pos (show ((0 : Int) == 0) = true from rfl), contains3]; exact ok_some rfl
      · rw [if_neg (by decide)]
        refine ok_bnd_eq hc ?_
        rw [if_neg (by decide), if_pos (show ((([] : List S_api_River).length : Int) == 0) = true from rfl), if_pos (show ((0 : Int) == 0) = true from rfl), contains11]; exact ok_some rfl
      · rw [if_neg (by decide)]
        refine ok_bnd_eq hc ?_
        rw [if_neg (by decide), if_pos (show ((([] : List S_api_River).length : Int) == 0) = true from rfl), if_pos (show ((0 : Int) == 0) = true from rfl), contains5]; exact ok_some rfl
  obtain ⟨b, h1, rfl⟩ := key
  exact h1
end Go.Proofs.YteebpnooijknoaaDoor
