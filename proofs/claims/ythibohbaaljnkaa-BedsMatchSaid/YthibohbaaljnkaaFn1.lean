/- Own text, by program: that the code computes the pure functions. -/
import Derived.Test.YthibohbaaljnkaaFn0
namespace Go.Proofs.Ythibohbaaljnkaa
open Sx
set_option linter.all false
variable [WB]

-- tarnfell/road.Grades
set_option maxRecDepth 100000 in
set_option maxHeartbeats 4000000 in
theorem road_Grades_s (f0 : S_api_Field) (f0_v1a : Option Addr) (f0_v1c : Nat) (way0 : List S_api_Point) (way0_v1a : Option Addr) (way0_v1c : Nat) (D : PH) (f0_h1 : RO (encF .f32) D (.slice f0_v1a f0.V.length f0_v1c) f0.V) (way0_h1 : RO encS_api_Point D (.slice way0_v1a way0.length way0_v1c) way0) (F : List Assert) (r : (List Nat) × Int) (hp : road_Grades_p f0 way0 = some r) : ∀ w : World, SInv D (F) w → Calls Try.prog 19 #[.agg #[.int .i64 f0.Region.X, .int .i64 f0.Region.Y, .int .i64 f0.Region.W, .int .i64 f0.Region.H, .slice f0_v1a f0.V.length f0_v1c], .slice way0_v1a way0.length way0_v1c] w (fun e w' => ∃ (D1 : PH) (q_a1 : Option Addr) (q_cp1 : Nat), PH.le D D1 ∧ e = .returned (.tuple #[.slice q_a1 r.1.length q_cp1, .int .i64 r.2]) ∧ RO (encF .f32) D1 (.slice q_a1 r.1.length q_cp1) r.1 ∧ SInv D1 (F) w') := by
  intro w hS
  refine call_intro Try.func19 rfl Try.ntmps19 (Nat.le_of_ble_eq_true rfl) hS ?_
  clear hS w
  unfold road_Grades_p at hp
  refine c_seq ?_
  refine c_region ?_
  refine l_box (cs := [.int .i64 f0.Region.X, .int .i64 f0.Region.Y, .int .i64 f0.Region.W, .int .i64 f0.Region.H, .slice f0_v1a f0.V.length f0_v1c]) rfl rfl (fun b2 => ?_)
  refine l_s (.slice none 0 0) (by kernel_rfl) ?_
  refine l_s (.int .i64 0) (by kernel_rfl) ?_
  refine l_nil ?_
  refine e_then ?_
  refine c_seq ?_
  refine c_seq ?_
  obtain ⟨r1, hr1, hp⟩ := bnd_some hp
  refine c_quiet ?_
  refine ql_q rfl (qs_ldpt (encW 5 (by decide)) fitv26 rfl 0 rfl (.agg #[.int .i64 f0.Region.X, .int .i64 f0.Region.Y, .int .i64 f0.Region.W, .int .i64 f0.Region.H, .slice f0_v1a f0.V.length f0_v1c]) (Nat.le_of_ble_eq_true rfl) rfl) ?_
  refine ql_s (.slice way0_v1a way0.length way0_v1c) (by kernel_rfl) ?_
  refine ql_call (v := .int .i64 r1) rfl (run_call (vs := [.agg #[.int .i64 f0.Region.X, .int .i64 f0.Region.Y, .int .i64 f0.Region.W, .int .i64 f0.Region.H, .slice f0_v1a f0.V.length f0_v1c], .slice way0_v1a way0.length way0_v1c]) rfl Try.call33 rfl) (fun w hS => (road_onField_s f0 f0_v1a f0_v1c way0 way0_v1a way0_v1c _ f0_h1 way0_h1 _ _ hr1 w (hS)).mono fun e w' h => ⟨h.1, h.2⟩) ?_
  refine ql_s (.int .i64 r1) (by kernel_rfl) ?_
  refine ql_nil ?_
  refine e_then ?_
  refine c_seq ?_
  refine c_quiet ?_
  refine ql_s (.int .i64 r1) (by kernel_rfl) ?_
  refine ql_s (.bool (r1 != 0)) (by kernel_rfl) ?_
  refine ql_nil ?_
  refine e_then ?_
  refine c_cond ((r1 != 0)) rfl (fun ht1 => ?_) (fun ht1 => ?_)
  · skip
    replace hp := if_t ht1 hp
    refine c_seq ?_
    refine c_quiet ?_
    refine ql_s (.int .i64 r1) (by kernel_rfl) ?_
    refine ql_s (.slice none 0 0) (by kernel_rfl) ?_
    refine ql_s (.int .i64 r1) (by kernel_rfl) ?_
    refine ql_nil ?_
    refine e_drop ?_
    refine e_then ?_
    refine c_ret ?_
    refine e_then_ret ?_
    obtain rfl := Option.some.inj hp
    exact post_all (vs := [.slice none 0 0, .int .i64 r1]) (.tuple #[.slice none 0 0, .int .i64 r1]) ⟨rfl, rfl, trivial⟩ rfl (.inl rfl) (fun w hS => ⟨D, none, 0, (PH.le_refl _), rfl, (RO.nil _ _), hS⟩)
  · skip
    replace hp := if_f ht1 hp
    refine c_skip ?_
    refine e_then ?_
    refine c_seq ?_
    obtain ⟨r2, hr2, hp⟩ := bnd_some hp
    refine c_region ?_
    refine l_q rfl (qs_ldpt (encW 5 (by decide)) fitv26 rfl 0 rfl (.agg #[.int .i64 f0.Region.X, .int .i64 f0.Region.Y, .int .i64 f0.Region.W, .int .i64 f0.Region.H, .slice f0_v1a f0.V.length f0_v1c]) (Nat.le_of_ble_eq_true rfl) rfl) ?_
    refine l_s (.slice way0_v1a way0.length way0_v1c) (by kernel_rfl) ?_
    refine l_call rfl rfl Try.call48 (vs := [.agg #[.int .i64 f0.Region.X, .int .i64 f0.Region.Y, .int .i64 f0.Region.W, .int .i64 f0.Region.H, .slice f0_v1a f0.V.length f0_v1c], .slice way0_v1a way0.length way0_v1c]) rfl (fun v D2 As2 => ∃ (a2 : Option Addr) (cp2 : Nat), PH.le D D2 ∧ v = .slice a2 r2.length cp2 ∧ RO (encF .f32) D2 (.slice a2 r2.length cp2) r2 ∧ As2 = pt b2 [.int .i64 f0.Region.X, .int .i64 f0.Region.Y, .int .i64 f0.Region.W, .int .i64 f0.Region.H, .slice f0_v1a f0.V.length f0_v1c] 26 :: F) (fun w hS => (road_heights_s f0 f0_v1a f0_v1c way0 way0_v1a way0_v1c _ f0_h1 way0_h1 _ _ hr2 w (hS)).mono fun e w' ⟨D2, a2, cp2, hle2, he, h2, hS2⟩ => ⟨_, D2, _, he, ⟨a2, cp2, hle2, rfl, h2, rfl⟩, hS2⟩) ?_
    rintro _ D2 As2 ⟨a2, cp2, hle2, rfl, h2, hA2⟩
    subst As2
    replace way0_h1 := way0_h1.mono hle2
    replace f0_h1 := f0_h1.mono hle2
    refine l_s (.slice a2 r2.length cp2) (by kernel_rfl) ?_
    refine l_nil ?_
    refine e_drop ?_
    refine e_then ?_
    refine c_seq ?_
    refine c_region ?_
    refine l_s (.slice none 0 0) (by kernel_rfl) ?_
    refine l_nilS D2 (encF .f32) 40 ?_
    refine l_nil ?_
    refine e_then ?_
    refine c_seq ?_
    refine c_seq ?_
    obtain ⟨r3, hr3, hp⟩ := bnd_some hp
    refine c_region ?_
    refine l_s (.slice way0_v1a way0.length way0_v1c) (by kernel_rfl) ?_
    refine l_call rfl rfl Try.call49 (vs := [.slice way0_v1a way0.length way0_v1c]) rfl (fun v D4 As4 => ∃ (a4 : Option Addr) (cp4 : Nat), PH.le D2 D4 ∧ v = .slice a4 r3.length cp4 ∧ RO (encF .f32) D4 (.slice a4 r3.length cp4) r3 ∧ As4 = OwnS D2 (encF .f32) 40 (.slice none 0 0) ([] : List Nat) :: F) (fun w hS => (road_lengths_v1_s way0 way0_v1a way0_v1c _ way0_h1 _ _ hr3 w (hS)).mono fun e w' ⟨D4, a4, cp4, hle4, he, h4, hS2⟩ => ⟨_, D4, _, he, ⟨a4, cp4, hle4, rfl, h4, rfl⟩, hS2⟩) ?_
    rintro _ D4 As4 ⟨a4, cp4, hle4, rfl, h4, hA4⟩
    subst As4
    replace way0_h1 := way0_h1.mono hle4
    replace h2 := h2.mono hle4
    replace f0_h1 := f0_h1.mono hle4
    refine l_s (.int .i64 (r3.length : Int)) (by kernel_rfl) ?_
    refine l_s (.int .i64 0) (by kernel_rfl) ?_
    refine l_nil ?_
    refine e_then ?_
    have hb0 : (r3.length : Int) ≤ 4611686018427387904 := by have := RO.bound h4; omega
    have hm0 : r3.length = (r3.length : Int).toNat := by omega
    have hm1 := hm0; have hb1 := hb0; clear hm0 hb0
    obtain ⟨x1, hs1, hp⟩ := bnd_some hp
    obtain ⟨body1, hbody1, hs1⟩ := forS_gen hs1
    refine c_cut_end (fun φ1 D5 As1 => ∃ (a5 : Option Addr) (cp5 : Nat), Is φ1 [(8, .slice a5 x1.length cp5)] ∧ PH.le D4 D5 ∧ As1 = OwnS D5 (encF .f32) 40 (.slice a5 x1.length cp5) x1 :: F) ?_ ?_
    · skip
      refine c_block ?_
      refine c_imp (OwnS.mono hle4) ?_
      refine c_loop (fun k φ1 D6 As1 => ∃ (j1 i1 : Nat) (s1 : (List Nat)) (a6 : Option Addr) (cp6 : Nat), k = j1 + 1 ∧ i1 + j1 = r3.length ∧ Is φ1 [(7, .slice a2 r2.length cp2), (8, .slice a6 s1.length cp6), (21, .slice a4 r3.length cp4), (22, .int .i64 (r3.length : Int)), (23, .int .i64 (i1 : Int))] ∧ PH.le D4 D6 ∧ As1 = OwnS D6 (encF .f32) 40 (.slice a6 s1.length cp6) s1 :: F ∧ forS body1 j1 i1 s1 = some x1) ⟨r3.length + 1, r3.length, 0, ([] : List Nat), none, 0, rfl, Nat.zero_add _, ⟨rfl, rfl, rfl, rfl, rfl, trivial⟩, (PH.le_refl _), rfl, hs1⟩ ?_ ?_
      · rintro _ _ _ ⟨_, _, _, _, _, h0, _⟩; omega
      intro k1
      rintro φ1 D6 As5 ⟨j1, i1, s1, a6, cp6, hk1, hij1, hI1, hD1, hA5, hs2⟩
      subst As5
      replace h2 := h2.mono hD1
      replace h4 := h4.mono hD1
      replace f0_h1 := f0_h1.mono hD1
      refine c_frame _ hI1 ?_
      obtain rfl : k1 = j1 := by omega
      clear hk1
      rcases k1 with _ | j1
      · skip
        refine c_seq ?_
        refine c_quiet ?_
        refine ql_s (.bool (decide ((i1 : Int) < (r3.length : Int)))) (by kernel_rfl) ?_
        refine ql_nil ?_
        refine e_then ?_
        refine c_seq ?_
        refine c_cond (decide ((i1 : Int) < (r3.length : Int))) rfl (fun ht2 => absurd ((dec_lt_f hm1 (by omega)).symm.trans ht2) (by simp)) (fun _ => ?_)
        refine c_exit ?_
        refine e_then_exit ?_
        refine e_then_exit ?_
        obtain rfl := Option.some.inj hs2
        refine e_blk_exit ?_
        exact e_cut ⟨a6, cp6, ⟨rfl, trivial⟩, hD1, rfl⟩
      · skip
        obtain ⟨y1, hx1, hs2⟩ := forS_some hs2
        replace hx1 := (congrFun (congrFun hbody1 i1) s1).trans hx1
        refine c_seq ?_
        refine c_quiet ?_
        refine ql_s (.bool (decide ((i1 : Int) < (r3.length : Int)))) (by kernel_rfl) ?_
        refine ql_nil ?_
        refine e_then ?_
        refine c_seq ?_
        refine c_cond (decide ((i1 : Int) < (r3.length : Int))) rfl (fun _ => ?_) (fun ht3 => absurd ((dec_lt_t hm1 (by omega)).symm.trans ht3) (by simp))
        refine c_skip ?_
        refine e_then ?_
        refine c_seq ?_
        refine c_block ?_
        refine c_seq ?_
        obtain ⟨x2, hx2, hx1⟩ := bnd_some hx1
        obtain ⟨b3, o1, h5, hq1⟩ := RO.at h4 hx2
        refine c_quiet ?_
        refine ql_s (.int .i64 (i1 : Int)) (by kernel_rfl) ?_
        refine ql_q rfl (qs_idx hq1 Try.underlying24 fit40 rfl rfl) ?_
        refine ql_q rfl (qs_ldAtV fit40 rfl h5 valF) ?_
        refine ql_s (.int .i64 (i1 : Int)) (by kernel_rfl) ?_
        refine ql_s (.float .f32 x2) (by kernel_rfl) ?_
        refine ql_nil ?_
        refine e_then ?_
        obtain ⟨x3, hx3, hx1⟩ := bnd_some hx1
        obtain ⟨b4, o2, h6, hq2⟩ := RO.at h2 hx3
        obtain ⟨x4, hx4, hx1⟩ := bnd_some hx1
        obtain ⟨b5, o3, h7, hq3⟩ := RO.at h2 hx4
        obtain ⟨r4, hr4, hx1⟩ := bnd_some hx1
        obtain ⟨l1, hl1, hx1⟩ := bnd_some hx1
        refine c_order (B := []) (.q 0 (.q 1 (.q 2 (.q 3 (.q 4 (.q 5 (.q 6 (.q 7 (.q 8 (.q 9 (.q 10 (.q 11 (.e 12 (.e 13 (.q 14 .nil))))))))))))))) hmix (by kernel_rfl) (NoPanic.blk (NoPanic.then (NoPanic.then (NoPanic.blk (NoPanic.then (NoPanic.then NoPanic.post)))))) ?_
        refine o_s (.slice a6 s1.length cp6) rfl (by kernel_rfl) ?_
        refine o_s (.slice a2 r2.length cp2) rfl (by kernel_rfl) ?_
        refine o_s (.int .i64 (i1 : Int)) rfl (by kernel_rfl) ?_
        refine o_qs rfl rfl (qs_idx hq2 Try.underlying24 fit40 rfl rfl) ?_
        refine o_qs rfl rfl (qs_ldAtV fit40 rfl h6 valF) ?_
        refine o_s (.slice a2 r2.length cp2) rfl (by kernel_rfl) ?_
        refine o_s (.int .i64 (i1 : Int)) rfl (by kernel_rfl) ?_
        refine o_s (.int .i64 (addI (i1 : Int) 1)) rfl (by kernel_rfl) ?_
        refine o_qs rfl rfl (qs_idx hq3 Try.underlying24 fit40 rfl rfl) ?_
        refine o_qs rfl rfl (qs_ldAtV fit40 rfl h7 valF) ?_
        refine o_s (.float .f32 x2) rfl (by kernel_rfl) ?_
        refine o_call (v := .float .f32 r4) rfl rfl (run_call (vs := [.float .f32 x3, .float .f32 x4, .float .f32 x2]) rfl Try.call53 rfl) (fun D' R' hD w hS => (road_grade_s x3 x4 x2 _  _ _ hr4 w (hS)).mono fun e w' h => ⟨h.1, h.2⟩) ?_
        refine o_bslS (cs := [.float .f32 r4]) (E := 40) (e := encF .f32) ([r4] : List Nat) rfl rfl (PH.le_refl _) (by kernel_rfl) rfl rfl (Nat.le_of_ble_eq_true rfl) ⟨rfl, trivial⟩ (fun b7 cp9 => ?_)
        refine o_perm (fr1_perm 1 _) ?_
        refine o_app hl1 rfl rfl (PH.le_refl _) elem24 Try.underlying24 rfl rfl rfl (OwnS.src 1 rfl ⟨_, _, rfl⟩) (fun a8 cp10 => ?_)
        refine o_s (.slice a8 l1.length cp10) rfl (by kernel_rfl) ?_
        refine o_nil ?_
        refine e_perm (fr1_perm 1 _) ?_
        refine e_drop ?_
        refine e_blk ?_
        refine e_then ?_
        refine c_quiet ?_
        refine ql_s (.int .i64 (addI (i1 : Int) 1)) (by kernel_rfl) ?_
        refine ql_s (.int .i64 (addI (i1 : Int) 1)) (by kernel_rfl) ?_
        refine ql_nil ?_
        obtain rfl := Option.some.inj hx1
        exact e_cut ⟨j1, i1 + 1, l1, a8, cp10, by omega, by omega, ⟨rfl, rfl, rfl, rfl, (congrArg (Value.int .i64) (addI_succ (by omega))), trivial⟩, hD1, rfl, hs2⟩
    · skip
      rintro φ2 D5 As6 ⟨a5, cp5, hI2, hD2, hA6⟩
      subst As6
      replace f0_h1 := f0_h1.mono hD2
      refine e_frame _ hI2 ?_
      refine e_then ?_
      refine c_seq ?_
      obtain ⟨r5, hr5, hp⟩ := bnd_some hp
      refine c_region ?_
      refine l_s (.slice a5 x1.length cp5) (by kernel_rfl) ?_
      refine l_layS (PH.le_refl _) (fun D9 hle7 h10 => ?_)
      replace f0_h1 := f0_h1.mono hle7
      refine l_call rfl rfl Try.call50 (vs := [.slice a5 x1.length cp5]) rfl (fun v D10 As8 => ∃ (a10 : Option Addr) (cp12 : Nat), PH.le D9 D10 ∧ v = .tuple #[.slice a10 r5.1.length cp12, .int .i64 r5.2] ∧ RO (encF .f32) D10 (.slice a10 r5.1.length cp12) r5.1 ∧ As8 = F) (fun w hS => (road_values_s x1 a5 cp5 _ h10 _ _ hr5 w (hS)).mono fun e w' ⟨D10, a10, cp12, hle8, he, h11, hS2⟩ => ⟨_, D10, _, he, ⟨a10, cp12, hle8, rfl, h11, rfl⟩, hS2⟩) ?_
      rintro _ D10 As8 ⟨a10, cp12, hle8, rfl, h11, hA8⟩
      subst As8
      replace h10 := h10.mono hle8
      replace f0_h1 := f0_h1.mono hle8
      refine l_s (.slice a10 r5.1.length cp12) (by kernel_rfl) ?_
      refine l_s (.int .i64 r5.2) (by kernel_rfl) ?_
      refine l_s (.slice a10 r5.1.length cp12) (by kernel_rfl) ?_
      refine l_s (.int .i64 r5.2) (by kernel_rfl) ?_
      refine l_nil ?_
      refine e_then ?_
      refine c_ret ?_
      obtain rfl := Option.some.inj hp
      exact post_all (vs := [.slice a10 r5.1.length cp12, .int .i64 r5.2]) (.tuple #[.slice a10 r5.1.length cp12, .int .i64 r5.2]) ⟨rfl, rfl, trivial⟩ rfl (.inl rfl) (fun w hS => ⟨D10, a10, cp12, (PH.le_trans (PH.le_trans (PH.le_trans (PH.le_trans hle2 hle4) hD2) hle7) hle8), rfl, h11, hS⟩)

-- tarnfell/tarnref2.RegionError
set_option maxRecDepth 100000 in
set_option maxHeartbeats 4000000 in
theorem tarnref2_RegionError_s (r0 : S_api_Region) (D : PH)  (F : List Assert) (r : Int) (hp : tarnref2_RegionError_p r0 = some r) : ∀ w : World, SInv D (F) w → Calls Try.prog 41 #[.agg #[.int .i64 r0.X, .int .i64 r0.Y, .int .i64 r0.W, .int .i64 r0.H]] w (fun e w' => e = .returned (.int .i64 r) ∧ SInv D (F) w') := by
  intro w hS
  refine call_intro Try.func41 rfl Try.ntmps41 (Nat.le_of_ble_eq_true rfl) hS ?_
  clear hS w
  unfold tarnref2_RegionError_p at hp
  refine c_seq ?_
  refine c_region ?_
  refine l_box (cs := [.int .i64 r0.X, .int .i64 r0.Y, .int .i64 r0.W, .int .i64 r0.H]) rfl rfl (fun b2 => ?_)
  refine l_s (.int .i64 0) (by kernel_rfl) ?_
  refine l_nil ?_
  refine e_then ?_
  refine c_seq ?_
  refine c_seq ?_
  refine c_cutq_end [(1, .pointer (some ⟨b2, 0, none⟩)), (20, .bool ((decide (r0.W < 1)) || ((decide (r0.W > 512)) || ((decide (r0.H < 1)) || (decide (r0.H > 512))))))] ?_ ?_
  · skip
    refine c_quiet ?_
    refine ql_s (.pointer (some ⟨b2, 2, none⟩)) (by kernel_rfl) ?_
    refine ql_q rfl (qs_ldpt encV fitv3 rfl 0 rfl (.int .i64 r0.W) (Nat.le_of_ble_eq_true rfl) rfl) ?_
    refine ql_s (.bool (decide (r0.W < 1))) (by kernel_rfl) ?_
    refine ql_s (.bool (decide (r0.W < 1))) (by kernel_rfl) ?_
    refine ql_case 6 (decide (r0.W < 1)) rfl (fun hg1 => ?_) (fun hg1 => ?_)
    · skip
      refine ql_s undef (by kernel_rfl) ?_
      refine ql_s undef (by kernel_rfl) ?_
      refine ql_s undef (by kernel_rfl) ?_
      refine ql_s (.bool true) (by kernel_rfl) ?_
      refine ql_s (.bool true) (by kernel_rfl) ?_
      refine ql_s undef (by kernel_rfl) ?_
      refine ql_s undef (by kernel_rfl) ?_
      refine ql_s undef (by kernel_rfl) ?_
      refine ql_s (.bool true) (by kernel_rfl) ?_
      refine ql_s (.bool true) (by kernel_rfl) ?_
      refine ql_s undef (by kernel_rfl) ?_
      refine ql_s undef (by kernel_rfl) ?_
      refine ql_s undef (by kernel_rfl) ?_
      refine ql_s (.bool true) (by kernel_rfl) ?_
      refine ql_nil (e_cutq ?_)
      exact ⟨rfl, (congrArg Value.bool (by first | rfl | (rw [hg1]; rfl) | simp [hg1])), trivial⟩
    · skip
      refine ql_s (.pointer (some ⟨b2, 2, none⟩)) (by kernel_rfl) ?_
      refine ql_q rfl (qs_ldpt encV fitv3 rfl 0 rfl (.int .i64 r0.W) (Nat.le_of_ble_eq_true rfl) rfl) ?_
      refine ql_s (.bool (decide (r0.W > 512))) (by kernel_rfl) ?_
      refine ql_s (.bool (decide (r0.W > 512))) (by kernel_rfl) ?_
      refine ql_s (.bool (decide (r0.W > 512))) (by kernel_rfl) ?_
      refine ql_case 11 (decide (r0.W > 512)) rfl (fun hg2 => ?_) (fun hg2 => ?_)
      · skip
        refine ql_s undef (by kernel_rfl) ?_
        refine ql_s undef (by kernel_rfl) ?_
        refine ql_s undef (by kernel_rfl) ?_
        refine ql_s (.bool true) (by kernel_rfl) ?_
        refine ql_s (.bool true) (by kernel_rfl) ?_
        refine ql_s undef (by kernel_rfl) ?_
        refine ql_s undef (by kernel_rfl) ?_
        refine ql_s undef (by kernel_rfl) ?_
        refine ql_s (.bool true) (by kernel_rfl) ?_
        refine ql_nil (e_cutq ?_)
        exact ⟨rfl, (congrArg Value.bool (by first | rfl | (rw [hg1, hg2]; rfl) | simp [hg1, hg2])), trivial⟩
      · skip
        refine ql_s (.pointer (some ⟨b2, 3, none⟩)) (by kernel_rfl) ?_
        refine ql_q rfl (qs_ldpt encV fitv3 rfl 0 rfl (.int .i64 r0.H) (Nat.le_of_ble_eq_true rfl) rfl) ?_
        refine ql_s (.bool (decide (r0.H < 1))) (by kernel_rfl) ?_
        refine ql_s (.bool (decide (r0.H < 1))) (by kernel_rfl) ?_
        refine ql_s (.bool (decide (r0.H < 1))) (by kernel_rfl) ?_
        refine ql_case 16 (decide (r0.H < 1)) rfl (fun hg3 => ?_) (fun hg3 => ?_)
        · skip
          refine ql_s undef (by kernel_rfl) ?_
          refine ql_s undef (by kernel_rfl) ?_
          refine ql_s undef (by kernel_rfl) ?_
          refine ql_s (.bool true) (by kernel_rfl) ?_
          refine ql_nil (e_cutq ?_)
          exact ⟨rfl, (congrArg Value.bool (by first | rfl | (rw [hg1, hg2, hg3]; rfl) | simp [hg1, hg2, hg3])), trivial⟩
        · skip
          refine ql_s (.pointer (some ⟨b2, 3, none⟩)) (by kernel_rfl) ?_
          refine ql_q rfl (qs_ldpt encV fitv3 rfl 0 rfl (.int .i64 r0.H) (Nat.le_of_ble_eq_true rfl) rfl) ?_
          refine ql_s (.bool (decide (r0.H > 512))) (by kernel_rfl) ?_
          refine ql_s (.bool (decide (r0.H > 512))) (by kernel_rfl) ?_
          refine ql_nil (e_cutq ?_)
          exact ⟨rfl, (congrArg Value.bool (by first | rfl | (rw [hg1, hg2, hg3]; rfl) | simp [hg1, hg2, hg3])), trivial⟩
  intro _
  refine e_then ?_
  refine c_cond (((decide (r0.W < 1)) || ((decide (r0.W > 512)) || ((decide (r0.H < 1)) || (decide (r0.H > 512)))))) rfl (fun ht1 => ?_) (fun ht1 => ?_)
  · skip
    replace hp := if_t ht1 hp
    refine c_seq ?_
    refine c_quiet ?_
    refine ql_s (.int .i64 3) (by kernel_rfl) ?_
    refine ql_nil ?_
    refine e_drop ?_
    refine e_then ?_
    refine c_ret ?_
    refine e_then_ret ?_
    obtain rfl := Option.some.inj hp
    exact post_all (vs := [.int .i64 3]) (.int .i64 3) ⟨rfl, trivial⟩ rfl (.inl rfl) (fun w hS => ⟨rfl, hS⟩)
  · skip
    replace hp := if_f ht1 hp
    refine c_skip ?_
    refine e_then ?_
    refine c_seq ?_
    refine c_seq ?_
    refine c_quiet ?_
    refine ql_s (.pointer (some ⟨b2, 2, none⟩)) (by kernel_rfl) ?_
    refine ql_q rfl (qs_ldpt encV fitv3 rfl 0 rfl (.int .i64 r0.W) (Nat.le_of_ble_eq_true rfl) rfl) ?_
    refine ql_s (.pointer (some ⟨b2, 3, none⟩)) (by kernel_rfl) ?_
    refine ql_q rfl (qs_ldpt encV fitv3 rfl 0 rfl (.int .i64 r0.H) (Nat.le_of_ble_eq_true rfl) rfl) ?_
    refine ql_s (.int .i64 (mulI r0.W r0.H)) (by kernel_rfl) ?_
    refine ql_s (.bool (decide ((mulI r0.W r0.H) > 65536))) (by kernel_rfl) ?_
    refine ql_nil ?_
    refine e_then ?_
    refine c_cond (decide ((mulI r0.W r0.H) > 65536)) rfl (fun ht2 => ?_) (fun ht2 => ?_)
    · skip
      replace hp := if_t ht2 hp
      refine c_seq ?_
      refine c_quiet ?_
      refine ql_s (.int .i64 4) (by kernel_rfl) ?_
      refine ql_nil ?_
      refine e_drop ?_
      refine e_then ?_
      refine c_ret ?_
      refine e_then_ret ?_
      obtain rfl := Option.some.inj hp
      exact post_all (vs := [.int .i64 4]) (.int .i64 4) ⟨rfl, trivial⟩ rfl (.inl rfl) (fun w hS => ⟨rfl, hS⟩)
    · skip
      replace hp := if_f ht2 hp
      refine c_skip ?_
      refine e_then ?_
      refine c_seq ?_
      refine c_seq ?_
      refine c_cutq_end [(50, .bool ((decide (r0.X < (-4194304))) || ((decide (r0.Y < (-4194304))) || ((decide (r0.X > (subI 4194304 r0.W))) || (decide (r0.Y > (subI 4194304 r0.H)))))))] ?_ ?_
      · skip
        refine c_quiet ?_
        refine ql_s (.pointer (some ⟨b2, 0, none⟩)) (by kernel_rfl) ?_
        refine ql_q rfl (qs_ldpt encV fitv3 rfl 0 rfl (.int .i64 r0.X) (Nat.le_of_ble_eq_true rfl) rfl) ?_
        refine ql_s (.bool (decide (r0.X < (-4194304)))) (by kernel_rfl) ?_
        refine ql_s (.bool (decide (r0.X < (-4194304)))) (by kernel_rfl) ?_
        refine ql_case 30 (decide (r0.X < (-4194304))) rfl (fun hg4 => ?_) (fun hg4 => ?_)
        · skip
          refine ql_s undef (by kernel_rfl) ?_
          refine ql_s undef (by kernel_rfl) ?_
          refine ql_s undef (by kernel_rfl) ?_
          refine ql_s (.bool true) (by kernel_rfl) ?_
          refine ql_s (.bool true) (by kernel_rfl) ?_
          refine ql_s undef (by kernel_rfl) ?_
          refine ql_s undef (by kernel_rfl) ?_
          refine ql_s undef (by kernel_rfl) ?_
          refine ql_s undef (by kernel_rfl) ?_
          refine ql_s undef (by kernel_rfl) ?_
          refine ql_s undef (by kernel_rfl) ?_
          refine ql_s (.bool true) (by kernel_rfl) ?_
          refine ql_s (.bool true) (by kernel_rfl) ?_
          refine ql_s undef (by kernel_rfl) ?_
          refine ql_s undef (by kernel_rfl) ?_
          refine ql_s undef (by kernel_rfl) ?_
          refine ql_s undef (by kernel_rfl) ?_
          refine ql_s undef (by kernel_rfl) ?_
          refine ql_s undef (by kernel_rfl) ?_
          refine ql_s (.bool true) (by kernel_rfl) ?_
          refine ql_nil (e_cutq ?_)
          exact ⟨(congrArg Value.bool (by first | rfl | (rw [hg4]; rfl) | simp [hg4])), trivial⟩
        · skip
          refine ql_s (.pointer (some ⟨b2, 1, none⟩)) (by kernel_rfl) ?_
          refine ql_q rfl (qs_ldpt encV fitv3 rfl 0 rfl (.int .i64 r0.Y) (Nat.le_of_ble_eq_true rfl) rfl) ?_
          refine ql_s (.bool (decide (r0.Y < (-4194304)))) (by kernel_rfl) ?_
          refine ql_s (.bool (decide (r0.Y < (-4194304)))) (by kernel_rfl) ?_
          refine ql_s (.bool (decide (r0.Y < (-4194304)))) (by kernel_rfl) ?_
          refine ql_case 35 (decide (r0.Y < (-4194304))) rfl (fun hg5 => ?_) (fun hg5 => ?_)
          · skip
            refine ql_s undef (by kernel_rfl) ?_
            refine ql_s undef (by kernel_rfl) ?_
            refine ql_s undef (by kernel_rfl) ?_
            refine ql_s undef (by kernel_rfl) ?_
            refine ql_s undef (by kernel_rfl) ?_
            refine ql_s undef (by kernel_rfl) ?_
            refine ql_s (.bool true) (by kernel_rfl) ?_
            refine ql_s (.bool true) (by kernel_rfl) ?_
            refine ql_s undef (by kernel_rfl) ?_
            refine ql_s undef (by kernel_rfl) ?_
            refine ql_s undef (by kernel_rfl) ?_
            refine ql_s undef (by kernel_rfl) ?_
            refine ql_s undef (by kernel_rfl) ?_
            refine ql_s undef (by kernel_rfl) ?_
            refine ql_s (.bool true) (by kernel_rfl) ?_
            refine ql_nil (e_cutq ?_)
            exact ⟨(congrArg Value.bool (by first | rfl | (rw [hg4, hg5]; rfl) | simp [hg4, hg5])), trivial⟩
          · skip
            refine ql_s (.pointer (some ⟨b2, 0, none⟩)) (by kernel_rfl) ?_
            refine ql_q rfl (qs_ldpt encV fitv3 rfl 0 rfl (.int .i64 r0.X) (Nat.le_of_ble_eq_true rfl) rfl) ?_
            refine ql_s (.pointer (some ⟨b2, 2, none⟩)) (by kernel_rfl) ?_
            refine ql_q rfl (qs_ldpt encV fitv3 rfl 0 rfl (.int .i64 r0.W) (Nat.le_of_ble_eq_true rfl) rfl) ?_
            refine ql_s (.int .i64 (subI 4194304 r0.W)) (by kernel_rfl) ?_
            refine ql_s (.bool (decide (r0.X > (subI 4194304 r0.W)))) (by kernel_rfl) ?_
            refine ql_s (.bool (decide (r0.X > (subI 4194304 r0.W)))) (by kernel_rfl) ?_
            refine ql_s (.bool (decide (r0.X > (subI 4194304 r0.W)))) (by kernel_rfl) ?_
            refine ql_case 43 (decide (r0.X > (subI 4194304 r0.W))) rfl (fun hg6 => ?_) (fun hg6 => ?_)
            · skip
              refine ql_s undef (by kernel_rfl) ?_
              refine ql_s undef (by kernel_rfl) ?_
              refine ql_s undef (by kernel_rfl) ?_
              refine ql_s undef (by kernel_rfl) ?_
              refine ql_s undef (by kernel_rfl) ?_
              refine ql_s undef (by kernel_rfl) ?_
              refine ql_s (.bool true) (by kernel_rfl) ?_
              refine ql_nil (e_cutq ?_)
              exact ⟨(congrArg Value.bool (by first | rfl | (rw [hg4, hg5, hg6]; rfl) | simp [hg4, hg5, hg6])), trivial⟩
            · skip
              refine ql_s (.pointer (some ⟨b2, 1, none⟩)) (by kernel_rfl) ?_
              refine ql_q rfl (qs_ldpt encV fitv3 rfl 0 rfl (.int .i64 r0.Y) (Nat.le_of_ble_eq_true rfl) rfl) ?_
              refine ql_s (.pointer (some ⟨b2, 3, none⟩)) (by kernel_rfl) ?_
              refine ql_q rfl (qs_ldpt encV fitv3 rfl 0 rfl (.int .i64 r0.H) (Nat.le_of_ble_eq_true rfl) rfl) ?_
              refine ql_s (.int .i64 (subI 4194304 r0.H)) (by kernel_rfl) ?_
              refine ql_s (.bool (decide (r0.Y > (subI 4194304 r0.H)))) (by kernel_rfl) ?_
              refine ql_s (.bool (decide (r0.Y > (subI 4194304 r0.H)))) (by kernel_rfl) ?_
              refine ql_nil (e_cutq ?_)
              exact ⟨(congrArg Value.bool (by first | rfl | (rw [hg4, hg5, hg6]; rfl) | simp [hg4, hg5, hg6])), trivial⟩
      intro _
      refine e_then ?_
      refine c_cond (((decide (r0.X < (-4194304))) || ((decide (r0.Y < (-4194304))) || ((decide (r0.X > (subI 4194304 r0.W))) || (decide (r0.Y > (subI 4194304 r0.H))))))) rfl (fun ht3 => ?_) (fun ht3 => ?_)
      · skip
        replace hp := if_t ht3 hp
        refine c_seq ?_
        refine c_quiet ?_
        refine ql_s (.int .i64 5) (by kernel_rfl) ?_
        refine ql_nil ?_
        refine e_drop ?_
        refine e_then ?_
        refine c_ret ?_
        refine e_then_ret ?_
        obtain rfl := Option.some.inj hp
        exact post_all (vs := [.int .i64 5]) (.int .i64 5) ⟨rfl, trivial⟩ rfl (.inl rfl) (fun w hS => ⟨rfl, hS⟩)
      · skip
        replace hp := if_f ht3 hp
        refine c_skip ?_
        refine e_then ?_
        refine c_seq ?_
        refine c_quiet ?_
        refine ql_s (.int .i64 0) (by kernel_rfl) ?_
        refine ql_nil ?_
        refine e_drop ?_
        refine e_then ?_
        refine c_ret ?_
        obtain rfl := Option.some.inj hp
        exact post_all (vs := [.int .i64 0]) (.int .i64 0) ⟨rfl, trivial⟩ rfl (.inl rfl) (fun w hS => ⟨rfl, hS⟩)

-- tarnfell/tarnref2.NumberError
set_option maxRecDepth 100000 in
set_option maxHeartbeats 4000000 in
theorem tarnref2_NumberError_s (l0 : List Nat) (l0_v1a : Option Addr) (l0_v1c : Nat) (D : PH) (l0_h1 : RO (encF .f32) D (.slice l0_v1a l0.length l0_v1c) l0) (F : List Assert) (r : Int) (hp : tarnref2_NumberError_p l0 = some r) : ∀ w : World, SInv D (F) w → Calls Try.prog 11 #[.slice l0_v1a l0.length l0_v1c] w (fun e w' => e = .returned (.int .i64 r) ∧ SInv D (F) w') := by
  intro w hS
  refine call_intro Try.func11 rfl Try.ntmps11 (Nat.le_of_ble_eq_true rfl) hS ?_
  clear hS w
  unfold tarnref2_NumberError_p at hp
  refine c_seq ?_
  refine c_quiet ?_
  refine ql_s (.int .i64 0) (by kernel_rfl) ?_
  refine ql_nil ?_
  refine e_then ?_
  refine c_seq ?_
  refine c_seq ?_
  refine c_quiet ?_
  refine ql_s (.slice l0_v1a l0.length l0_v1c) (by kernel_rfl) ?_
  refine ql_s (.int .i64 (l0.length : Int)) (by kernel_rfl) ?_
  refine ql_s (.int .i64 0) (by kernel_rfl) ?_
  refine ql_nil ?_
  refine e_then ?_
  have hb0 : (l0.length : Int) ≤ 4611686018427387904 := by have := RO.bound l0_h1; omega
  have hm0 : l0.length = (l0.length : Int).toNat := by omega
  have hm1 := hm0; have hb1 := hb0; clear hm0 hb0
  obtain ⟨x1, hs1, hp⟩ := bnd_some hp
  obtain ⟨body1, hbody1, hs1⟩ := forI_gen hs1
  refine c_cut_end (fun φ1 D1 As1 => ∃ (s1 : Unit), x1 = .go s1 ∧ Is φ1 [(0, .slice l0_v1a l0.length l0_v1c)] ∧ PH.le D D1 ∧ As1 = F) ?_ ?_
  · skip
    refine c_block ?_
    refine c_loop (fun k φ1 D2 As1 => ∃ (j1 i1 : Nat) (s2 : Unit), k = j1 + 1 ∧ i1 + j1 = l0.length ∧ Is φ1 [(0, .slice l0_v1a l0.length l0_v1c), (7, .slice l0_v1a l0.length l0_v1c), (8, .int .i64 (l0.length : Int)), (9, .int .i64 (i1 : Int))] ∧ PH.le D D2 ∧ As1 = F ∧ forI body1 j1 i1 s2 = some x1) ⟨l0.length + 1, l0.length, 0, (), rfl, Nat.zero_add _, ⟨rfl, rfl, rfl, rfl, trivial⟩, (PH.le_refl _), rfl, hs1⟩ ?_ ?_
    · rintro _ _ _ ⟨_, _, _, h0, _⟩; omega
    intro k1
    rintro φ1 D2 As1 ⟨j1, i1, s2, hk1, hij1, hI1, hD1, hA1, hs2⟩
    subst As1
    replace l0_h1 := l0_h1.mono hD1
    refine c_frame _ hI1 ?_
    obtain rfl : k1 = j1 := by omega
    clear hk1
    rcases k1 with _ | j1
    · skip
      refine c_seq ?_
      refine c_quiet ?_
      refine ql_s (.bool (decide ((i1 : Int) < (l0.length : Int)))) (by kernel_rfl) ?_
      refine ql_nil ?_
      refine e_then ?_
      refine c_seq ?_
      refine c_cond (decide ((i1 : Int) < (l0.length : Int))) rfl (fun ht1 => absurd ((dec_lt_f hm1 (by omega)).symm.trans ht1) (by simp)) (fun _ => ?_)
      refine c_exit ?_
      refine e_then_exit ?_
      refine e_then_exit ?_
      obtain rfl := Option.some.inj hs2
      refine e_blk_exit ?_
      exact e_cut ⟨(), rfl, ⟨rfl, trivial⟩, hD1, rfl⟩
    · skip
      obtain ⟨y1, hx1, hs2⟩ := forI_some hs2
      replace hx1 := (congrFun (congrFun hbody1 i1) s2).trans hx1
      refine c_seq ?_
      refine c_quiet ?_
      refine ql_s (.bool (decide ((i1 : Int) < (l0.length : Int)))) (by kernel_rfl) ?_
      refine ql_nil ?_
      refine e_then ?_
      refine c_seq ?_
      refine c_cond (decide ((i1 : Int) < (l0.length : Int))) rfl (fun _ => ?_) (fun ht2 => absurd ((dec_lt_t hm1 (by omega)).symm.trans ht2) (by simp))
      refine c_skip ?_
      refine e_then ?_
      refine c_seq ?_
      refine c_block ?_
      refine c_seq ?_
      obtain ⟨x2, hx2, hx1⟩ := bnd_some hx1
      obtain ⟨b1, o1, h1, hq1⟩ := RO.at l0_h1 hx2
      refine c_quiet ?_
      refine ql_q rfl (qs_idx hq1 Try.underlying24 fit40 rfl rfl) ?_
      refine ql_q rfl (qs_ldAtV fit40 rfl h1 valF) ?_
      refine ql_s (.float .f32 x2) (by kernel_rfl) ?_
      refine ql_nil ?_
      refine e_then ?_
      refine c_seq ?_
      refine c_cutq_end [(0, .slice l0_v1a l0.length l0_v1c), (7, .slice l0_v1a l0.length l0_v1c), (8, .int .i64 (l0.length : Int)), (9, .int .i64 (i1 : Int)), (23, .bool ((fne .f32 x2 x2) || ((fgt .f32 x2 2139095039) || (flt .f32 x2 4286578687))))] ?_ ?_
      · skip
        refine c_quiet ?_
        refine ql_s (.float .f32 x2) (by kernel_rfl) ?_
        refine ql_s (.float .f32 x2) (by kernel_rfl) ?_
        refine ql_s (.bool (fne .f32 x2 x2)) (by kernel_rfl) ?_
        refine ql_s (.bool (fne .f32 x2 x2)) (by kernel_rfl) ?_
        refine ql_case 16 (fne .f32 x2 x2) rfl (fun hg1 => ?_) (fun hg1 => ?_)
        · skip
          refine ql_s undef (by kernel_rfl) ?_
          refine ql_s undef (by kernel_rfl) ?_
          refine ql_s (.bool true) (by kernel_rfl) ?_
          refine ql_s (.bool true) (by kernel_rfl) ?_
          refine ql_s undef (by kernel_rfl) ?_
          refine ql_s undef (by kernel_rfl) ?_
          refine ql_s (.bool true) (by kernel_rfl) ?_
          refine ql_nil (e_cutq ?_)
          exact ⟨rfl, rfl, rfl, rfl, (congrArg Value.bool (by first | rfl | (rw [hg1]; rfl) | simp [hg1])), trivial⟩
        · skip
          refine ql_s (.float .f32 x2) (by kernel_rfl) ?_
          refine ql_s (.bool (fgt .f32 x2 2139095039)) (by kernel_rfl) ?_
          refine ql_s (.bool (fgt .f32 x2 2139095039)) (by kernel_rfl) ?_
          refine ql_s (.bool (fgt .f32 x2 2139095039)) (by kernel_rfl) ?_
          refine ql_case 20 (fgt .f32 x2 2139095039) rfl (fun hg2 => ?_) (fun hg2 => ?_)
          · skip
            refine ql_s undef (by kernel_rfl) ?_
            refine ql_s undef (by kernel_rfl) ?_
            refine ql_s (.bool true) (by kernel_rfl) ?_
            refine ql_nil (e_cutq ?_)
            exact ⟨rfl, rfl, rfl, rfl, (congrArg Value.bool (by first | rfl | (rw [hg1, hg2]; rfl) | simp [hg1, hg2])), trivial⟩
          · skip
            refine ql_s (.float .f32 x2) (by kernel_rfl) ?_
            refine ql_s (.bool (flt .f32 x2 4286578687)) (by kernel_rfl) ?_
            refine ql_s (.bool (flt .f32 x2 4286578687)) (by kernel_rfl) ?_
            refine ql_nil (e_cutq ?_)
            exact ⟨rfl, rfl, rfl, rfl, (congrArg Value.bool (by first | rfl | (rw [hg1, hg2]; rfl) | simp [hg1, hg2])), trivial⟩
      intro _
      refine e_then ?_
      refine c_cond (((fne .f32 x2 x2) || ((fgt .f32 x2 2139095039) || (flt .f32 x2 4286578687)))) rfl (fun ht3 => ?_) (fun ht3 => ?_)
      · skip
        replace hx1 := if_t ht3 hx1
        refine c_seq ?_
        refine c_quiet ?_
        refine ql_s (.int .i64 2) (by kernel_rfl) ?_
        refine ql_nil ?_
        refine e_then ?_
        refine c_ret ?_
        refine e_blk_ret ?_
        refine e_then_ret ?_
        refine e_then_ret ?_
        obtain rfl := Option.some.inj hx1
        obtain rfl := hs2
        refine e_blk_ret ?_
        refine e_then_ret ?_
        dsimp only at hp
        refine e_then_ret ?_
        obtain rfl := Option.some.inj hp
        exact post_all (vs := [.int .i64 2]) (.int .i64 2) ⟨rfl, trivial⟩ rfl (.inl rfl) (fun w hS => ⟨rfl, (hS.lower hD1)⟩)
      · skip
        replace hx1 := if_f ht3 hx1
        refine c_skip ?_
        refine e_blk ?_
        refine e_then ?_
        refine c_quiet ?_
        refine ql_s (.int .i64 (addI (i1 : Int) 1)) (by kernel_rfl) ?_
        refine ql_s (.int .i64 (addI (i1 : Int) 1)) (by kernel_rfl) ?_
        refine ql_nil ?_
        obtain rfl := Option.some.inj hx1
        exact e_cut ⟨j1, i1 + 1, (), by omega, by omega, ⟨rfl, rfl, rfl, (congrArg (Value.int .i64) (addI_succ (by omega))), trivial⟩, hD1, rfl, hs2⟩
  · skip
    rintro φ2 D1 As2 ⟨s1, rfl, hI2, hD2, hA2⟩
    subst As2
    replace l0_h1 := l0_h1.mono hD2
    dsimp only at hp
    refine e_frame _ hI2 ?_
    refine e_then ?_
    refine c_seq ?_
    refine c_seq ?_
    refine c_quiet ?_
    refine ql_s (.slice l0_v1a l0.length l0_v1c) (by kernel_rfl) ?_
    refine ql_s (.int .i64 (l0.length : Int)) (by kernel_rfl) ?_
    refine ql_s (.int .i64 0) (by kernel_rfl) ?_
    refine ql_nil ?_
    refine e_then ?_
    have hb0 : (l0.length : Int) ≤ 4611686018427387904 := by have := RO.bound l0_h1; omega
    have hm0 : l0.length = (l0.length : Int).toNat := by omega
    have hm2 := hm0; have hb2 := hb0; clear hm0 hb0
    obtain ⟨x3, hs3, hp⟩ := bnd_some hp
    obtain ⟨body2, hbody2, hs3⟩ := forI_gen hs3
    refine c_cut_end (fun φ1 D3 As1 => ∃ (s3 : Unit), x3 = .go s3 ∧ Is φ1 [] ∧ PH.le D1 D3 ∧ As1 = F) ?_ ?_
    · skip
      refine c_block ?_
      refine c_loop (fun k φ1 D4 As1 => ∃ (j2 i2 : Nat) (s4 : Unit), k = j2 + 1 ∧ i2 + j2 = l0.length ∧ Is φ1 [(25, .slice l0_v1a l0.length l0_v1c), (26, .int .i64 (l0.length : Int)), (27, .int .i64 (i2 : Int))] ∧ PH.le D1 D4 ∧ As1 = F ∧ forI body2 j2 i2 s4 = some x3) ⟨l0.length + 1, l0.length, 0, (), rfl, Nat.zero_add _, ⟨rfl, rfl, rfl, trivial⟩, (PH.le_refl _), rfl, hs3⟩ ?_ ?_
      · rintro _ _ _ ⟨_, _, _, h0, _⟩; omega
      intro k2
      rintro φ3 D4 As3 ⟨j2, i2, s4, hk2, hij2, hI3, hD3, hA3, hs4⟩
      subst As3
      replace l0_h1 := l0_h1.mono hD3
      refine c_frame _ hI3 ?_
      obtain rfl : k2 = j2 := by omega
      clear hk2
      rcases k2 with _ | j2
      · skip
        refine c_seq ?_
        refine c_quiet ?_
        refine ql_s (.bool (decide ((i2 : Int) < (l0.length : Int)))) (by kernel_rfl) ?_
        refine ql_nil ?_
        refine e_then ?_
        refine c_seq ?_
        refine c_cond (decide ((i2 : Int) < (l0.length : Int))) rfl (fun ht4 => absurd ((dec_lt_f hm2 (by omega)).symm.trans ht4) (by simp)) (fun _ => ?_)
        refine c_exit ?_
        refine e_then_exit ?_
        refine e_then_exit ?_
        obtain rfl := Option.some.inj hs4
        refine e_blk_exit ?_
        exact e_cut ⟨(), rfl, trivial, hD3, rfl⟩
      · skip
        obtain ⟨y2, hx3, hs4⟩ := forI_some hs4
        replace hx3 := (congrFun (congrFun hbody2 i2) s4).trans hx3
        refine c_seq ?_
        refine c_quiet ?_
        refine ql_s (.bool (decide ((i2 : Int) < (l0.length : Int)))) (by kernel_rfl) ?_
        refine ql_nil ?_
        refine e_then ?_
        refine c_seq ?_
        refine c_cond (decide ((i2 : Int) < (l0.length : Int))) rfl (fun _ => ?_) (fun ht5 => absurd ((dec_lt_t hm2 (by omega)).symm.trans ht5) (by simp))
        refine c_skip ?_
        refine e_then ?_
        refine c_seq ?_
        refine c_block ?_
        refine c_seq ?_
        obtain ⟨x4, hx4, hx3⟩ := bnd_some hx3
        obtain ⟨b2, o2, h2, hq2⟩ := RO.at l0_h1 hx4
        refine c_quiet ?_
        refine ql_q rfl (qs_idx hq2 Try.underlying24 fit40 rfl rfl) ?_
        refine ql_q rfl (qs_ldAtV fit40 rfl h2 valF) ?_
        refine ql_s (.float .f32 x4) (by kernel_rfl) ?_
        refine ql_nil ?_
        refine e_then ?_
        refine c_seq ?_
        refine c_cutq_end [(25, .slice l0_v1a l0.length l0_v1c), (26, .int .i64 (l0.length : Int)), (27, .int .i64 (i2 : Int)), (36, .bool ((fgt .f32 x4 1233125376) || (flt .f32 x4 3380609024)))] ?_ ?_
        · skip
          refine c_quiet ?_
          refine ql_s (.float .f32 x4) (by kernel_rfl) ?_
          refine ql_s (.bool (fgt .f32 x4 1233125376)) (by kernel_rfl) ?_
          refine ql_s (.bool (fgt .f32 x4 1233125376)) (by kernel_rfl) ?_
          refine ql_case 33 (fgt .f32 x4 1233125376) rfl (fun hg3 => ?_) (fun hg3 => ?_)
          · skip
            refine ql_s undef (by kernel_rfl) ?_
            refine ql_s undef (by kernel_rfl) ?_
            refine ql_s (.bool true) (by kernel_rfl) ?_
            refine ql_nil (e_cutq ?_)
            exact ⟨rfl, rfl, rfl, (congrArg Value.bool (by first | rfl | (rw [hg3]; rfl) | simp [hg3])), trivial⟩
          · skip
            refine ql_s (.float .f32 x4) (by kernel_rfl) ?_
            refine ql_s (.bool (flt .f32 x4 3380609024)) (by kernel_rfl) ?_
            refine ql_s (.bool (flt .f32 x4 3380609024)) (by kernel_rfl) ?_
            refine ql_nil (e_cutq ?_)
            exact ⟨rfl, rfl, rfl, (congrArg Value.bool (by first | rfl | (rw [hg3]; rfl) | simp [hg3])), trivial⟩
        intro _
        refine e_then ?_
        refine c_cond (((fgt .f32 x4 1233125376) || (flt .f32 x4 3380609024))) rfl (fun ht6 => ?_) (fun ht6 => ?_)
        · skip
          replace hx3 := if_t ht6 hx3
          refine c_seq ?_
          refine c_quiet ?_
          refine ql_s (.int .i64 3) (by kernel_rfl) ?_
          refine ql_nil ?_
          refine e_then ?_
          refine c_ret ?_
          refine e_blk_ret ?_
          refine e_then_ret ?_
          refine e_then_ret ?_
          obtain rfl := Option.some.inj hx3
          obtain rfl := hs4
          refine e_blk_ret ?_
          refine e_then_ret ?_
          dsimp only at hp
          refine e_then_ret ?_
          obtain rfl := Option.some.inj hp
          exact post_all (vs := [.int .i64 3]) (.int .i64 3) ⟨rfl, trivial⟩ rfl (.inl rfl) (fun w hS => ⟨rfl, (hS.lower (PH.le_trans hD2 hD3))⟩)
        · skip
          replace hx3 := if_f ht6 hx3
          refine c_skip ?_
          refine e_blk ?_
          refine e_then ?_
          refine c_quiet ?_
          refine ql_s (.int .i64 (addI (i2 : Int) 1)) (by kernel_rfl) ?_
          refine ql_s (.int .i64 (addI (i2 : Int) 1)) (by kernel_rfl) ?_
          refine ql_nil ?_
          obtain rfl := Option.some.inj hx3
          exact e_cut ⟨j2, i2 + 1, (), by omega, by omega, ⟨rfl, rfl, (congrArg (Value.int .i64) (addI_succ (by omega))), trivial⟩, hD3, rfl, hs4⟩
    · skip
      rintro φ4 D3 As4 ⟨s3, rfl, hI4, hD4, hA4⟩
      subst As4
      dsimp only at hp
      refine e_frame _ hI4 ?_
      refine e_then ?_
      refine c_seq ?_
      refine c_quiet ?_
      refine ql_s (.int .i64 0) (by kernel_rfl) ?_
      refine ql_nil ?_
      refine e_then ?_
      refine c_ret ?_
      obtain rfl := Option.some.inj hp
      exact post_all (vs := [.int .i64 0]) (.int .i64 0) ⟨rfl, trivial⟩ rfl (.inl rfl) (fun w hS => ⟨rfl, (hS.lower (PH.le_trans hD2 hD4))⟩)

-- tarnfell/tarnref2.FieldError
set_option maxRecDepth 100000 in
set_option maxHeartbeats 4000000 in
theorem tarnref2_FieldError_s (f0 : S_api_Field) (f0_v1a : Option Addr) (f0_v1c : Nat) (D : PH) (f0_h1 : RO (encF .f32) D (.slice f0_v1a f0.V.length f0_v1c) f0.V) (F : List Assert) (r : Int) (hp : tarnref2_FieldError_p f0 = some r) : ∀ w : World, SInv D (F) w → Calls Try.prog 8 #[.agg #[.int .i64 f0.Region.X, .int .i64 f0.Region.Y, .int .i64 f0.Region.W, .int .i64 f0.Region.H, .slice f0_v1a f0.V.length f0_v1c]] w (fun e w' => e = .returned (.int .i64 r) ∧ SInv D (F) w') := by
  intro w hS
  refine call_intro Try.func8 rfl Try.ntmps8 (Nat.le_of_ble_eq_true rfl) hS ?_
  clear hS w
  unfold tarnref2_FieldError_p at hp
  refine c_seq ?_
  refine c_region ?_
  refine l_box (cs := [.int .i64 f0.Region.X, .int .i64 f0.Region.Y, .int .i64 f0.Region.W, .int .i64 f0.Region.H, .slice f0_v1a f0.V.length f0_v1c]) rfl rfl (fun b2 => ?_)
  refine l_s (.int .i64 0) (by kernel_rfl) ?_
  refine l_nil ?_
  refine e_then ?_
  refine c_seq ?_
  refine c_seq ?_
  obtain ⟨r1, hr1, hp⟩ := bnd_some hp
  refine c_quiet ?_
  refine ql_s (.pointer (some ⟨b2, 0, none⟩)) (by kernel_rfl) ?_
  refine ql_q rfl (qs_ldpt (encW 4 (by decide)) fitv23 rfl 0 rfl (.agg #[.int .i64 f0.Region.X, .int .i64 f0.Region.Y, .int .i64 f0.Region.W, .int .i64 f0.Region.H]) (Nat.le_of_ble_eq_true rfl) rfl) ?_
  refine ql_call (v := .int .i64 r1) rfl (run_call (vs := [.agg #[.int .i64 f0.Region.X, .int .i64 f0.Region.Y, .int .i64 f0.Region.W, .int .i64 f0.Region.H]]) rfl Try.call41 rfl) (fun w hS => (tarnref2_RegionError_s f0.Region _  _ _ hr1 w (hS)).mono fun e w' h => ⟨h.1, h.2⟩) ?_
  refine ql_s (.int .i64 r1) (by kernel_rfl) ?_
  refine ql_nil ?_
  refine e_then ?_
  refine c_seq ?_
  refine c_quiet ?_
  refine ql_s (.int .i64 r1) (by kernel_rfl) ?_
  refine ql_s (.bool (r1 != 0)) (by kernel_rfl) ?_
  refine ql_nil ?_
  refine e_then ?_
  refine c_cond ((r1 != 0)) rfl (fun ht1 => ?_) (fun ht1 => ?_)
  · skip
    replace hp := if_t ht1 hp
    refine c_seq ?_
    refine c_quiet ?_
    refine ql_s (.int .i64 r1) (by kernel_rfl) ?_
    refine ql_s (.int .i64 r1) (by kernel_rfl) ?_
    refine ql_nil ?_
    refine e_drop ?_
    refine e_then ?_
    refine c_ret ?_
    refine e_then_ret ?_
    obtain rfl := Option.some.inj hp
    exact post_all (vs := [.int .i64 r1]) (.int .i64 r1) ⟨rfl, trivial⟩ rfl (.inl rfl) (fun w hS => ⟨rfl, hS⟩)
  · skip
    replace hp := if_f ht1 hp
    refine c_skip ?_
    refine e_then ?_
    refine c_seq ?_
    refine c_seq ?_
    refine c_quiet ?_
    refine ql_s (.pointer (some ⟨b2, 4, none⟩)) (by kernel_rfl) ?_
    refine ql_q rfl (qs_ldpt encV fitv24 rfl 0 rfl (.slice f0_v1a f0.V.length f0_v1c) (Nat.le_of_ble_eq_true rfl) rfl) ?_
    refine ql_s (.int .i64 (f0.V.length : Int)) (by kernel_rfl) ?_
    refine ql_s (.pointer (some ⟨b2, 0, none⟩)) (by kernel_rfl) ?_
    refine ql_s (.pointer (some ⟨b2, 2, none⟩)) (by kernel_rfl) ?_
    refine ql_q rfl (qs_ldpt encV fitv3 rfl 0 rfl (.int .i64 f0.Region.W) (Nat.le_of_ble_eq_true rfl) rfl) ?_
    refine ql_s (.pointer (some ⟨b2, 0, none⟩)) (by kernel_rfl) ?_
    refine ql_s (.pointer (some ⟨b2, 3, none⟩)) (by kernel_rfl) ?_
    refine ql_q rfl (qs_ldpt encV fitv3 rfl 0 rfl (.int .i64 f0.Region.H) (Nat.le_of_ble_eq_true rfl) rfl) ?_
    refine ql_s (.int .i64 (mulI f0.Region.W f0.Region.H)) (by kernel_rfl) ?_
    refine ql_s (.bool ((f0.V.length : Int) != (mulI f0.Region.W f0.Region.H))) (by kernel_rfl) ?_
    refine ql_nil ?_
    refine e_then ?_
    refine c_cond (((f0.V.length : Int) != (mulI f0.Region.W f0.Region.H))) rfl (fun ht2 => ?_) (fun ht2 => ?_)
    · skip
      replace hp := if_t ht2 hp
      refine c_seq ?_
      refine c_quiet ?_
      refine ql_s (.int .i64 2) (by kernel_rfl) ?_
      refine ql_nil ?_
      refine e_drop ?_
      refine e_then ?_
      refine c_ret ?_
      refine e_then_ret ?_
      obtain rfl := Option.some.inj hp
      exact post_all (vs := [.int .i64 2]) (.int .i64 2) ⟨rfl, trivial⟩ rfl (.inl rfl) (fun w hS => ⟨rfl, hS⟩)
    · skip
      replace hp := if_f ht2 hp
      refine c_skip ?_
      refine e_then ?_
      refine c_seq ?_
      obtain ⟨r2, hr2, hp⟩ := bnd_some hp
      refine c_quiet ?_
      refine ql_s (.pointer (some ⟨b2, 4, none⟩)) (by kernel_rfl) ?_
      refine ql_q rfl (qs_ldpt encV fitv24 rfl 0 rfl (.slice f0_v1a f0.V.length f0_v1c) (Nat.le_of_ble_eq_true rfl) rfl) ?_
      refine ql_call (v := .int .i64 r2) rfl (run_call (vs := [.slice f0_v1a f0.V.length f0_v1c]) rfl Try.call11 rfl) (fun w hS => (tarnref2_NumberError_s f0.V f0_v1a f0_v1c _ f0_h1 _ _ hr2 w (hS)).mono fun e w' h => ⟨h.1, h.2⟩) ?_
      refine ql_s (.int .i64 r2) (by kernel_rfl) ?_
      refine ql_nil ?_
      refine e_drop ?_
      refine e_then ?_
      refine c_ret ?_
      obtain rfl := Option.some.inj hp
      exact post_all (vs := [.int .i64 r2]) (.int .i64 r2) ⟨rfl, trivial⟩ rfl (.inl rfl) (fun w hS => ⟨rfl, hS⟩)

-- tarnfell/tarnref2.Has
set_option maxRecDepth 100000 in
set_option maxHeartbeats 4000000 in
theorem tarnref2_Has_s (r0 : S_api_Region) (x0 : Int) (y0 : Int) (D : PH)  (F : List Assert) (r : Bool) (hp : tarnref2_Has_p r0 x0 y0 = some r) : ∀ w : World, SInv D (F) w → Calls Try.prog 42 #[.agg #[.int .i64 r0.X, .int .i64 r0.Y, .int .i64 r0.W, .int .i64 r0.H], .int .i64 x0, .int .i64 y0] w (fun e w' => e = .returned (.bool r) ∧ SInv D (F) w') := by
  intro w hS
  refine call_intro Try.func42 rfl Try.ntmps42 (Nat.le_of_ble_eq_true rfl) hS ?_
  clear hS w
  unfold tarnref2_Has_p at hp
  refine c_seq ?_
  refine c_region ?_
  refine l_box (cs := [.int .i64 r0.X, .int .i64 r0.Y, .int .i64 r0.W, .int .i64 r0.H]) rfl rfl (fun b2 => ?_)
  refine l_s (.bool false) (by kernel_rfl) ?_
  refine l_nil ?_
  refine e_then ?_
  refine c_seq ?_
  refine c_cutq_end [(6, .bool ((decide (x0 ≥ r0.X)) && ((decide (x0 < (addI r0.X r0.W))) && ((decide (y0 ≥ r0.Y)) && (decide (y0 < (addI r0.Y r0.H)))))))] ?_ ?_
  · skip
    refine c_quiet ?_
    refine ql_s (.int .i64 x0) (by kernel_rfl) ?_
    refine ql_s (.pointer (some ⟨b2, 0, none⟩)) (by kernel_rfl) ?_
    refine ql_q rfl (qs_ldpt encV fitv3 rfl 0 rfl (.int .i64 r0.X) (Nat.le_of_ble_eq_true rfl) rfl) ?_
    refine ql_s (.bool (decide (x0 ≥ r0.X))) (by kernel_rfl) ?_
    refine ql_s (.bool (decide (x0 ≥ r0.X))) (by kernel_rfl) ?_
    refine ql_case 11 (decide (x0 ≥ r0.X)) rfl (fun hg1 => ?_) (fun hg1 => ?_)
    · skip
      refine ql_s (.int .i64 x0) (by kernel_rfl) ?_
      refine ql_s (.pointer (some ⟨b2, 0, none⟩)) (by kernel_rfl) ?_
      refine ql_q rfl (qs_ldpt encV fitv3 rfl 0 rfl (.int .i64 r0.X) (Nat.le_of_ble_eq_true rfl) rfl) ?_
      refine ql_s (.pointer (some ⟨b2, 2, none⟩)) (by kernel_rfl) ?_
      refine ql_q rfl (qs_ldpt encV fitv3 rfl 0 rfl (.int .i64 r0.W) (Nat.le_of_ble_eq_true rfl) rfl) ?_
      refine ql_s (.int .i64 (addI r0.X r0.W)) (by kernel_rfl) ?_
      refine ql_s (.bool (decide (x0 < (addI r0.X r0.W)))) (by kernel_rfl) ?_
      refine ql_s (.bool (decide (x0 < (addI r0.X r0.W)))) (by kernel_rfl) ?_
      refine ql_s (.bool (decide (x0 < (addI r0.X r0.W)))) (by kernel_rfl) ?_
      refine ql_case 20 (decide (x0 < (addI r0.X r0.W))) rfl (fun hg2 => ?_) (fun hg2 => ?_)
      · skip
        refine ql_s (.int .i64 y0) (by kernel_rfl) ?_
        refine ql_s (.pointer (some ⟨b2, 1, none⟩)) (by kernel_rfl) ?_
        refine ql_q rfl (qs_ldpt encV fitv3 rfl 0 rfl (.int .i64 r0.Y) (Nat.le_of_ble_eq_true rfl) rfl) ?_
        refine ql_s (.bool (decide (y0 ≥ r0.Y))) (by kernel_rfl) ?_
        refine ql_s (.bool (decide (y0 ≥ r0.Y))) (by kernel_rfl) ?_
        refine ql_s (.bool (decide (y0 ≥ r0.Y))) (by kernel_rfl) ?_
        refine ql_case 26 (decide (y0 ≥ r0.Y)) rfl (fun hg3 => ?_) (fun hg3 => ?_)
        · skip
          refine ql_s (.int .i64 y0) (by kernel_rfl) ?_
          refine ql_s (.pointer (some ⟨b2, 1, none⟩)) (by kernel_rfl) ?_
          refine ql_q rfl (qs_ldpt encV fitv3 rfl 0 rfl (.int .i64 r0.Y) (Nat.le_of_ble_eq_true rfl) rfl) ?_
          refine ql_s (.pointer (some ⟨b2, 3, none⟩)) (by kernel_rfl) ?_
          refine ql_q rfl (qs_ldpt encV fitv3 rfl 0 rfl (.int .i64 r0.H) (Nat.le_of_ble_eq_true rfl) rfl) ?_
          refine ql_s (.int .i64 (addI r0.Y r0.H)) (by kernel_rfl) ?_
          refine ql_s (.bool (decide (y0 < (addI r0.Y r0.H)))) (by kernel_rfl) ?_
          refine ql_s (.bool (decide (y0 < (addI r0.Y r0.H)))) (by kernel_rfl) ?_
          refine ql_s (.bool (decide (y0 < (addI r0.Y r0.H)))) (by kernel_rfl) ?_
          refine ql_nil (e_cutq ?_)
          exact ⟨(congrArg Value.bool (by first | rfl | (rw [hg1, hg2, hg3]; rfl) | simp [hg1, hg2, hg3])), trivial⟩
        · skip
          refine ql_s undef (by kernel_rfl) ?_
          refine ql_s undef (by kernel_rfl) ?_
          refine ql_s undef (by kernel_rfl) ?_
          refine ql_s undef (by kernel_rfl) ?_
          refine ql_s undef (by kernel_rfl) ?_
          refine ql_s undef (by kernel_rfl) ?_
          refine ql_s undef (by kernel_rfl) ?_
          refine ql_s (.bool false) (by kernel_rfl) ?_
          refine ql_s (.bool false) (by kernel_rfl) ?_
          refine ql_nil (e_cutq ?_)
          exact ⟨(congrArg Value.bool (by first | rfl | (rw [hg1, hg2, hg3]; rfl) | simp [hg1, hg2, hg3])), trivial⟩
      · skip
        refine ql_s undef (by kernel_rfl) ?_
        refine ql_s undef (by kernel_rfl) ?_
        refine ql_s undef (by kernel_rfl) ?_
        refine ql_s undef (by kernel_rfl) ?_
        refine ql_s (.bool false) (by kernel_rfl) ?_
        refine ql_s (.bool false) (by kernel_rfl) ?_
        refine ql_s undef (by kernel_rfl) ?_
        refine ql_s undef (by kernel_rfl) ?_
        refine ql_s undef (by kernel_rfl) ?_
        refine ql_s undef (by kernel_rfl) ?_
        refine ql_s undef (by kernel_rfl) ?_
        refine ql_s undef (by kernel_rfl) ?_
        refine ql_s undef (by kernel_rfl) ?_
        refine ql_s (.bool false) (by kernel_rfl) ?_
        refine ql_s (.bool false) (by kernel_rfl) ?_
        refine ql_nil (e_cutq ?_)
        exact ⟨(congrArg Value.bool (by first | rfl | (rw [hg1, hg2]; rfl) | simp [hg1, hg2])), trivial⟩
    · skip
      refine ql_s undef (by kernel_rfl) ?_
      refine ql_s undef (by kernel_rfl) ?_
      refine ql_s undef (by kernel_rfl) ?_
      refine ql_s undef (by kernel_rfl) ?_
      refine ql_s undef (by kernel_rfl) ?_
      refine ql_s undef (by kernel_rfl) ?_
      refine ql_s undef (by kernel_rfl) ?_
      refine ql_s (.bool false) (by kernel_rfl) ?_
      refine ql_s (.bool false) (by kernel_rfl) ?_
      refine ql_s undef (by kernel_rfl) ?_
      refine ql_s undef (by kernel_rfl) ?_
      refine ql_s undef (by kernel_rfl) ?_
      refine ql_s undef (by kernel_rfl) ?_
      refine ql_s (.bool false) (by kernel_rfl) ?_
      refine ql_s (.bool false) (by kernel_rfl) ?_
      refine ql_s undef (by kernel_rfl) ?_
      refine ql_s undef (by kernel_rfl) ?_
      refine ql_s undef (by kernel_rfl) ?_
      refine ql_s undef (by kernel_rfl) ?_
      refine ql_s undef (by kernel_rfl) ?_
      refine ql_s undef (by kernel_rfl) ?_
      refine ql_s undef (by kernel_rfl) ?_
      refine ql_s (.bool false) (by kernel_rfl) ?_
      refine ql_s (.bool false) (by kernel_rfl) ?_
      refine ql_nil (e_cutq ?_)
      exact ⟨(congrArg Value.bool (by first | rfl | (rw [hg1]; rfl) | simp [hg1])), trivial⟩
  intro _
  refine e_then ?_
  refine c_ret ?_
  obtain rfl := Option.some.inj hp
  exact post_all (vs := [.bool ((decide (x0 ≥ r0.X)) && ((decide (x0 < (addI r0.X r0.W))) && ((decide (y0 ≥ r0.Y)) && (decide (y0 < (addI r0.Y r0.H))))))]) (.bool ((decide (x0 ≥ r0.X)) && ((decide (x0 < (addI r0.X r0.W))) && ((decide (y0 ≥ r0.Y)) && (decide (y0 < (addI r0.Y r0.H))))))) ⟨rfl, trivial⟩ rfl (.inl rfl) (fun w hS => ⟨rfl, hS.tail⟩)

-- tarnfell/tarnref2.Step
set_option maxRecDepth 100000 in
set_option maxHeartbeats 4000000 in
theorem tarnref2_Step_s (d0 : Int) (D : PH)  (F : List Assert) (r : Int × Int) (hp : tarnref2_Step_p d0 = some r) : ∀ w : World, SInv D (F) w → Calls Try.prog 84 #[.int .i64 d0] w (fun e w' => e = .returned (.tuple #[.int .i64 r.1, .int .i64 r.2]) ∧ SInv D (F) w') := by
  intro w hS
  refine call_intro Try.func84 rfl Try.ntmps84 (Nat.le_of_ble_eq_true rfl) hS ?_
  clear hS w
  unfold tarnref2_Step_p at hp
  refine c_seq ?_
  refine c_quiet ?_
  refine ql_s (.int .i64 0) (by kernel_rfl) ?_
  refine ql_s (.int .i64 0) (by kernel_rfl) ?_
  refine ql_nil ?_
  refine e_then ?_
  refine c_seq ?_
  refine c_region ?_
  refine l_bslS (cs := [.int .i64 1, .int .i64 1, .int .i64 0, .int .i64 (-1), .int .i64 (-1), .int .i64 (-1), .int .i64 0, .int .i64 1]) (E := 3) (e := encI .i64) ([1, 1, 0, (-1), (-1), (-1), 0, 1] : List Int) rfl (by kernel_rfl) rfl rfl (Nat.le_of_ble_eq_true rfl) ⟨rfl, rfl, rfl, rfl, rfl, rfl, rfl, rfl, trivial⟩ (fun b2 cp2 => ?_)
  refine l_s (.slice (some ⟨b2, 0, none⟩) (([1, 1, 0, (-1), (-1), (-1), 0, 1] : List Int).length) cp2) (by kernel_rfl) ?_
  refine l_nil ?_
  refine e_then ?_
  refine c_seq ?_
  refine c_region ?_
  refine l_bslS (cs := [.int .i64 0, .int .i64 1, .int .i64 1, .int .i64 1, .int .i64 0, .int .i64 (-1), .int .i64 (-1), .int .i64 (-1)]) (E := 3) (e := encI .i64) ([0, 1, 1, 1, 0, (-1), (-1), (-1)] : List Int) rfl (by kernel_rfl) rfl rfl (Nat.le_of_ble_eq_true rfl) ⟨rfl, rfl, rfl, rfl, rfl, rfl, rfl, rfl, trivial⟩ (fun b4 cp4 => ?_)
  refine l_s (.slice (some ⟨b4, 0, none⟩) (([0, 1, 1, 1, 0, (-1), (-1), (-1)] : List Int).length) cp4) (by kernel_rfl) ?_
  refine l_nil ?_
  refine e_then ?_
  refine c_seq ?_
  obtain ⟨x1, hx1, hp⟩ := bnd_some hp
  obtain ⟨x2, hx2, hp⟩ := bnd_some hp
  refine c_quiet_draw hmix (by kernel_rfl) ?_
  refine ql_s (.slice (some ⟨b2, 0, none⟩) (([1, 1, 0, (-1), (-1), (-1), 0, 1] : List Int).length) cp2) (by kernel_rfl) ?_
  refine ql_s (.int .i64 d0) (by kernel_rfl) ?_
  refine ql_q rfl (qs_idx (IsIdx.beg (e := encI .i64) (Beg.of b2 _) rfl hx1) Try.underlying75 fit3 rfl rfl) ?_
  refine ql_q rfl (qs_ldS fit3 (Beg.of b2 _) rfl rfl 1 rfl (idx_some hx1).2.2 (v := .int .i64 x1) valI) ?_
  refine ql_s (.slice (some ⟨b4, 0, none⟩) (([0, 1, 1, 1, 0, (-1), (-1), (-1)] : List Int).length) cp4) (by kernel_rfl) ?_
  refine ql_s (.int .i64 d0) (by kernel_rfl) ?_
  refine ql_q rfl (qs_idx (IsIdx.beg (e := encI .i64) (Beg.of b4 _) rfl hx2) Try.underlying75 fit3 rfl rfl) ?_
  refine ql_q rfl (qs_ldS fit3 (Beg.of b4 _) rfl rfl 0 rfl (idx_some hx2).2.2 (v := .int .i64 x2) valI) ?_
  refine ql_s (.int .i64 x1) (by kernel_rfl) ?_
  refine ql_s (.int .i64 x2) (by kernel_rfl) ?_
  refine ql_nil ?_
  refine e_drop ?_
  refine e_drop ?_
  refine e_then ?_
  refine c_ret ?_
  obtain rfl := Option.some.inj hp
  exact post_all (vs := [.int .i64 x1, .int .i64 x2]) (.tuple #[.int .i64 x1, .int .i64 x2]) ⟨rfl, rfl, trivial⟩ rfl (.inl rfl) (fun w hS => ⟨rfl, hS⟩)

-- tarnfell/tarnref2.Leap
set_option maxRecDepth 100000 in
set_option maxHeartbeats 4000000 in
theorem tarnref2_Leap_s (a0 : S_api_Point) (b0 : S_api_Point) (D : PH)  (F : List Assert) (r : Int × Int) (hp : tarnref2_Leap_p a0 b0 = some r) : ∀ w : World, SInv D (F) w → Calls Try.prog 43 #[.agg #[.int .i64 a0.X, .int .i64 a0.Y], .agg #[.int .i64 b0.X, .int .i64 b0.Y]] w (fun e w' => e = .returned (.tuple #[.int .i64 r.1, .int .i64 r.2]) ∧ SInv D (F) w') := by
  intro w hS
  refine call_intro Try.func43 rfl Try.ntmps43 (Nat.le_of_ble_eq_true rfl) hS ?_
  clear hS w
  unfold tarnref2_Leap_p at hp
  refine c_seq ?_
  refine c_region ?_
  refine l_box (cs := [.int .i64 a0.X, .int .i64 a0.Y]) rfl rfl (fun b3 => ?_)
  refine l_box (cs := [.int .i64 b0.X, .int .i64 b0.Y]) rfl rfl (fun b4 => ?_)
  refine l_s (.int .i64 0) (by kernel_rfl) ?_
  refine l_s (.int .i64 0) (by kernel_rfl) ?_
  refine l_nil ?_
  refine e_then ?_
  refine c_seq ?_
  refine c_quiet_draw hmix (by kernel_rfl) ?_
  refine ql_s (.pointer (some ⟨b4, 0, none⟩)) (by kernel_rfl) ?_
  refine ql_q rfl (qs_ldpt encV fitv3 rfl 0 rfl (.int .i64 b0.X) (Nat.le_of_ble_eq_true rfl) rfl) ?_
  refine ql_s (.pointer (some ⟨b3, 0, none⟩)) (by kernel_rfl) ?_
  refine ql_q rfl (qs_ldpt encV fitv3 rfl 1 rfl (.int .i64 a0.X) (Nat.le_of_ble_eq_true rfl) rfl) ?_
  refine ql_s (.int .i64 (subI b0.X a0.X)) (by kernel_rfl) ?_
  refine ql_s (.pointer (some ⟨b4, 1, none⟩)) (by kernel_rfl) ?_
  refine ql_q rfl (qs_ldpt encV fitv3 rfl 0 rfl (.int .i64 b0.Y) (Nat.le_of_ble_eq_true rfl) rfl) ?_
  refine ql_s (.pointer (some ⟨b3, 1, none⟩)) (by kernel_rfl) ?_
  refine ql_q rfl (qs_ldpt encV fitv3 rfl 1 rfl (.int .i64 a0.Y) (Nat.le_of_ble_eq_true rfl) rfl) ?_
  refine ql_s (.int .i64 (subI b0.Y a0.Y)) (by kernel_rfl) ?_
  refine ql_s (.int .i64 (subI b0.X a0.X)) (by kernel_rfl) ?_
  refine ql_s (.int .i64 (subI b0.Y a0.Y)) (by kernel_rfl) ?_
  refine ql_nil ?_
  refine e_drop ?_
  refine e_drop ?_
  refine e_then ?_
  refine c_seq ?_
  refine c_seq ?_
  refine c_quiet ?_
  refine ql_s (.int .i64 0) (by kernel_rfl) ?_
  refine ql_nil ?_
  refine e_then ?_
  have hm0 : (8 : Nat) = ((8 : Int)).toNat := rfl
  have hb0 : ((8 : Int)) ≤ 4611686018427387904 := by decide
  have hm1 := hm0; have hb1 := hb0; clear hm0 hb0
  obtain ⟨x1, hs1, hp⟩ := bnd_some hp
  obtain ⟨body1, hbody1, hs1⟩ := forI_gen hs1
  refine c_cut_end (fun φ1 D1 As1 => ∃ (s1 : Unit), x1 = .go s1 ∧ Is φ1 [] ∧ PH.le D D1 ∧ As1 = F) ?_ ?_
  · skip
    refine c_block ?_
    refine c_loop (fun k φ1 D2 As1 => ∃ (j1 i1 : Nat) (s2 : Unit), k = j1 + 1 ∧ i1 + j1 = 8 ∧ Is φ1 [(6, .int .i64 (subI b0.X a0.X)), (7, .int .i64 (subI b0.Y a0.Y)), (22, .int .i64 (i1 : Int))] ∧ PH.le D D2 ∧ As1 = F ∧ forI body1 j1 i1 s2 = some x1) ⟨8 + 1, 8, 0, (), rfl, Nat.zero_add _, ⟨rfl, rfl, rfl, trivial⟩, (PH.le_refl _), rfl, hs1⟩ ?_ ?_
    · rintro _ _ _ ⟨_, _, _, h0, _⟩; omega
    intro k1
    rintro φ1 D2 As1 ⟨j1, i1, s2, hk1, hij1, hI1, hD1, hA1, hs2⟩
    subst As1
    refine c_frame _ hI1 ?_
    obtain rfl : k1 = j1 := by omega
    clear hk1
    rcases k1 with _ | j1
    · skip
      refine c_seq ?_
      refine c_quiet ?_
      refine ql_s (.bool (decide ((i1 : Int) < 8))) (by kernel_rfl) ?_
      refine ql_nil ?_
      refine e_then ?_
      refine c_seq ?_
      refine c_cond (decide ((i1 : Int) < 8)) rfl (fun ht1 => absurd ((dec_lt_f hm1 (by omega)).symm.trans ht1) (by simp)) (fun _ => ?_)
      refine c_exit ?_
      refine e_then_exit ?_
      refine e_then_exit ?_
      obtain rfl := Option.some.inj hs2
      refine e_blk_exit ?_
      exact e_cut ⟨(), rfl, trivial, hD1, rfl⟩
    · skip
      obtain ⟨y1, hx1, hs2⟩ := forI_some hs2
      replace hx1 := (congrFun (congrFun hbody1 i1) s2).trans hx1
      refine c_seq ?_
      refine c_quiet ?_
      refine ql_s (.bool (decide ((i1 : Int) < 8))) (by kernel_rfl) ?_
      refine ql_nil ?_
      refine e_then ?_
      refine c_seq ?_
      refine c_cond (decide ((i1 : Int) < 8)) rfl (fun _ => ?_) (fun ht2 => absurd ((dec_lt_t hm1 (by omega)).symm.trans ht2) (by simp))
      refine c_skip ?_
      refine e_then ?_
      refine c_seq ?_
      refine c_block ?_
      refine c_seq ?_
      refine c_quiet ?_
      refine ql_s (.int .i64 (i1 : Int)) (by kernel_rfl) ?_
      refine ql_s (.int .i64 (i1 : Int)) (by kernel_rfl) ?_
      refine ql_nil ?_
      refine e_then ?_
      refine c_seq ?_
      obtain ⟨r1, hr1, hx1⟩ := bnd_some hx1
      refine c_quiet ?_
      refine ql_s (.int .i64 (i1 : Int)) (by kernel_rfl) ?_
      refine ql_call (v := .tuple #[.int .i64 r1.1, .int .i64 r1.2]) rfl (run_call (vs := [.int .i64 (i1 : Int)]) rfl Try.call84 rfl) (fun w hS => (tarnref2_Step_s (i1 : Int) _  _ _ hr1 w (hS)).mono fun e w' h => ⟨h.1, h.2⟩) ?_
      refine ql_s (.tuple #[.int .i64 r1.1, .int .i64 r1.2]) (by kernel_rfl) ?_
      refine ql_s (.int .i64 r1.1) (by kernel_rfl) ?_
      refine ql_s (.int .i64 r1.2) (by kernel_rfl) ?_
      refine ql_s (.int .i64 r1.1) (by kernel_rfl) ?_
      refine ql_s (.int .i64 r1.2) (by kernel_rfl) ?_
      refine ql_nil ?_
      refine e_then ?_
      refine c_seq ?_
      obtain ⟨n_1, hn_1, hx1⟩ := bnd_some hx1
      replace hn_1 := Option.some.inj hn_1
      refine c_quiet ?_
      refine ql_s (.int .i64 (subI b0.X a0.X)) (by kernel_rfl) ?_
      refine ql_s (.int .i64 (subI b0.X a0.X)) (by kernel_rfl) ?_
      refine ql_s (.int .i64 (subI 0 (subI b0.X a0.X))) (by kernel_rfl) ?_
      refine ql_s (.int .i64 (subI b0.Y a0.Y)) (by kernel_rfl) ?_
      refine ql_s (.int .i64 (subI b0.Y a0.Y)) (by kernel_rfl) ?_
      refine ql_s (.int .i64 (subI 0 (subI b0.Y a0.Y))) (by kernel_rfl) ?_
      refine ql_q rfl (qs_max rfl) ?_
      refine ql_s (.int .i64 n_1) (congrArg (fun z => some (Value.int .i64 z)) hn_1) ?_
      refine ql_nil ?_
      refine e_then ?_
      refine c_seq ?_
      refine c_cutq_end [(6, .int .i64 (subI b0.X a0.X)), (7, .int .i64 (subI b0.Y a0.Y)), (8, .int .i64 (i1 : Int)), (11, .int .i64 n_1), (22, .int .i64 (i1 : Int)), (52, .bool ((decide (n_1 > 0)) && (((mulI r1.1 n_1) == (subI b0.X a0.X)) && ((mulI r1.2 n_1) == (subI b0.Y a0.Y)))))] ?_ ?_
      · skip
        refine c_quiet ?_
        refine ql_s (.int .i64 n_1) (by kernel_rfl) ?_
        refine ql_s (.bool (decide (n_1 > 0))) (by kernel_rfl) ?_
        refine ql_s (.bool (decide (n_1 > 0))) (by kernel_rfl) ?_
        refine ql_case 39 (decide (n_1 > 0)) rfl (fun hg1 => ?_) (fun hg1 => ?_)
        · skip
          refine ql_s (.int .i64 r1.1) (by kernel_rfl) ?_
          refine ql_s (.int .i64 n_1) (by kernel_rfl) ?_
          refine ql_s (.int .i64 (mulI r1.1 n_1)) (by kernel_rfl) ?_
          refine ql_s (.int .i64 (subI b0.X a0.X)) (by kernel_rfl) ?_
          refine ql_s (.bool ((mulI r1.1 n_1) == (subI b0.X a0.X))) (by kernel_rfl) ?_
          refine ql_s (.bool ((mulI r1.1 n_1) == (subI b0.X a0.X))) (by kernel_rfl) ?_
          refine ql_s (.bool ((mulI r1.1 n_1) == (subI b0.X a0.X))) (by kernel_rfl) ?_
          refine ql_case 46 (((mulI r1.1 n_1) == (subI b0.X a0.X))) rfl (fun hg2 => ?_) (fun hg2 => ?_)
          · skip
            refine ql_s (.int .i64 r1.2) (by kernel_rfl) ?_
            refine ql_s (.int .i64 n_1) (by kernel_rfl) ?_
            refine ql_s (.int .i64 (mulI r1.2 n_1)) (by kernel_rfl) ?_
            refine ql_s (.int .i64 (subI b0.Y a0.Y)) (by kernel_rfl) ?_
            refine ql_s (.bool ((mulI r1.2 n_1) == (subI b0.Y a0.Y))) (by kernel_rfl) ?_
            refine ql_s (.bool ((mulI r1.2 n_1) == (subI b0.Y a0.Y))) (by kernel_rfl) ?_
            refine ql_nil (e_cutq ?_)
            exact ⟨rfl, rfl, rfl, rfl, rfl, (congrArg Value.bool (by first | rfl | (rw [hg1, hg2]; rfl) | simp [hg1, hg2])), trivial⟩
          · skip
            refine ql_s undef (by kernel_rfl) ?_
            refine ql_s undef (by kernel_rfl) ?_
            refine ql_s undef (by kernel_rfl) ?_
            refine ql_s undef (by kernel_rfl) ?_
            refine ql_s undef (by kernel_rfl) ?_
            refine ql_s (.bool false) (by kernel_rfl) ?_
            refine ql_nil (e_cutq ?_)
            exact ⟨rfl, rfl, rfl, rfl, rfl, (congrArg Value.bool (by first | rfl | (rw [hg1, hg2]; rfl) | simp [hg1, hg2])), trivial⟩
        · skip
          refine ql_s undef (by kernel_rfl) ?_
          refine ql_s undef (by kernel_rfl) ?_
          refine ql_s undef (by kernel_rfl) ?_
          refine ql_s undef (by kernel_rfl) ?_
          refine ql_s undef (by kernel_rfl) ?_
          refine ql_s (.bool false) (by kernel_rfl) ?_
          refine ql_s (.bool false) (by kernel_rfl) ?_
          refine ql_s undef (by kernel_rfl) ?_
          refine ql_s undef (by kernel_rfl) ?_
          refine ql_s undef (by kernel_rfl) ?_
          refine ql_s undef (by kernel_rfl) ?_
          refine ql_s undef (by kernel_rfl) ?_
          refine ql_s (.bool false) (by kernel_rfl) ?_
          refine ql_nil (e_cutq ?_)
          exact ⟨rfl, rfl, rfl, rfl, rfl, (congrArg Value.bool (by first | rfl | (rw [hg1]; rfl) | simp [hg1])), trivial⟩
      intro _
      refine e_then ?_
      refine c_cond (((decide (n_1 > 0)) && (((mulI r1.1 n_1) == (subI b0.X a0.X)) && ((mulI r1.2 n_1) == (subI b0.Y a0.Y))))) rfl (fun ht3 => ?_) (fun ht3 => ?_)
      · skip
        replace hx1 := if_t ht3 hx1
        refine c_seq ?_
        refine c_quiet ?_
        refine ql_s (.int .i64 (i1 : Int)) (by kernel_rfl) ?_
        refine ql_s (.int .i64 n_1) (by kernel_rfl) ?_
        refine ql_s (.int .i64 (i1 : Int)) (by kernel_rfl) ?_
        refine ql_s (.int .i64 n_1) (by kernel_rfl) ?_
        refine ql_nil ?_
        refine e_then ?_
        refine c_ret ?_
        refine e_blk_ret ?_
        refine e_then_ret ?_
        refine e_then_ret ?_
        obtain rfl := Option.some.inj hx1
        obtain rfl := hs2
        refine e_blk_ret ?_
        refine e_then_ret ?_
        dsimp only at hp
        refine e_then_ret ?_
        obtain rfl := Option.some.inj hp
        exact post_all (vs := [.int .i64 (i1 : Int), .int .i64 n_1]) (.tuple #[.int .i64 (i1 : Int), .int .i64 n_1]) ⟨rfl, rfl, trivial⟩ rfl (.inl rfl) (fun w hS => ⟨rfl, (hS.lower hD1)⟩)
      · skip
        replace hx1 := if_f ht3 hx1
        refine c_skip ?_
        refine e_blk ?_
        refine e_then ?_
        refine c_quiet ?_
        refine ql_s (.int .i64 (addI (i1 : Int) 1)) (by kernel_rfl) ?_
        refine ql_s (.int .i64 (addI (i1 : Int) 1)) (by kernel_rfl) ?_
        refine ql_nil ?_
        obtain rfl := Option.some.inj hx1
        exact e_cut ⟨j1, i1 + 1, (), by omega, by omega, ⟨rfl, rfl, (congrArg (Value.int .i64) (addI_succ (by omega))), trivial⟩, hD1, rfl, hs2⟩
  · skip
    rintro φ2 D1 As2 ⟨s1, rfl, hI2, hD2, hA2⟩
    subst As2
    dsimp only at hp
    refine e_frame _ hI2 ?_
    refine e_then ?_
    refine c_seq ?_
    refine c_quiet ?_
    refine ql_s (.int .i64 0) (by kernel_rfl) ?_
    refine ql_s (.int .i64 0) (by kernel_rfl) ?_
    refine ql_nil ?_
    refine e_then ?_
    refine c_ret ?_
    obtain rfl := Option.some.inj hp
    exact post_all (vs := [.int .i64 0, .int .i64 0]) (.tuple #[.int .i64 0, .int .i64 0]) ⟨rfl, rfl, trivial⟩ rfl (.inl rfl) (fun w hS => ⟨rfl, (hS.lower hD2)⟩)

-- tarnfell/tarnref2.WayError
set_option maxRecDepth 100000 in
set_option maxHeartbeats 4000000 in
theorem tarnref2_WayError_s (b_f0 : Nat) (f0 : S_api_Field) (f0_v1a : Option Addr) (f0_v1c : Nat) (way0 : List S_api_Point) (way0_v1a : Option Addr) (way0_v1c : Nat) (D : PH) (f0_h1 : RO (encF .f32) D (.slice f0_v1a f0.V.length f0_v1c) f0.V) (way0_h1 : RO encS_api_Point D (.slice way0_v1a way0.length way0_v1c) way0) (F : List Assert) (r : Int) (hp : tarnref2_WayError_p f0 way0 = some r) : ∀ w : World, SInv D (pt b_f0 [.int .i64 f0.Region.X, .int .i64 f0.Region.Y, .int .i64 f0.Region.W, .int .i64 f0.Region.H, .slice f0_v1a f0.V.length f0_v1c] 26 :: F) w → Calls Try.prog 9 #[.pointer (some ⟨b_f0, 0, none⟩), .slice way0_v1a way0.length way0_v1c] w (fun e w' => e = .returned (.int .i64 r) ∧ SInv D (pt b_f0 [.int .i64 f0.Region.X, .int .i64 f0.Region.Y, .int .i64 f0.Region.W, .int .i64 f0.Region.H, .slice f0_v1a f0.V.length f0_v1c] 26 :: F) w') := by
  intro w hS
  refine call_intro Try.func9 rfl Try.ntmps9 (Nat.le_of_ble_eq_true rfl) hS ?_
  clear hS w
  unfold tarnref2_WayError_p at hp
  refine c_seq ?_
  refine c_quiet ?_
  refine ql_s (.int .i64 0) (by kernel_rfl) ?_
  refine ql_nil ?_
  refine e_then ?_
  refine c_seq ?_
  refine c_seq ?_
  refine c_quiet ?_
  refine ql_s (.slice way0_v1a way0.length way0_v1c) (by kernel_rfl) ?_
  refine ql_s (.int .i64 (way0.length : Int)) (by kernel_rfl) ?_
  refine ql_s (.bool ((way0.length : Int) == 0)) (by kernel_rfl) ?_
  refine ql_nil ?_
  refine e_then ?_
  refine c_cond (((way0.length : Int) == 0)) rfl (fun ht1 => ?_) (fun ht1 => ?_)
  · skip
    replace hp := if_t ht1 hp
    refine c_seq ?_
    refine c_quiet ?_
    refine ql_s (.int .i64 10) (by kernel_rfl) ?_
    refine ql_nil ?_
    refine e_then ?_
    refine c_ret ?_
    refine e_then_ret ?_
    obtain rfl := Option.some.inj hp
    exact post_all (vs := [.int .i64 10]) (.int .i64 10) ⟨rfl, trivial⟩ rfl (.inl rfl) (fun w hS => ⟨rfl, hS⟩)
  · skip
    replace hp := if_f ht1 hp
    refine c_skip ?_
    refine e_then ?_
    refine c_seq ?_
    refine c_seq ?_
    refine c_quiet ?_
    refine ql_s (.slice way0_v1a way0.length way0_v1c) (by kernel_rfl) ?_
    refine ql_s (.int .i64 (way0.length : Int)) (by kernel_rfl) ?_
    refine ql_s (.bool (decide ((way0.length : Int) > 65536))) (by kernel_rfl) ?_
    refine ql_nil ?_
    refine e_then ?_
    refine c_cond (decide ((way0.length : Int) > 65536)) rfl (fun ht2 => ?_) (fun ht2 => ?_)
    · skip
      replace hp := if_t ht2 hp
      refine c_seq ?_
      refine c_quiet ?_
      refine ql_s (.int .i64 4) (by kernel_rfl) ?_
      refine ql_nil ?_
      refine e_then ?_
      refine c_ret ?_
      refine e_then_ret ?_
      obtain rfl := Option.some.inj hp
      exact post_all (vs := [.int .i64 4]) (.int .i64 4) ⟨rfl, trivial⟩ rfl (.inl rfl) (fun w hS => ⟨rfl, hS⟩)
    · skip
      replace hp := if_f ht2 hp
      refine c_skip ?_
      refine e_then ?_
      refine c_seq ?_
      refine c_seq ?_
      refine c_quiet ?_
      refine ql_s (.slice way0_v1a way0.length way0_v1c) (by kernel_rfl) ?_
      refine ql_s (.int .i64 (way0.length : Int)) (by kernel_rfl) ?_
      refine ql_s (.int .i64 0) (by kernel_rfl) ?_
      refine ql_nil ?_
      refine e_then ?_
      have hb0 : (way0.length : Int) ≤ 4611686018427387904 := by have := RO.bound way0_h1; omega
      have hm0 : way0.length = (way0.length : Int).toNat := by omega
      have hm1 := hm0; have hb1 := hb0; clear hm0 hb0
      obtain ⟨x1, hs1, hp⟩ := bnd_some hp
      obtain ⟨body1, hbody1, hs1⟩ := forI_gen hs1
      refine c_cut_end (fun φ1 D1 As1 => ∃ (s1 : Unit), x1 = .go s1 ∧ Is φ1 [] ∧ PH.le D D1 ∧ As1 = pt b_f0 [.int .i64 f0.Region.X, .int .i64 f0.Region.Y, .int .i64 f0.Region.W, .int .i64 f0.Region.H, .slice f0_v1a f0.V.length f0_v1c] 26 :: F) ?_ ?_
      · skip
        refine c_block ?_
        refine c_loop (fun k φ1 D2 As1 => ∃ (j1 i1 : Nat) (s2 : Unit), k = j1 + 1 ∧ i1 + j1 = way0.length ∧ Is φ1 [(0, .pointer (some ⟨b_f0, 0, none⟩)), (1, .slice way0_v1a way0.length way0_v1c), (15, .slice way0_v1a way0.length way0_v1c), (16, .int .i64 (way0.length : Int)), (17, .int .i64 (i1 : Int))] ∧ PH.le D D2 ∧ As1 = pt b_f0 [.int .i64 f0.Region.X, .int .i64 f0.Region.Y, .int .i64 f0.Region.W, .int .i64 f0.Region.H, .slice f0_v1a f0.V.length f0_v1c] 26 :: F ∧ forI body1 j1 i1 s2 = some x1) ⟨way0.length + 1, way0.length, 0, (), rfl, Nat.zero_add _, ⟨rfl, rfl, rfl, rfl, rfl, trivial⟩, (PH.le_refl _), rfl, hs1⟩ ?_ ?_
        · rintro _ _ _ ⟨_, _, _, h0, _⟩; omega
        intro k1
        rintro φ1 D2 As1 ⟨j1, i1, s2, hk1, hij1, hI1, hD1, hA1, hs2⟩
        subst As1
        replace way0_h1 := way0_h1.mono hD1
        replace f0_h1 := f0_h1.mono hD1
        refine c_frame _ hI1 ?_
        obtain rfl : k1 = j1 := by omega
        clear hk1
        rcases k1 with _ | j1
        · skip
          refine c_seq ?_
          refine c_quiet ?_
          refine ql_s (.bool (decide ((i1 : Int) < (way0.length : Int)))) (by kernel_rfl) ?_
          refine ql_nil ?_
          refine e_then ?_
          refine c_seq ?_
          refine c_cond (decide ((i1 : Int) < (way0.length : Int))) rfl (fun ht3 => absurd ((dec_lt_f hm1 (by omega)).symm.trans ht3) (by simp)) (fun _ => ?_)
          refine c_exit ?_
          refine e_then_exit ?_
          refine e_then_exit ?_
          obtain rfl := Option.some.inj hs2
          refine e_blk_exit ?_
          exact e_cut ⟨(), rfl, trivial, hD1, rfl⟩
        · skip
          obtain ⟨y1, hx1, hs2⟩ := forI_some hs2
          replace hx1 := (congrFun (congrFun hbody1 i1) s2).trans hx1
          refine c_seq ?_
          refine c_quiet ?_
          refine ql_s (.bool (decide ((i1 : Int) < (way0.length : Int)))) (by kernel_rfl) ?_
          refine ql_nil ?_
          refine e_then ?_
          refine c_seq ?_
          refine c_cond (decide ((i1 : Int) < (way0.length : Int))) rfl (fun _ => ?_) (fun ht4 => absurd ((dec_lt_t hm1 (by omega)).symm.trans ht4) (by simp))
          refine c_skip ?_
          refine e_then ?_
          refine c_seq ?_
          obtain ⟨x2, hs3, hx1⟩ := bnd_some hx1
          refine c_cut_end (fun φ1 D3 As1 => ∃ (s3 : Unit), x2 = .go s3 ∧ Is φ1 [(0, .pointer (some ⟨b_f0, 0, none⟩)), (1, .slice way0_v1a way0.length way0_v1c), (15, .slice way0_v1a way0.length way0_v1c), (16, .int .i64 (way0.length : Int)), (17, .int .i64 (i1 : Int))] ∧ PH.le D2 D3 ∧ As1 = pt b_f0 [.int .i64 f0.Region.X, .int .i64 f0.Region.Y, .int .i64 f0.Region.W, .int .i64 f0.Region.H, .slice f0_v1a f0.V.length f0_v1c] 26 :: F) ?_ ?_
          · skip
            refine c_block ?_
            refine c_seq ?_
            obtain ⟨x3, hx2, hs3⟩ := bnd_some hs3
            obtain ⟨b1, o1, h1, hq1⟩ := RO.at way0_h1 hx2
            obtain ⟨cs1, hc1, ha1⟩ := h1.cells
            obtain rfl := hc1
            refine c_region ?_
            refine l_s (.int .i64 (i1 : Int)) (by kernel_rfl) ?_
            refine l_q rfl (qs_idx hq1 Try.underlying27 fit71 rfl rfl) ?_
            refine l_q rfl (qs_ldC fit71 rfl ha1 rfl (.agg #[.int .i64 x3.X, .int .i64 x3.Y]) rfl) ?_
            refine l_alloc (zs := [.int .i64 0, .int .i64 0]) rfl (by kernel_rfl) (fun b3 => ?_)
            refine l_s (.int .i64 (i1 : Int)) (by kernel_rfl) ?_
            refine l_store (dd := none) (vs := [.int .i64 x3.X, .int .i64 x3.Y]) (cs' := [.int .i64 x3.X, .int .i64 x3.Y]) rfl (by kernel_rfl) (by kernel_rfl) rfl rfl (Nat.le_of_ble_eq_true rfl) rfl rfl ?_
            refine l_nil ?_
            refine e_then ?_
            refine c_seq ?_
            refine c_seq ?_
            obtain ⟨c1, hc2, hs3⟩ := bnd_some hs3
            refine c_cutq_end [(0, .pointer (some ⟨b_f0, 0, none⟩)), (1, .slice way0_v1a way0.length way0_v1c), (5, .int .i64 (i1 : Int)), (6, .pointer (some ⟨b3, 0, none⟩)), (15, .slice way0_v1a way0.length way0_v1c), (16, .int .i64 (way0.length : Int)), (17, .int .i64 (i1 : Int)), (55, .bool c1)] ?_ ?_
            · skip
              refine c_quiet_draw hmix (by kernel_rfl) ?_
              refine ql_s (.pointer (some ⟨b3, 0, none⟩)) (by kernel_rfl) ?_
              refine ql_q rfl (qs_ldpt encV fitv3 rfl 0 rfl (.int .i64 x3.X) (Nat.le_of_ble_eq_true rfl) rfl) ?_
              refine ql_s (.bool (decide (x3.X < (-4194304)))) (by kernel_rfl) ?_
              refine ql_s (.bool (decide (x3.X < (-4194304)))) (by kernel_rfl) ?_
              refine ql_case 25 (decide (x3.X < (-4194304))) rfl (fun hg1 => ?_) (fun hg1 => ?_)
              · skip
                replace hc2 := if_t hg1 hc2
                refine ql_s undef (by kernel_rfl) ?_
                refine ql_s undef (by kernel_rfl) ?_
                refine ql_s undef (by kernel_rfl) ?_
                refine ql_s (.bool true) (by kernel_rfl) ?_
                refine ql_s (.bool true) (by kernel_rfl) ?_
                refine ql_s undef (by kernel_rfl) ?_
                refine ql_s undef (by kernel_rfl) ?_
                refine ql_s undef (by kernel_rfl) ?_
                refine ql_s (.bool true) (by kernel_rfl) ?_
                refine ql_s (.bool true) (by kernel_rfl) ?_
                refine ql_s undef (by kernel_rfl) ?_
                refine ql_s undef (by kernel_rfl) ?_
                refine ql_s undef (by kernel_rfl) ?_
                refine ql_s (.bool true) (by kernel_rfl) ?_
                refine ql_s (.bool true) (by kernel_rfl) ?_
                refine ql_s undef (by kernel_rfl) ?_
                refine ql_s undef (by kernel_rfl) ?_
                refine ql_s undef (by kernel_rfl) ?_
                refine ql_s undef (by kernel_rfl) ?_
                refine ql_s undef (by kernel_rfl) ?_
                refine ql_s undef (by kernel_rfl) ?_
                refine ql_s undef (by kernel_rfl) ?_
                refine ql_s undef (by kernel_rfl) ?_
                refine ql_s undef (by kernel_rfl) ?_
                refine ql_s undef (by kernel_rfl) ?_
                refine ql_s undef (by kernel_rfl) ?_
                refine ql_s undef (by kernel_rfl) ?_
                refine ql_s undef (by kernel_rfl) ?_
                refine ql_s undef (by kernel_rfl) ?_
                refine ql_s (.bool true) (by kernel_rfl) ?_
                refine ql_nil (e_cutq ?_)
                obtain rfl := Option.some.inj hc2
                exact ⟨rfl, rfl, rfl, rfl, rfl, rfl, rfl, rfl, trivial⟩
              · skip
                replace hc2 := if_f hg1 hc2
                refine ql_s (.pointer (some ⟨b3, 0, none⟩)) (by kernel_rfl) ?_
                refine ql_q rfl (qs_ldpt encV fitv3 rfl 0 rfl (.int .i64 x3.X) (Nat.le_of_ble_eq_true rfl) rfl) ?_
                refine ql_s (.bool (decide (x3.X > 4194304))) (by kernel_rfl) ?_
                refine ql_s (.bool (decide (x3.X > 4194304))) (by kernel_rfl) ?_
                refine ql_s (.bool (decide (x3.X > 4194304))) (by kernel_rfl) ?_
                refine ql_case 30 (decide (x3.X > 4194304)) rfl (fun hg2 => ?_) (fun hg2 => ?_)
                · skip
                  replace hc2 := if_t hg2 hc2
                  refine ql_s undef (by kernel_rfl) ?_
                  refine ql_s undef (by kernel_rfl) ?_
                  refine ql_s undef (by kernel_rfl) ?_
                  refine ql_s (.bool true) (by kernel_rfl) ?_
                  refine ql_s (.bool true) (by kernel_rfl) ?_
                  refine ql_s undef (by kernel_rfl) ?_
                  refine ql_s undef (by kernel_rfl) ?_
                  refine ql_s undef (by kernel_rfl) ?_
                  refine ql_s (.bool true) (by kernel_rfl) ?_
                  refine ql_s (.bool true) (by kernel_rfl) ?_
                  refine ql_s undef (by kernel_rfl) ?_
                  refine ql_s undef (by kernel_rfl) ?_
                  refine ql_s undef (by kernel_rfl) ?_
                  refine ql_s undef (by kernel_rfl) ?_
                  refine ql_s undef (by kernel_rfl) ?_
                  refine ql_s undef (by kernel_rfl) ?_
                  refine ql_s undef (by kernel_rfl) ?_
                  refine ql_s undef (by kernel_rfl) ?_
                  refine ql_s undef (by kernel_rfl) ?_
                  refine ql_s undef (by kernel_rfl) ?_
                  refine ql_s undef (by kernel_rfl) ?_
                  refine ql_s undef (by kernel_rfl) ?_
                  refine ql_s undef (by kernel_rfl) ?_
                  refine ql_s undef (by kernel_rfl) ?_
                  refine ql_s (.bool true) (by kernel_rfl) ?_
                  refine ql_nil (e_cutq ?_)
                  obtain rfl := Option.some.inj hc2
                  exact ⟨rfl, rfl, rfl, rfl, rfl, rfl, rfl, rfl, trivial⟩
                · skip
                  replace hc2 := if_f hg2 hc2
                  refine ql_s (.pointer (some ⟨b3, 1, none⟩)) (by kernel_rfl) ?_
                  refine ql_q rfl (qs_ldpt encV fitv3 rfl 0 rfl (.int .i64 x3.Y) (Nat.le_of_ble_eq_true rfl) rfl) ?_
                  refine ql_s (.bool (decide (x3.Y < (-4194304)))) (by kernel_rfl) ?_
                  refine ql_s (.bool (decide (x3.Y < (-4194304)))) (by kernel_rfl) ?_
                  refine ql_s (.bool (decide (x3.Y < (-4194304)))) (by kernel_rfl) ?_
                  refine ql_case 35 (decide (x3.Y < (-4194304))) rfl (fun hg3 => ?_) (fun hg3 => ?_)
                  · skip
                    replace hc2 := if_t hg3 hc2
                    refine ql_s undef (by kernel_rfl) ?_
                    refine ql_s undef (by kernel_rfl) ?_
                    refine ql_s undef (by kernel_rfl) ?_
                    refine ql_s (.bool true) (by kernel_rfl) ?_
                    refine ql_s (.bool true) (by kernel_rfl) ?_
                    refine ql_s undef (by kernel_rfl) ?_
                    refine ql_s undef (by kernel_rfl) ?_
                    refine ql_s undef (by kernel_rfl) ?_
                    refine ql_s undef (by kernel_rfl) ?_
                    refine ql_s undef (by kernel_rfl) ?_
                    refine ql_s undef (by kernel_rfl) ?_
                    refine ql_s undef (by kernel_rfl) ?_
                    refine ql_s undef (by kernel_rfl) ?_
                    refine ql_s undef (by kernel_rfl) ?_
                    refine ql_s undef (by kernel_rfl) ?_
                    refine ql_s undef (by kernel_rfl) ?_
                    refine ql_s undef (by kernel_rfl) ?_
                    refine ql_s undef (by kernel_rfl) ?_
                    refine ql_s undef (by kernel_rfl) ?_
                    refine ql_s (.bool true) (by kernel_rfl) ?_
                    refine ql_nil (e_cutq ?_)
                    obtain rfl := Option.some.inj hc2
                    exact ⟨rfl, rfl, rfl, rfl, rfl, rfl, rfl, rfl, trivial⟩
                  · skip
                    replace hc2 := if_f hg3 hc2
                    refine ql_s (.pointer (some ⟨b3, 1, none⟩)) (by kernel_rfl) ?_
                    refine ql_q rfl (qs_ldpt encV fitv3 rfl 0 rfl (.int .i64 x3.Y) (Nat.le_of_ble_eq_true rfl) rfl) ?_
                    refine ql_s (.bool (decide (x3.Y > 4194304))) (by kernel_rfl) ?_
                    refine ql_s (.bool (decide (x3.Y > 4194304))) (by kernel_rfl) ?_
                    refine ql_s (.bool (decide (x3.Y > 4194304))) (by kernel_rfl) ?_
                    refine ql_case 40 (decide (x3.Y > 4194304)) rfl (fun hg4 => ?_) (fun hg4 => ?_)
                    · skip
                      replace hc2 := if_t hg4 hc2
                      refine ql_s undef (by kernel_rfl) ?_
                      refine ql_s undef (by kernel_rfl) ?_
                      refine ql_s undef (by kernel_rfl) ?_
                      refine ql_s undef (by kernel_rfl) ?_
                      refine ql_s undef (by kernel_rfl) ?_
                      refine ql_s undef (by kernel_rfl) ?_
                      refine ql_s undef (by kernel_rfl) ?_
                      refine ql_s undef (by kernel_rfl) ?_
                      refine ql_s undef (by kernel_rfl) ?_
                      refine ql_s undef (by kernel_rfl) ?_
                      refine ql_s undef (by kernel_rfl) ?_
                      refine ql_s undef (by kernel_rfl) ?_
                      refine ql_s undef (by kernel_rfl) ?_
                      refine ql_s undef (by kernel_rfl) ?_
                      refine ql_s (.bool true) (by kernel_rfl) ?_
                      refine ql_nil (e_cutq ?_)
                      obtain rfl := Option.some.inj hc2
                      exact ⟨rfl, rfl, rfl, rfl, rfl, rfl, rfl, rfl, trivial⟩
                    · skip
                      replace hc2 := if_f hg4 hc2
                      refine ql_s (.pointer (some ⟨b_f0, 0, none⟩)) (by kernel_rfl) ?_
                      refine ql_q rfl (qs_eqptr (op := .neq) Try.underlying34 rfl rfl (.inr rfl) (v := true) rfl) ?_
                      refine ql_s (.bool true) (by kernel_rfl) ?_
                      refine ql_s (.pointer (some ⟨b_f0, 0, none⟩)) (by kernel_rfl) ?_
                      refine ql_s (.pointer (some ⟨b_f0, 0, none⟩)) (by kernel_rfl) ?_
                      refine ql_s (.pointer (some ⟨b_f0, 0, none⟩)) (by kernel_rfl) ?_
                      refine ql_q rfl (qs_ldpt (encW 4 (by decide)) fitv23 rfl 1 rfl (.agg #[.int .i64 f0.Region.X, .int .i64 f0.Region.Y, .int .i64 f0.Region.W, .int .i64 f0.Region.H]) (Nat.le_of_ble_eq_true rfl) rfl) ?_
                      refine ql_s (.pointer (some ⟨b3, 0, none⟩)) (by kernel_rfl) ?_
                      refine ql_q rfl (qs_ldpt encV fitv3 rfl 0 rfl (.int .i64 x3.X) (Nat.le_of_ble_eq_true rfl) rfl) ?_
                      refine ql_s (.pointer (some ⟨b3, 1, none⟩)) (by kernel_rfl) ?_
                      refine ql_q rfl (qs_ldpt encV fitv3 rfl 0 rfl (.int .i64 x3.Y) (Nat.le_of_ble_eq_true rfl) rfl) ?_
                      obtain ⟨r1, hr1, hc2⟩ := bnd_some hc2
                      refine ql_call (v := .bool r1) rfl (run_call (vs := [.agg #[.int .i64 f0.Region.X, .int .i64 f0.Region.Y, .int .i64 f0.Region.W, .int .i64 f0.Region.H], .int .i64 x3.X, .int .i64 x3.Y]) rfl Try.call42 rfl) (fun w hS => (tarnref2_Has_s f0.Region x3.X x3.Y _  _ _ hr1 w (hS)).mono fun e w' h => ⟨h.1, h.2⟩) ?_
                      refine ql_s (.bool (!r1)) (by kernel_rfl) ?_
                      refine ql_s (.bool (!r1)) (by kernel_rfl) ?_
                      refine ql_s (.bool (!r1)) (by kernel_rfl) ?_
                      refine ql_nil (e_cutq ?_)
                      obtain rfl := Option.some.inj hc2
                      exact ⟨rfl, rfl, rfl, rfl, rfl, rfl, rfl, rfl, trivial⟩
            intro _
            refine e_then ?_
            refine c_cond (c1) rfl (fun ht5 => ?_) (fun ht5 => ?_)
            · skip
              replace hs3 := if_t ht5 hs3
              refine c_seq ?_
              refine c_quiet ?_
              refine ql_s (.int .i64 5) (by kernel_rfl) ?_
              refine ql_nil ?_
              refine e_drop ?_
              refine e_then ?_
              refine c_ret ?_
              refine e_then_ret ?_
              refine e_blk_ret ?_
              refine e_then_ret ?_
              obtain rfl := Option.some.inj hs3
              dsimp only at hx1
              refine e_then_ret ?_
              refine e_then_ret ?_
              obtain rfl := Option.some.inj hx1
              obtain rfl := hs2
              refine e_blk_ret ?_
              refine e_then_ret ?_
              dsimp only at hp
              refine e_then_ret ?_
              obtain rfl := Option.some.inj hp
              exact post_all (vs := [.int .i64 5]) (.int .i64 5) ⟨rfl, trivial⟩ rfl (.inl rfl) (fun w hS => ⟨rfl, (hS.lower hD1)⟩)
            · skip
              replace hs3 := if_f ht5 hs3
              refine c_skip ?_
              refine e_then ?_
              refine c_seq ?_
              refine c_quiet ?_
              refine ql_s (.int .i64 (i1 : Int)) (by kernel_rfl) ?_
              refine ql_s (.bool (decide ((i1 : Int) > 0))) (by kernel_rfl) ?_
              refine ql_nil ?_
              refine e_then ?_
              refine c_cond (decide ((i1 : Int) > 0)) rfl (fun ht6 => ?_) (fun ht6 => ?_)
              · skip
                replace hs3 := if_t ht6 hs3
                refine c_seq ?_
                obtain ⟨x4, hx3, hs3⟩ := bnd_some hs3
                obtain ⟨b4, o2, h2, hq2⟩ := RO.at way0_h1 hx3
                obtain ⟨cs2, hc3, ha2⟩ := h2.cells
                obtain rfl := hc3
                obtain ⟨r2, hr2, hs3⟩ := bnd_some hs3
                refine c_quiet_draw hmix (by kernel_rfl) ?_
                refine ql_s (.slice way0_v1a way0.length way0_v1c) (by kernel_rfl) ?_
                refine ql_s (.int .i64 (i1 : Int)) (by kernel_rfl) ?_
                refine ql_s (.int .i64 (subI (i1 : Int) 1)) (by kernel_rfl) ?_
                refine ql_q rfl (qs_idx hq2 Try.underlying27 fit71 rfl rfl) ?_
                refine ql_q rfl (qs_ldC fit71 rfl ha2 rfl (.agg #[.int .i64 x4.X, .int .i64 x4.Y]) rfl) ?_
                refine ql_q rfl (qs_ldpt (encW 2 (by decide)) fitv71 rfl 0 rfl (.agg #[.int .i64 x3.X, .int .i64 x3.Y]) (Nat.le_of_ble_eq_true rfl) rfl) ?_
                refine ql_call (v := .tuple #[.int .i64 r2.1, .int .i64 r2.2]) rfl (run_call (vs := [.agg #[.int .i64 x4.X, .int .i64 x4.Y], .agg #[.int .i64 x3.X, .int .i64 x3.Y]]) rfl Try.call43 rfl) (fun w hS => (tarnref2_Leap_s x4 x3 _  _ _ hr2 w (hS)).mono fun e w' h => ⟨h.1, h.2⟩) ?_
                refine ql_s (.tuple #[.int .i64 r2.1, .int .i64 r2.2]) (by kernel_rfl) ?_
                refine ql_s (.int .i64 r2.1) (by kernel_rfl) ?_
                refine ql_s (.int .i64 r2.2) (by kernel_rfl) ?_
                refine ql_s (.int .i64 r2.1) (by kernel_rfl) ?_
                refine ql_s (.int .i64 r2.2) (by kernel_rfl) ?_
                refine ql_nil ?_
                refine e_drop ?_
                refine e_then ?_
                refine c_seq ?_
                refine c_cutq_end [(0, .pointer (some ⟨b_f0, 0, none⟩)), (1, .slice way0_v1a way0.length way0_v1c), (15, .slice way0_v1a way0.length way0_v1c), (16, .int .i64 (way0.length : Int)), (17, .int .i64 (i1 : Int)), (73, .bool ((r2.2 == 0) || (decide (r2.2 > 12))))] ?_ ?_
                · skip
                  refine c_quiet ?_
                  refine ql_s (.int .i64 r2.2) (by kernel_rfl) ?_
                  refine ql_s (.bool (r2.2 == 0)) (by kernel_rfl) ?_
                  refine ql_s (.bool (r2.2 == 0)) (by kernel_rfl) ?_
                  refine ql_case 70 ((r2.2 == 0)) rfl (fun hg5 => ?_) (fun hg5 => ?_)
                  · skip
                    refine ql_s undef (by kernel_rfl) ?_
                    refine ql_s undef (by kernel_rfl) ?_
                    refine ql_s (.bool true) (by kernel_rfl) ?_
                    refine ql_nil (e_cutq ?_)
                    exact ⟨rfl, rfl, rfl, rfl, rfl, (congrArg Value.bool (by first | rfl | (rw [hg5]; rfl) | simp [hg5])), trivial⟩
                  · skip
                    refine ql_s (.int .i64 r2.2) (by kernel_rfl) ?_
                    refine ql_s (.bool (decide (r2.2 > 12))) (by kernel_rfl) ?_
                    refine ql_s (.bool (decide (r2.2 > 12))) (by kernel_rfl) ?_
                    refine ql_nil (e_cutq ?_)
                    exact ⟨rfl, rfl, rfl, rfl, rfl, (congrArg Value.bool (by first | rfl | (rw [hg5]; rfl) | simp [hg5])), trivial⟩
                intro _
                refine e_then ?_
                refine c_cond (((r2.2 == 0) || (decide (r2.2 > 12)))) rfl (fun ht7 => ?_) (fun ht7 => ?_)
                · skip
                  replace hs3 := if_t ht7 hs3
                  refine c_seq ?_
                  refine c_quiet ?_
                  refine ql_s (.int .i64 2) (by kernel_rfl) ?_
                  refine ql_nil ?_
                  refine e_then ?_
                  refine c_ret ?_
                  refine e_blk_ret ?_
                  refine e_then_ret ?_
                  obtain rfl := Option.some.inj hs3
                  dsimp only at hx1
                  refine e_then_ret ?_
                  refine e_then_ret ?_
                  obtain rfl := Option.some.inj hx1
                  obtain rfl := hs2
                  refine e_blk_ret ?_
                  refine e_then_ret ?_
                  dsimp only at hp
                  refine e_then_ret ?_
                  obtain rfl := Option.some.inj hp
                  exact post_all (vs := [.int .i64 2]) (.int .i64 2) ⟨rfl, trivial⟩ rfl (.inl rfl) (fun w hS => ⟨rfl, (hS.lower hD1)⟩)
                · skip
                  replace hs3 := if_f ht7 hs3
                  refine c_skip ?_
                  refine e_blk ?_
                  obtain rfl := Option.some.inj hs3
                  exact e_cut ⟨(), rfl, ⟨rfl, rfl, rfl, rfl, rfl, trivial⟩, (PH.le_refl _), rfl⟩
              · skip
                replace hs3 := if_f ht6 hs3
                refine c_skip ?_
                refine e_blk ?_
                refine e_drop ?_
                obtain rfl := Option.some.inj hs3
                exact e_cut ⟨(), rfl, ⟨rfl, rfl, rfl, rfl, rfl, trivial⟩, (PH.le_refl _), rfl⟩
          · skip
            rintro φ2 D3 As2 ⟨s3, rfl, hI2, hD2, hA2⟩
            subst As2
            replace way0_h1 := way0_h1.mono hD2
            replace f0_h1 := f0_h1.mono hD2
            dsimp only at hx1
            refine e_frame _ hI2 ?_
            refine e_then ?_
            refine c_quiet ?_
            refine ql_s (.int .i64 (addI (i1 : Int) 1)) (by kernel_rfl) ?_
            refine ql_s (.int .i64 (addI (i1 : Int) 1)) (by kernel_rfl) ?_
            refine ql_nil ?_
            obtain rfl := Option.some.inj hx1
            exact e_cut ⟨j1, i1 + 1, (), by omega, by omega, ⟨rfl, rfl, rfl, rfl, (congrArg (Value.int .i64) (addI_succ (by omega))), trivial⟩, (PH.le_trans hD1 hD2), rfl, hs2⟩
      · skip
        rintro φ3 D1 As3 ⟨s1, rfl, hI3, hD3, hA3⟩
        subst As3
        replace f0_h1 := f0_h1.mono hD3
        dsimp only at hp
        refine e_frame _ hI3 ?_
        refine e_then ?_
        refine c_seq ?_
        refine c_quiet ?_
        refine ql_s (.int .i64 0) (by kernel_rfl) ?_
        refine ql_nil ?_
        refine e_then ?_
        refine c_ret ?_
        obtain rfl := Option.some.inj hp
        exact post_all (vs := [.int .i64 0]) (.int .i64 0) ⟨rfl, trivial⟩ rfl (.inl rfl) (fun w hS => ⟨rfl, (hS.lower hD3)⟩)

-- tarnfell/tarnlaw2.first
set_option maxRecDepth 100000 in
set_option maxHeartbeats 4000000 in
theorem tarnlaw2_first_s (l0 : List Int) (l0_v1a : Option Addr) (l0_v1c : Nat) (D : PH) (l0_h1 : RO (encI .i64) D (.slice l0_v1a l0.length l0_v1c) l0) (F : List Assert) (r : Int) (hp : tarnlaw2_first_p l0 = some r) : ∀ w : World, SInv D (F) w → Calls Try.prog 7 #[.slice l0_v1a l0.length l0_v1c] w (fun e w' => e = .returned (.int .i64 r) ∧ SInv D (F) w') := by
  intro w hS
  refine call_intro Try.func7 rfl Try.ntmps7 (Nat.le_of_ble_eq_true rfl) hS ?_
  clear hS w
  unfold tarnlaw2_first_p at hp
  refine c_seq ?_
  refine c_quiet ?_
  refine ql_s (.int .i64 0) (by kernel_rfl) ?_
  refine ql_nil ?_
  refine e_then ?_
  refine c_seq ?_
  refine c_seq ?_
  refine c_quiet ?_
  refine ql_s (.slice l0_v1a l0.length l0_v1c) (by kernel_rfl) ?_
  refine ql_s (.int .i64 (l0.length : Int)) (by kernel_rfl) ?_
  refine ql_s (.int .i64 0) (by kernel_rfl) ?_
  refine ql_nil ?_
  refine e_then ?_
  have hb0 : (l0.length : Int) ≤ 4611686018427387904 := by have := RO.bound l0_h1; omega
  have hm0 : l0.length = (l0.length : Int).toNat := by omega
  have hm1 := hm0; have hb1 := hb0; clear hm0 hb0
  obtain ⟨x1, hs1, hp⟩ := bnd_some hp
  obtain ⟨body1, hbody1, hs1⟩ := forI_gen hs1
  refine c_cut_end (fun φ1 D1 As1 => ∃ (s1 : Unit), x1 = .go s1 ∧ Is φ1 [] ∧ PH.le D D1 ∧ As1 = F) ?_ ?_
  · skip
    refine c_block ?_
    refine c_loop (fun k φ1 D2 As1 => ∃ (j1 i1 : Nat) (s2 : Unit), k = j1 + 1 ∧ i1 + j1 = l0.length ∧ Is φ1 [(5, .slice l0_v1a l0.length l0_v1c), (6, .int .i64 (l0.length : Int)), (7, .int .i64 (i1 : Int))] ∧ PH.le D D2 ∧ As1 = F ∧ forI body1 j1 i1 s2 = some x1) ⟨l0.length + 1, l0.length, 0, (), rfl, Nat.zero_add _, ⟨rfl, rfl, rfl, trivial⟩, (PH.le_refl _), rfl, hs1⟩ ?_ ?_
    · rintro _ _ _ ⟨_, _, _, h0, _⟩; omega
    intro k1
    rintro φ1 D2 As1 ⟨j1, i1, s2, hk1, hij1, hI1, hD1, hA1, hs2⟩
    subst As1
    replace l0_h1 := l0_h1.mono hD1
    refine c_frame _ hI1 ?_
    obtain rfl : k1 = j1 := by omega
    clear hk1
    rcases k1 with _ | j1
    · skip
      refine c_seq ?_
      refine c_quiet ?_
      refine ql_s (.bool (decide ((i1 : Int) < (l0.length : Int)))) (by kernel_rfl) ?_
      refine ql_nil ?_
      refine e_then ?_
      refine c_seq ?_
      refine c_cond (decide ((i1 : Int) < (l0.length : Int))) rfl (fun ht1 => absurd ((dec_lt_f hm1 (by omega)).symm.trans ht1) (by simp)) (fun _ => ?_)
      refine c_exit ?_
      refine e_then_exit ?_
      refine e_then_exit ?_
      obtain rfl := Option.some.inj hs2
      refine e_blk_exit ?_
      exact e_cut ⟨(), rfl, trivial, hD1, rfl⟩
    · skip
      obtain ⟨y1, hx1, hs2⟩ := forI_some hs2
      replace hx1 := (congrFun (congrFun hbody1 i1) s2).trans hx1
      refine c_seq ?_
      refine c_quiet ?_
      refine ql_s (.bool (decide ((i1 : Int) < (l0.length : Int)))) (by kernel_rfl) ?_
      refine ql_nil ?_
      refine e_then ?_
      refine c_seq ?_
      refine c_cond (decide ((i1 : Int) < (l0.length : Int))) rfl (fun _ => ?_) (fun ht2 => absurd ((dec_lt_t hm1 (by omega)).symm.trans ht2) (by simp))
      refine c_skip ?_
      refine e_then ?_
      refine c_seq ?_
      refine c_block ?_
      refine c_seq ?_
      obtain ⟨x2, hx2, hx1⟩ := bnd_some hx1
      obtain ⟨b1, o1, h1, hq1⟩ := RO.at l0_h1 hx2
      refine c_quiet ?_
      refine ql_q rfl (qs_idx hq1 Try.underlying83 fit28 rfl rfl) ?_
      refine ql_q rfl (qs_ldAtV fit28 rfl h1 valI) ?_
      refine ql_s (.int .i64 x2) (by kernel_rfl) ?_
      refine ql_nil ?_
      refine e_then ?_
      refine c_seq ?_
      refine c_quiet ?_
      refine ql_s (.int .i64 x2) (by kernel_rfl) ?_
      refine ql_s (.bool (x2 != 0)) (by kernel_rfl) ?_
      refine ql_nil ?_
      refine e_then ?_
      refine c_cond ((x2 != 0)) rfl (fun ht3 => ?_) (fun ht3 => ?_)
      · skip
        replace hx1 := if_t ht3 hx1
        refine c_seq ?_
        refine c_quiet ?_
        refine ql_s (.int .i64 x2) (by kernel_rfl) ?_
        refine ql_s (.int .i64 x2) (by kernel_rfl) ?_
        refine ql_nil ?_
        refine e_then ?_
        refine c_ret ?_
        refine e_blk_ret ?_
        refine e_then_ret ?_
        refine e_then_ret ?_
        obtain rfl := Option.some.inj hx1
        obtain rfl := hs2
        refine e_blk_ret ?_
        refine e_then_ret ?_
        dsimp only at hp
        refine e_then_ret ?_
        obtain rfl := Option.some.inj hp
        exact post_all (vs := [.int .i64 x2]) (.int .i64 x2) ⟨rfl, trivial⟩ rfl (.inl rfl) (fun w hS => ⟨rfl, (hS.lower hD1)⟩)
      · skip
        replace hx1 := if_f ht3 hx1
        refine c_skip ?_
        refine e_blk ?_
        refine e_then ?_
        refine c_quiet ?_
        refine ql_s (.int .i64 (addI (i1 : Int) 1)) (by kernel_rfl) ?_
        refine ql_s (.int .i64 (addI (i1 : Int) 1)) (by kernel_rfl) ?_
        refine ql_nil ?_
        obtain rfl := Option.some.inj hx1
        exact e_cut ⟨j1, i1 + 1, (), by omega, by omega, ⟨rfl, rfl, (congrArg (Value.int .i64) (addI_succ (by omega))), trivial⟩, hD1, rfl, hs2⟩
  · skip
    rintro φ2 D1 As2 ⟨s1, rfl, hI2, hD2, hA2⟩
    subst As2
    dsimp only at hp
    refine e_frame _ hI2 ?_
    refine e_then ?_
    refine c_seq ?_
    refine c_quiet ?_
    refine ql_s (.int .i64 0) (by kernel_rfl) ?_
    refine ql_nil ?_
    refine e_then ?_
    refine c_ret ?_
    obtain rfl := Option.some.inj hp
    exact post_all (vs := [.int .i64 0]) (.int .i64 0) ⟨rfl, trivial⟩ rfl (.inl rfl) (fun w hS => ⟨rfl, (hS.lower hD2)⟩)

-- tarnfell/field.CheckAll
set_option maxRecDepth 100000 in
set_option maxHeartbeats 4000000 in
theorem field_CheckAll_s (l0 : List S_api_Field) (l0_v1a : Option Addr) (l0_v1c : Nat) (D : PH) (l0_h1 : RO encS_api_Field D (.slice l0_v1a l0.length l0_v1c) l0) (F : List Assert) (r : Int) (hp : field_CheckAll_p l0 = some r) : ∀ w : World, SInv D (F) w → Calls Try.prog 47 #[.slice l0_v1a l0.length l0_v1c] w (fun e w' => e = .returned (.int .i64 r) ∧ SInv D (F) w') := by
  intro w hS
  refine call_intro Try.func47 rfl Try.ntmps47 (Nat.le_of_ble_eq_true rfl) hS ?_
  clear hS w
  unfold field_CheckAll_p at hp
  refine c_seq ?_
  refine c_quiet ?_
  refine ql_s (.int .i64 0) (by kernel_rfl) ?_
  refine ql_nil ?_
  refine e_then ?_
  refine c_seq ?_
  refine c_seq ?_
  refine c_quiet ?_
  refine ql_s (.slice l0_v1a l0.length l0_v1c) (by kernel_rfl) ?_
  refine ql_s (.int .i64 (l0.length : Int)) (by kernel_rfl) ?_
  refine ql_s (.int .i64 0) (by kernel_rfl) ?_
  refine ql_nil ?_
  refine e_then ?_
  have hb0 : (l0.length : Int) ≤ 4611686018427387904 := by have := RO.bound l0_h1; omega
  have hm0 : l0.length = (l0.length : Int).toNat := by omega
  have hm1 := hm0; have hb1 := hb0; clear hm0 hb0
  obtain ⟨x1, hs1, hp⟩ := bnd_some hp
  obtain ⟨body1, hbody1, hs1⟩ := forI_gen hs1
  refine c_cut_end (fun φ1 D1 As1 => ∃ (s1 : Unit), x1 = .go s1 ∧ Is φ1 [] ∧ PH.le D D1 ∧ As1 = F) ?_ ?_
  · skip
    refine c_block ?_
    refine c_loop (fun k φ1 D2 As1 => ∃ (j1 i1 : Nat) (s2 : Unit), k = j1 + 1 ∧ i1 + j1 = l0.length ∧ Is φ1 [(6, .slice l0_v1a l0.length l0_v1c), (7, .int .i64 (l0.length : Int)), (8, .int .i64 (i1 : Int))] ∧ PH.le D D2 ∧ As1 = F ∧ forI body1 j1 i1 s2 = some x1) ⟨l0.length + 1, l0.length, 0, (), rfl, Nat.zero_add _, ⟨rfl, rfl, rfl, trivial⟩, (PH.le_refl _), rfl, hs1⟩ ?_ ?_
    · rintro _ _ _ ⟨_, _, _, h0, _⟩; omega
    intro k1
    rintro φ1 D2 As1 ⟨j1, i1, s2, hk1, hij1, hI1, hD1, hA1, hs2⟩
    subst As1
    replace l0_h1 := l0_h1.mono hD1
    refine c_frame _ hI1 ?_
    obtain rfl : k1 = j1 := by omega
    clear hk1
    rcases k1 with _ | j1
    · skip
      refine c_seq ?_
      refine c_quiet ?_
      refine ql_s (.bool (decide ((i1 : Int) < (l0.length : Int)))) (by kernel_rfl) ?_
      refine ql_nil ?_
      refine e_then ?_
      refine c_seq ?_
      refine c_cond (decide ((i1 : Int) < (l0.length : Int))) rfl (fun ht1 => absurd ((dec_lt_f hm1 (by omega)).symm.trans ht1) (by simp)) (fun _ => ?_)
      refine c_exit ?_
      refine e_then_exit ?_
      refine e_then_exit ?_
      obtain rfl := Option.some.inj hs2
      refine e_blk_exit ?_
      exact e_cut ⟨(), rfl, trivial, hD1, rfl⟩
    · skip
      obtain ⟨y1, hx1, hs2⟩ := forI_some hs2
      replace hx1 := (congrFun (congrFun hbody1 i1) s2).trans hx1
      refine c_seq ?_
      refine c_quiet ?_
      refine ql_s (.bool (decide ((i1 : Int) < (l0.length : Int)))) (by kernel_rfl) ?_
      refine ql_nil ?_
      refine e_then ?_
      refine c_seq ?_
      refine c_cond (decide ((i1 : Int) < (l0.length : Int))) rfl (fun _ => ?_) (fun ht2 => absurd ((dec_lt_t hm1 (by omega)).symm.trans ht2) (by simp))
      refine c_skip ?_
      refine e_then ?_
      refine c_seq ?_
      refine c_block ?_
      refine c_seq ?_
      obtain ⟨x2, hx2, hx1⟩ := bnd_some hx1
      obtain ⟨b1, o1, h1, hq1⟩ := RO.at l0_h1 hx2
      obtain ⟨cs1, hc1, ha1⟩ := h1.cells
      obtain ⟨v1, rfl, h2⟩ := hc1
      obtain ⟨a1, cp1, rfl⟩ := RO.len h2
      refine c_region ?_
      refine l_q rfl (qs_idx hq1 Try.underlying55 fit26 rfl rfl) ?_
      refine l_q rfl (qs_ldC fit26 rfl ha1 rfl (.agg #[.int .i64 x2.Region.X, .int .i64 x2.Region.Y, .int .i64 x2.Region.W, .int .i64 x2.Region.H, .slice a1 x2.V.length cp1]) rfl) ?_
      refine l_alloc (zs := [.int .i64 0, .int .i64 0, .int .i64 0, .int .i64 0, .slice none 0 0]) rfl (by kernel_rfl) (fun b3 => ?_)
      refine l_store (dd := none) (vs := [.int .i64 x2.Region.X, .int .i64 x2.Region.Y, .int .i64 x2.Region.W, .int .i64 x2.Region.H, .slice a1 x2.V.length cp1]) (cs' := [.int .i64 x2.Region.X, .int .i64 x2.Region.Y, .int .i64 x2.Region.W, .int .i64 x2.Region.H, .slice a1 x2.V.length cp1]) rfl (by kernel_rfl) (by kernel_rfl) rfl rfl (Nat.le_of_ble_eq_true rfl) rfl rfl ?_
      refine l_nil ?_
      refine e_then ?_
      refine c_seq ?_
      obtain ⟨r1, hr1, hx1⟩ := bnd_some hx1
      refine c_quiet ?_
      refine ql_q rfl (qs_ldpt (encW 5 (by decide)) fitv26 rfl 0 rfl (.agg #[.int .i64 x2.Region.X, .int .i64 x2.Region.Y, .int .i64 x2.Region.W, .int .i64 x2.Region.H, .slice a1 x2.V.length cp1]) (Nat.le_of_ble_eq_true rfl) rfl) ?_
      refine ql_call (v := .int .i64 r1) rfl (run_call (vs := [.agg #[.int .i64 x2.Region.X, .int .i64 x2.Region.Y, .int .i64 x2.Region.W, .int .i64 x2.Region.H, .slice a1 x2.V.length cp1]]) rfl Try.call75 rfl) (fun w hS => (field_Check_s x2 a1 cp1 _ h2 _ _ hr1 w (hS)).mono fun e w' h => ⟨h.1, h.2⟩) ?_
      refine ql_s (.int .i64 r1) (by kernel_rfl) ?_
      refine ql_nil ?_
      refine e_drop ?_
      refine e_then ?_
      refine c_seq ?_
      refine c_quiet ?_
      refine ql_s (.int .i64 r1) (by kernel_rfl) ?_
      refine ql_s (.bool (r1 != 0)) (by kernel_rfl) ?_
      refine ql_nil ?_
      refine e_then ?_
      refine c_cond ((r1 != 0)) rfl (fun ht3 => ?_) (fun ht3 => ?_)
      · skip
        replace hx1 := if_t ht3 hx1
        refine c_seq ?_
        refine c_quiet ?_
        refine ql_s (.int .i64 r1) (by kernel_rfl) ?_
        refine ql_s (.int .i64 r1) (by kernel_rfl) ?_
        refine ql_nil ?_
        refine e_then ?_
        refine c_ret ?_
        refine e_blk_ret ?_
        refine e_then_ret ?_
        refine e_then_ret ?_
        obtain rfl := Option.some.inj hx1
        obtain rfl := hs2
        refine e_blk_ret ?_
        refine e_then_ret ?_
        dsimp only at hp
        refine e_then_ret ?_
        obtain rfl := Option.some.inj hp
        exact post_all (vs := [.int .i64 r1]) (.int .i64 r1) ⟨rfl, trivial⟩ rfl (.inl rfl) (fun w hS => ⟨rfl, (hS.lower hD1)⟩)
      · skip
        replace hx1 := if_f ht3 hx1
        refine c_skip ?_
        refine e_blk ?_
        refine e_then ?_
        refine c_quiet ?_
        refine ql_s (.int .i64 (addI (i1 : Int) 1)) (by kernel_rfl) ?_
        refine ql_s (.int .i64 (addI (i1 : Int) 1)) (by kernel_rfl) ?_
        refine ql_nil ?_
        obtain rfl := Option.some.inj hx1
        exact e_cut ⟨j1, i1 + 1, (), by omega, by omega, ⟨rfl, rfl, (congrArg (Value.int .i64) (addI_succ (by omega))), trivial⟩, hD1, rfl, hs2⟩
  · skip
    rintro φ2 D1 As2 ⟨s1, rfl, hI2, hD2, hA2⟩
    subst As2
    dsimp only at hp
    refine e_frame _ hI2 ?_
    refine e_then ?_
    refine c_seq ?_
    refine c_quiet ?_
    refine ql_s (.int .i64 0) (by kernel_rfl) ?_
    refine ql_nil ?_
    refine e_then ?_
    refine c_ret ?_
    obtain rfl := Option.some.inj hp
    exact post_all (vs := [.int .i64 0]) (.int .i64 0) ⟨rfl, trivial⟩ rfl (.inl rfl) (fun w hS => ⟨rfl, (hS.lower hD2)⟩)

-- tarnfell/road.CheckRules$1
set_option maxRecDepth 100000 in
set_option maxHeartbeats 4000000 in
theorem road_CheckRules_1_s (v0 : Nat) (D : PH)  (F : List Assert) (r : Bool) (hp : road_CheckRules_1_p v0 = some r) : ∀ w : World, SInv D (F) w → Calls Try.prog 114 #[.float .f32 v0] w (fun e w' => e = .returned (.bool r) ∧ SInv D (F) w') := by
  intro w hS
  refine call_intro Try.func114 rfl Try.ntmps114 (Nat.le_of_ble_eq_true rfl) hS ?_
  clear hS w
  unfold road_CheckRules_1_p at hp
  refine c_seq ?_
  refine c_quiet ?_
  refine ql_s (.bool false) (by kernel_rfl) ?_
  refine ql_nil ?_
  refine e_then ?_
  refine c_seq ?_
  refine c_cutq_end [(2, .bool ((flt .f32 v0 0) || (fgt .f32 v0 1149239296)))] ?_ ?_
  · skip
    refine c_quiet ?_
    refine ql_s (.float .f32 v0) (by kernel_rfl) ?_
    refine ql_s (.bool (flt .f32 v0 0)) (by kernel_rfl) ?_
    refine ql_s (.bool (flt .f32 v0 0)) (by kernel_rfl) ?_
    refine ql_case 5 (flt .f32 v0 0) rfl (fun hg1 => ?_) (fun hg1 => ?_)
    · skip
      refine ql_s undef (by kernel_rfl) ?_
      refine ql_s undef (by kernel_rfl) ?_
      refine ql_s (.bool true) (by kernel_rfl) ?_
      refine ql_s (.bool true) (by kernel_rfl) ?_
      refine ql_nil (e_cutq ?_)
      exact ⟨(congrArg Value.bool (by first | rfl | (rw [hg1]; rfl) | simp [hg1])), trivial⟩
    · skip
      refine ql_s (.float .f32 v0) (by kernel_rfl) ?_
      refine ql_s (.bool (fgt .f32 v0 1149239296)) (by kernel_rfl) ?_
      refine ql_s (.bool (fgt .f32 v0 1149239296)) (by kernel_rfl) ?_
      refine ql_s (.bool (fgt .f32 v0 1149239296)) (by kernel_rfl) ?_
      refine ql_nil (e_cutq ?_)
      exact ⟨(congrArg Value.bool (by first | rfl | (rw [hg1]; rfl) | simp [hg1])), trivial⟩
  intro _
  refine e_then ?_
  refine c_ret ?_
  obtain rfl := Option.some.inj hp
  exact post_all (vs := [.bool ((flt .f32 v0 0) || (fgt .f32 v0 1149239296))]) (.bool ((flt .f32 v0 0) || (fgt .f32 v0 1149239296))) ⟨rfl, trivial⟩ rfl (.inl rfl) (fun w hS => ⟨rfl, hS⟩)

-- slices.IndexFunc[[]float32,float32]
set_option maxRecDepth 100000 in
set_option maxHeartbeats 4000000 in
theorem slices_IndexFunc_float32_float32_s (s0 : List Nat) (s0_v1a : Option Addr) (s0_v1c : Nat) (D : PH) (s0_h1 : RO (encF .f32) D (.slice s0_v1a s0.length s0_v1c) s0) (F : List Assert) (r : Int) (hp : slices_IndexFunc_float32_float32_p s0 = some r) : ∀ w : World, SInv D (F) w → Calls Try.prog 135 #[.slice s0_v1a s0.length s0_v1c, .func (.func 114) #[] #[]] w (fun e w' => e = .returned (.int .i64 r) ∧ SInv D (F) w') := by
  intro w hS
  refine call_intro Try.func135 rfl Try.ntmps135 (Nat.le_of_ble_eq_true rfl) hS ?_
  clear hS w
  unfold slices_IndexFunc_float32_float32_p at hp
  refine c_seq ?_
  refine c_quiet ?_
  refine ql_s (.int .i64 0) (by kernel_rfl) ?_
  refine ql_nil ?_
  refine e_then ?_
  refine c_seq ?_
  refine c_seq ?_
  refine c_quiet ?_
  refine ql_s (.slice s0_v1a s0.length s0_v1c) (by kernel_rfl) ?_
  refine ql_s (.int .i64 (s0.length : Int)) (by kernel_rfl) ?_
  refine ql_s (.int .i64 0) (by kernel_rfl) ?_
  refine ql_nil ?_
  refine e_then ?_
  have hb0 : (s0.length : Int) ≤ 4611686018427387904 := by have := RO.bound s0_h1; omega
  have hm0 : s0.length = (s0.length : Int).toNat := by omega
  have hm1 := hm0; have hb1 := hb0; clear hm0 hb0
  obtain ⟨x1, hs1, hp⟩ := bnd_some hp
  obtain ⟨body1, hbody1, hs1⟩ := forI_gen hs1
  refine c_cut_end (fun φ1 D1 As1 => ∃ (s1 : Unit), x1 = .go s1 ∧ Is φ1 [] ∧ PH.le D D1 ∧ As1 = F) ?_ ?_
  · skip
    refine c_block ?_
    refine c_loop (fun k φ1 D2 As1 => ∃ (j1 i1 : Nat) (s2 : Unit), k = j1 + 1 ∧ i1 + j1 = s0.length ∧ Is φ1 [(0, .slice s0_v1a s0.length s0_v1c), (1, .func (.func 114) #[] #[]), (7, .int .i64 (s0.length : Int)), (8, .int .i64 (i1 : Int))] ∧ PH.le D D2 ∧ As1 = F ∧ forI body1 j1 i1 s2 = some x1) ⟨s0.length + 1, s0.length, 0, (), rfl, Nat.zero_add _, ⟨rfl, rfl, rfl, rfl, trivial⟩, (PH.le_refl _), rfl, hs1⟩ ?_ ?_
    · rintro _ _ _ ⟨_, _, _, h0, _⟩; omega
    intro k1
    rintro φ1 D2 As1 ⟨j1, i1, s2, hk1, hij1, hI1, hD1, hA1, hs2⟩
    subst As1
    replace s0_h1 := s0_h1.mono hD1
    refine c_frame _ hI1 ?_
    obtain rfl : k1 = j1 := by omega
    clear hk1
    rcases k1 with _ | j1
    · skip
      refine c_seq ?_
      refine c_quiet ?_
      refine ql_s (.bool (decide ((i1 : Int) < (s0.length : Int)))) (by kernel_rfl) ?_
      refine ql_nil ?_
      refine e_then ?_
      refine c_seq ?_
      refine c_cond (decide ((i1 : Int) < (s0.length : Int))) rfl (fun ht1 => absurd ((dec_lt_f hm1 (by omega)).symm.trans ht1) (by simp)) (fun _ => ?_)
      refine c_exit ?_
      refine e_then_exit ?_
      refine e_then_exit ?_
      obtain rfl := Option.some.inj hs2
      refine e_blk_exit ?_
      exact e_cut ⟨(), rfl, trivial, hD1, rfl⟩
    · skip
      obtain ⟨y1, hx1, hs2⟩ := forI_some hs2
      replace hx1 := (congrFun (congrFun hbody1 i1) s2).trans hx1
      refine c_seq ?_
      refine c_quiet ?_
      refine ql_s (.bool (decide ((i1 : Int) < (s0.length : Int)))) (by kernel_rfl) ?_
      refine ql_nil ?_
      refine e_then ?_
      refine c_seq ?_
      refine c_cond (decide ((i1 : Int) < (s0.length : Int))) rfl (fun _ => ?_) (fun ht2 => absurd ((dec_lt_t hm1 (by omega)).symm.trans ht2) (by simp))
      refine c_skip ?_
      refine e_then ?_
      refine c_seq ?_
      refine c_block ?_
      refine c_seq ?_
      refine c_quiet ?_
      refine ql_s (.int .i64 (i1 : Int)) (by kernel_rfl) ?_
      refine ql_s (.int .i64 (i1 : Int)) (by kernel_rfl) ?_
      refine ql_nil ?_
      refine e_then ?_
      refine c_seq ?_
      obtain ⟨x2, hx2, hx1⟩ := bnd_some hx1
      obtain ⟨b1, o1, h1, hq1⟩ := RO.at s0_h1 hx2
      obtain ⟨r1, hr1, hx1⟩ := bnd_some hx1
      refine c_quiet ?_
      refine ql_s (.func (.func 114) #[] #[]) (by kernel_rfl) ?_
      refine ql_s (.slice s0_v1a s0.length s0_v1c) (by kernel_rfl) ?_
      refine ql_s (.int .i64 (i1 : Int)) (by kernel_rfl) ?_
      refine ql_q rfl (qs_idx hq1 Try.underlying24 fit40 rfl rfl) ?_
      refine ql_q rfl (qs_ldAtV fit40 rfl h1 valF) ?_
      refine ql_call (v := .bool r1) rfl (run_call (vs := [.float .f32 x2]) rfl Try.call114 rfl) (fun w hS => (road_CheckRules_1_s x2 _  _ _ hr1 w (hS)).mono fun e w' h => ⟨h.1, h.2⟩) ?_
      refine ql_nil ?_
      refine e_then ?_
      refine c_cond (r1) rfl (fun ht3 => ?_) (fun ht3 => ?_)
      · skip
        replace hx1 := if_t ht3 hx1
        refine c_seq ?_
        refine c_quiet ?_
        refine ql_s (.int .i64 (i1 : Int)) (by kernel_rfl) ?_
        refine ql_s (.int .i64 (i1 : Int)) (by kernel_rfl) ?_
        refine ql_nil ?_
        refine e_then ?_
        refine c_ret ?_
        refine e_blk_ret ?_
        refine e_then_ret ?_
        refine e_then_ret ?_
        obtain rfl := Option.some.inj hx1
        obtain rfl := hs2
        refine e_blk_ret ?_
        refine e_then_ret ?_
        dsimp only at hp
        refine e_then_ret ?_
        obtain rfl := Option.some.inj hp
        exact post_all (vs := [.int .i64 (i1 : Int)]) (.int .i64 (i1 : Int)) ⟨rfl, trivial⟩ rfl (.inl rfl) (fun w hS => ⟨rfl, (hS.lower hD1)⟩)
      · skip
        replace hx1 := if_f ht3 hx1
        refine c_skip ?_
        refine e_blk ?_
        refine e_then ?_
        refine c_quiet ?_
        refine ql_s (.int .i64 (addI (i1 : Int) 1)) (by kernel_rfl) ?_
        refine ql_s (.int .i64 (addI (i1 : Int) 1)) (by kernel_rfl) ?_
        refine ql_nil ?_
        obtain rfl := Option.some.inj hx1
        exact e_cut ⟨j1, i1 + 1, (), by omega, by omega, ⟨rfl, rfl, rfl, (congrArg (Value.int .i64) (addI_succ (by omega))), trivial⟩, hD1, rfl, hs2⟩
  · skip
    rintro φ2 D1 As2 ⟨s1, rfl, hI2, hD2, hA2⟩
    subst As2
    dsimp only at hp
    refine e_frame _ hI2 ?_
    refine e_then ?_
    refine c_seq ?_
    refine c_quiet ?_
    refine ql_s (.int .i64 (-1)) (by kernel_rfl) ?_
    refine ql_nil ?_
    refine e_then ?_
    refine c_ret ?_
    obtain rfl := Option.some.inj hp
    exact post_all (vs := [.int .i64 (-1)]) (.int .i64 (-1)) ⟨rfl, trivial⟩ rfl (.inl rfl) (fun w hS => ⟨rfl, (hS.lower hD2)⟩)

-- slices.ContainsFunc[[]float32,float32]
set_option maxRecDepth 100000 in
set_option maxHeartbeats 4000000 in
theorem slices_ContainsFunc_float32_float32_s (s0 : List Nat) (s0_v1a : Option Addr) (s0_v1c : Nat) (D : PH) (s0_h1 : RO (encF .f32) D (.slice s0_v1a s0.length s0_v1c) s0) (F : List Assert) (r : Bool) (hp : slices_ContainsFunc_float32_float32_p s0 = some r) : ∀ w : World, SInv D (F) w → Calls Try.prog 113 #[.slice s0_v1a s0.length s0_v1c, .func (.func 114) #[] #[]] w (fun e w' => e = .returned (.bool r) ∧ SInv D (F) w') := by
  intro w hS
  refine call_intro Try.func113 rfl Try.ntmps113 (Nat.le_of_ble_eq_true rfl) hS ?_
  clear hS w
  unfold slices_ContainsFunc_float32_float32_p at hp
  refine c_seq ?_
  refine c_quiet ?_
  refine ql_s (.bool false) (by kernel_rfl) ?_
  refine ql_nil ?_
  refine e_then ?_
  refine c_seq ?_
  obtain ⟨r1, hr1, hp⟩ := bnd_some hp
  refine c_quiet ?_
  refine ql_s (.slice s0_v1a s0.length s0_v1c) (by kernel_rfl) ?_
  refine ql_s (.func (.func 114) #[] #[]) (by kernel_rfl) ?_
  refine ql_call (v := .int .i64 r1) rfl (run_call (vs := [.slice s0_v1a s0.length s0_v1c, .func (.func 114) #[] #[]]) rfl Try.call135 rfl) (fun w hS => (slices_IndexFunc_float32_float32_s s0 s0_v1a s0_v1c _ s0_h1 _ _ hr1 w (hS)).mono fun e w' h => ⟨h.1, h.2⟩) ?_
  refine ql_s (.bool (decide (r1 ≥ 0))) (by kernel_rfl) ?_
  refine ql_s (.bool (decide (r1 ≥ 0))) (by kernel_rfl) ?_
  refine ql_nil ?_
  refine e_then ?_
  refine c_ret ?_
  obtain rfl := Option.some.inj hp
  exact post_all (vs := [.bool (decide (r1 ≥ 0))]) (.bool (decide (r1 ≥ 0))) ⟨rfl, trivial⟩ rfl (.inl rfl) (fun w hS => ⟨rfl, hS⟩)

-- tarnfell/road.CheckRules
set_option maxRecDepth 100000 in
set_option maxHeartbeats 4000000 in
theorem road_CheckRules_s (s0 : S_api_RoadRules) (s0_v1a : Option Addr) (s0_v1c : Nat) (D : PH) (s0_h1 : RO encS_api_Field D (.slice s0_v1a s0.Costly.length s0_v1c) s0.Costly) (F : List Assert) (r : Int) (hp : road_CheckRules_p s0 = some r) : ∀ w : World, SInv D (F) w → Calls Try.prog 98 #[.agg #[.float .f32 s0.Grade, .float .f32 s0.Weight, .float .f32 s0.Bridge, .float .f32 s0.Dear, .int .i64 s0.Span, .slice s0_v1a s0.Costly.length s0_v1c]] w (fun e w' => e = .returned (.int .i64 r) ∧ SInv D (F) w') := by
  intro w hS
  refine call_intro Try.func98 rfl Try.ntmps98 (Nat.le_of_ble_eq_true rfl) hS ?_
  clear hS w
  unfold road_CheckRules_p at hp
  refine c_seq ?_
  refine c_region ?_
  refine l_box (cs := [.float .f32 s0.Grade, .float .f32 s0.Weight, .float .f32 s0.Bridge, .float .f32 s0.Dear, .int .i64 s0.Span, .slice s0_v1a s0.Costly.length s0_v1c]) rfl rfl (fun b2 => ?_)
  refine l_s (.int .i64 0) (by kernel_rfl) ?_
  refine l_nil ?_
  refine e_then ?_
  refine c_seq ?_
  refine c_seq ?_
  obtain ⟨r1, hr1, hp⟩ := bnd_some hp
  refine c_region ?_
  refine l_s (.pointer (some ⟨b2, 0, none⟩)) (by kernel_rfl) ?_
  refine l_q rfl (qs_ldpt encV fitv40 rfl 0 rfl (.float .f32 s0.Grade) (Nat.le_of_ble_eq_true rfl) rfl) ?_
  refine l_s (.pointer (some ⟨b2, 1, none⟩)) (by kernel_rfl) ?_
  refine l_q rfl (qs_ldpt encV fitv40 rfl 0 rfl (.float .f32 s0.Weight) (Nat.le_of_ble_eq_true rfl) rfl) ?_
  refine l_s (.pointer (some ⟨b2, 2, none⟩)) (by kernel_rfl) ?_
  refine l_q rfl (qs_ldpt encV fitv40 rfl 0 rfl (.float .f32 s0.Bridge) (Nat.le_of_ble_eq_true rfl) rfl) ?_
  refine l_s (.pointer (some ⟨b2, 3, none⟩)) (by kernel_rfl) ?_
  refine l_q rfl (qs_ldpt encV fitv40 rfl 0 rfl (.float .f32 s0.Dear) (Nat.le_of_ble_eq_true rfl) rfl) ?_
  refine l_bslS (cs := [.float .f32 s0.Grade, .float .f32 s0.Weight, .float .f32 s0.Bridge, .float .f32 s0.Dear]) (E := 40) (e := encF .f32) ([s0.Grade, s0.Weight, s0.Bridge, s0.Dear] : List Nat) rfl (by kernel_rfl) rfl rfl (Nat.le_of_ble_eq_true rfl) ⟨rfl, rfl, rfl, rfl, trivial⟩ (fun b4 cp2 => ?_)
  refine l_callq (v := .int .i64 r1) rfl rfl Try.call34 (vs := [.slice (some ⟨b4, 0, none⟩) ([s0.Grade, s0.Weight, s0.Bridge, s0.Dear] : List Nat).length cp2]) rfl (fun w hS => (calls_thaw (PH.le_refl _) (hS) (fun D0' hLl0 hLr0 hS => (field_Heights_s ([s0.Grade, s0.Weight, s0.Bridge, s0.Dear] : List Nat) (some ⟨b4, 0, none⟩) cp2 _ hLr0 _ _ hr1 w (hS)).mono fun e w' h => ⟨h.1, h.2⟩)).mono fun e w' h => ⟨h.1, h.2⟩) ?_
  refine l_s (.int .i64 r1) (by kernel_rfl) ?_
  refine l_nil ?_
  refine e_drop ?_
  refine e_then ?_
  refine c_seq ?_
  refine c_quiet ?_
  refine ql_s (.int .i64 r1) (by kernel_rfl) ?_
  refine ql_s (.bool (r1 != 0)) (by kernel_rfl) ?_
  refine ql_nil ?_
  refine e_then ?_
  refine c_cond ((r1 != 0)) rfl (fun ht1 => ?_) (fun ht1 => ?_)
  · skip
    replace hp := if_t ht1 hp
    refine c_seq ?_
    refine c_quiet ?_
    refine ql_s (.int .i64 r1) (by kernel_rfl) ?_
    refine ql_s (.int .i64 r1) (by kernel_rfl) ?_
    refine ql_nil ?_
    refine e_drop ?_
    refine e_then ?_
    refine c_ret ?_
    refine e_then_ret ?_
    obtain rfl := Option.some.inj hp
    exact post_all (vs := [.int .i64 r1]) (.int .i64 r1) ⟨rfl, trivial⟩ rfl (.inl rfl) (fun w hS => ⟨rfl, hS⟩)
  · skip
    replace hp := if_f ht1 hp
    refine c_skip ?_
    refine e_then ?_
    refine c_seq ?_
    refine c_seq ?_
    refine c_quiet ?_
    refine ql_s (.pointer (some ⟨b2, 0, none⟩)) (by kernel_rfl) ?_
    refine ql_q rfl (qs_ldpt encV fitv40 rfl 0 rfl (.float .f32 s0.Grade) (Nat.le_of_ble_eq_true rfl) rfl) ?_
    refine ql_s (.pointer (some ⟨b2, 1, none⟩)) (by kernel_rfl) ?_
    refine ql_q rfl (qs_ldpt encV fitv40 rfl 0 rfl (.float .f32 s0.Weight) (Nat.le_of_ble_eq_true rfl) rfl) ?_
    refine ql_s (.pointer (some ⟨b2, 3, none⟩)) (by kernel_rfl) ?_
    refine ql_q rfl (qs_ldpt encV fitv40 rfl 0 rfl (.float .f32 s0.Dear) (Nat.le_of_ble_eq_true rfl) rfl) ?_
    refine ql_q rfl (qs_bldArr (zs := [.float .f32 0, .float .f32 0, .float .f32 0]) (cs := [.float .f32 s0.Grade, .float .f32 s0.Weight, .float .f32 s0.Dear]) Try.underlying149 (by kernel_rfl) (by kernel_rfl) (by kernel_rfl)) ?_
    refine ql_s (.int .i64 0) (by kernel_rfl) ?_
    refine ql_nil ?_
    refine e_then ?_
    have hm0 : (3 : Nat) = ((3 : Int)).toNat := rfl
    have hb0 : ((3 : Int)) ≤ 4611686018427387904 := by decide
    have hm1 := hm0; have hb1 := hb0; clear hm0 hb0
    obtain ⟨x1, hs1, hp⟩ := bnd_some hp
    obtain ⟨body1, hbody1, hs1⟩ := forI_gen hs1
    refine c_cut_end (fun φ1 D1 As1 => ∃ (s1 : Unit), x1 = .go s1 ∧ Is φ1 [(1, .pointer (some ⟨b2, 0, none⟩))] ∧ PH.le D D1 ∧ As1 = pt b2 [.float .f32 s0.Grade, .float .f32 s0.Weight, .float .f32 s0.Bridge, .float .f32 s0.Dear, .int .i64 s0.Span, .slice s0_v1a s0.Costly.length s0_v1c] 57 :: F) ?_ ?_
    · skip
      refine c_block ?_
      refine c_loop (fun k φ1 D2 As1 => ∃ (j1 i1 : Nat) (s2 : Unit), k = j1 + 1 ∧ i1 + j1 = 3 ∧ Is φ1 [(1, .pointer (some ⟨b2, 0, none⟩)), (28, .agg #[.float .f32 s0.Grade, .float .f32 s0.Weight, .float .f32 s0.Dear]), (29, .int .i64 (i1 : Int))] ∧ PH.le D D2 ∧ As1 = pt b2 [.float .f32 s0.Grade, .float .f32 s0.Weight, .float .f32 s0.Bridge, .float .f32 s0.Dear, .int .i64 s0.Span, .slice s0_v1a s0.Costly.length s0_v1c] 57 :: F ∧ forI body1 j1 i1 s2 = some x1) ⟨3 + 1, 3, 0, (), rfl, Nat.zero_add _, ⟨rfl, rfl, rfl, trivial⟩, (PH.le_refl _), rfl, hs1⟩ ?_ ?_
      · rintro _ _ _ ⟨_, _, _, h0, _⟩; omega
      intro k1
      rintro φ1 D2 As1 ⟨j1, i1, s2, hk1, hij1, hI1, hD1, hA1, hs2⟩
      subst As1
      replace s0_h1 := s0_h1.mono hD1
      refine c_frame _ hI1 ?_
      obtain rfl : k1 = j1 := by omega
      clear hk1
      rcases k1 with _ | j1
      · skip
        refine c_seq ?_
        refine c_quiet ?_
        refine ql_s (.bool (decide ((i1 : Int) < 3))) (by kernel_rfl) ?_
        refine ql_nil ?_
        refine e_then ?_
        refine c_seq ?_
        refine c_cond (decide ((i1 : Int) < 3)) rfl (fun ht2 => absurd ((dec_lt_f hm1 (by omega)).symm.trans ht2) (by simp)) (fun _ => ?_)
        refine c_exit ?_
        refine e_then_exit ?_
        refine e_then_exit ?_
        obtain rfl := Option.some.inj hs2
        refine e_blk_exit ?_
        exact e_cut ⟨(), rfl, ⟨rfl, trivial⟩, hD1, rfl⟩
      · skip
        obtain ⟨y1, hx1, hs2⟩ := forI_some hs2
        replace hx1 := (congrFun (congrFun hbody1 i1) s2).trans hx1
        refine c_seq ?_
        refine c_quiet ?_
        refine ql_s (.bool (decide ((i1 : Int) < 3))) (by kernel_rfl) ?_
        refine ql_nil ?_
        refine e_then ?_
        refine c_seq ?_
        refine c_cond (decide ((i1 : Int) < 3)) rfl (fun _ => ?_) (fun ht3 => absurd ((dec_lt_t hm1 (by omega)).symm.trans ht3) (by simp))
        refine c_skip ?_
        refine e_then ?_
        refine c_seq ?_
        refine c_block ?_
        refine c_seq ?_
        obtain ⟨x2, hx2, hx1⟩ := bnd_some hx1
        refine c_quiet ?_
        refine ql_q rfl (qs_idxArr (D := D2) (e := encF .f32) (xs := ([s0.Grade, s0.Weight, s0.Dear] : List Nat)) (cs := [.float .f32 s0.Grade, .float .f32 s0.Weight, .float .f32 s0.Dear]) Try.underlying149 fit40 rfl rfl ⟨rfl, rfl, rfl, trivial⟩ rfl hx2 (v := .float .f32 x2) valF) ?_
        refine ql_s (.float .f32 x2) (by kernel_rfl) ?_
        refine ql_nil ?_
        refine e_then ?_
        refine c_seq ?_
        refine c_cutq_end [(1, .pointer (some ⟨b2, 0, none⟩)), (28, .agg #[.float .f32 s0.Grade, .float .f32 s0.Weight, .float .f32 s0.Dear]), (29, .int .i64 (i1 : Int)), (37, .bool ((flt .f32 x2 0) || (fgt .f32 x2 1149239296)))] ?_ ?_
        · skip
          refine c_quiet ?_
          refine ql_s (.float .f32 x2) (by kernel_rfl) ?_
          refine ql_s (.bool (flt .f32 x2 0)) (by kernel_rfl) ?_
          refine ql_s (.bool (flt .f32 x2 0)) (by kernel_rfl) ?_
          refine ql_case 34 (flt .f32 x2 0) rfl (fun hg1 => ?_) (fun hg1 => ?_)
          · skip
            refine ql_s undef (by kernel_rfl) ?_
            refine ql_s undef (by kernel_rfl) ?_
            refine ql_s (.bool true) (by kernel_rfl) ?_
            refine ql_nil (e_cutq ?_)
            exact ⟨rfl, rfl, rfl, (congrArg Value.bool (by first | rfl | (rw [hg1]; rfl) | simp [hg1])), trivial⟩
          · skip
            refine ql_s (.float .f32 x2) (by kernel_rfl) ?_
            refine ql_s (.bool (fgt .f32 x2 1149239296)) (by kernel_rfl) ?_
            refine ql_s (.bool (fgt .f32 x2 1149239296)) (by kernel_rfl) ?_
            refine ql_nil (e_cutq ?_)
            exact ⟨rfl, rfl, rfl, (congrArg Value.bool (by first | rfl | (rw [hg1]; rfl) | simp [hg1])), trivial⟩
        intro _
        refine e_then ?_
        refine c_cond (((flt .f32 x2 0) || (fgt .f32 x2 1149239296))) rfl (fun ht4 => ?_) (fun ht4 => ?_)
        · skip
          replace hx1 := if_t ht4 hx1
          refine c_seq ?_
          refine c_quiet ?_
          refine ql_s (.int .i64 3) (by kernel_rfl) ?_
          refine ql_nil ?_
          refine e_drop ?_
          refine e_then ?_
          refine c_ret ?_
          refine e_blk_ret ?_
          refine e_then_ret ?_
          refine e_then_ret ?_
          obtain rfl := Option.some.inj hx1
          obtain rfl := hs2
          refine e_blk_ret ?_
          refine e_then_ret ?_
          dsimp only at hp
          refine e_then_ret ?_
          obtain rfl := Option.some.inj hp
          exact post_all (vs := [.int .i64 3]) (.int .i64 3) ⟨rfl, trivial⟩ rfl (.inl rfl) (fun w hS => ⟨rfl, (hS.lower hD1)⟩)
        · skip
          replace hx1 := if_f ht4 hx1
          refine c_skip ?_
          refine e_blk ?_
          refine e_then ?_
          refine c_quiet ?_
          refine ql_s (.int .i64 (addI (i1 : Int) 1)) (by kernel_rfl) ?_
          refine ql_s (.int .i64 (addI (i1 : Int) 1)) (by kernel_rfl) ?_
          refine ql_nil ?_
          obtain rfl := Option.some.inj hx1
          exact e_cut ⟨j1, i1 + 1, (), by omega, by omega, ⟨rfl, rfl, (congrArg (Value.int .i64) (addI_succ (by omega))), trivial⟩, hD1, rfl, hs2⟩
    · skip
      rintro φ2 D1 As2 ⟨s1, rfl, hI2, hD2, hA2⟩
      subst As2
      replace s0_h1 := s0_h1.mono hD2
      dsimp only at hp
      refine e_frame _ hI2 ?_
      refine e_then ?_
      refine c_seq ?_
      refine c_seq ?_
      refine c_cutq_end [(1, .pointer (some ⟨b2, 0, none⟩)), (61, .bool ((flt .f32 s0.Bridge 1065353216) || ((fgt .f32 s0.Bridge 1149239296) || ((s0.Span != 0) && ((decide (s0.Span < 2)) || (decide (s0.Span > 12)))))))] ?_ ?_
      · skip
        refine c_quiet ?_
        refine ql_s (.pointer (some ⟨b2, 2, none⟩)) (by kernel_rfl) ?_
        refine ql_q rfl (qs_ldpt encV fitv40 rfl 0 rfl (.float .f32 s0.Bridge) (Nat.le_of_ble_eq_true rfl) rfl) ?_
        refine ql_s (.bool (flt .f32 s0.Bridge 1065353216)) (by kernel_rfl) ?_
        refine ql_s (.bool (flt .f32 s0.Bridge 1065353216)) (by kernel_rfl) ?_
        refine ql_case 42 (flt .f32 s0.Bridge 1065353216) rfl (fun hg2 => ?_) (fun hg2 => ?_)
        · skip
          refine ql_s undef (by kernel_rfl) ?_
          refine ql_s undef (by kernel_rfl) ?_
          refine ql_s undef (by kernel_rfl) ?_
          refine ql_s (.bool true) (by kernel_rfl) ?_
          refine ql_s (.bool true) (by kernel_rfl) ?_
          refine ql_s undef (by kernel_rfl) ?_
          refine ql_s undef (by kernel_rfl) ?_
          refine ql_s undef (by kernel_rfl) ?_
          refine ql_s undef (by kernel_rfl) ?_
          refine ql_s undef (by kernel_rfl) ?_
          refine ql_s undef (by kernel_rfl) ?_
          refine ql_s undef (by kernel_rfl) ?_
          refine ql_s undef (by kernel_rfl) ?_
          refine ql_s undef (by kernel_rfl) ?_
          refine ql_s undef (by kernel_rfl) ?_
          refine ql_s undef (by kernel_rfl) ?_
          refine ql_s undef (by kernel_rfl) ?_
          refine ql_s undef (by kernel_rfl) ?_
          refine ql_s (.bool true) (by kernel_rfl) ?_
          refine ql_nil (e_cutq ?_)
          exact ⟨rfl, (congrArg Value.bool (by first | rfl | (rw [hg2]; rfl) | simp [hg2])), trivial⟩
        · skip
          refine ql_s (.pointer (some ⟨b2, 2, none⟩)) (by kernel_rfl) ?_
          refine ql_q rfl (qs_ldpt encV fitv40 rfl 0 rfl (.float .f32 s0.Bridge) (Nat.le_of_ble_eq_true rfl) rfl) ?_
          refine ql_s (.bool (fgt .f32 s0.Bridge 1149239296)) (by kernel_rfl) ?_
          refine ql_s (.bool (fgt .f32 s0.Bridge 1149239296)) (by kernel_rfl) ?_
          refine ql_s (.bool (fgt .f32 s0.Bridge 1149239296)) (by kernel_rfl) ?_
          refine ql_case 47 (fgt .f32 s0.Bridge 1149239296) rfl (fun hg3 => ?_) (fun hg3 => ?_)
          · skip
            refine ql_s undef (by kernel_rfl) ?_
            refine ql_s undef (by kernel_rfl) ?_
            refine ql_s undef (by kernel_rfl) ?_
            refine ql_s undef (by kernel_rfl) ?_
            refine ql_s undef (by kernel_rfl) ?_
            refine ql_s undef (by kernel_rfl) ?_
            refine ql_s undef (by kernel_rfl) ?_
            refine ql_s undef (by kernel_rfl) ?_
            refine ql_s undef (by kernel_rfl) ?_
            refine ql_s undef (by kernel_rfl) ?_
            refine ql_s undef (by kernel_rfl) ?_
            refine ql_s undef (by kernel_rfl) ?_
            refine ql_s undef (by kernel_rfl) ?_
            refine ql_s (.bool true) (by kernel_rfl) ?_
            refine ql_nil (e_cutq ?_)
            exact ⟨rfl, (congrArg Value.bool (by first | rfl | (rw [hg2, hg3]; rfl) | simp [hg2, hg3])), trivial⟩
          · skip
            refine ql_s (.pointer (some ⟨b2, 4, none⟩)) (by kernel_rfl) ?_
            refine ql_q rfl (qs_ldpt encV fitv3 rfl 0 rfl (.int .i64 s0.Span) (Nat.le_of_ble_eq_true rfl) rfl) ?_
            refine ql_s (.bool (s0.Span != 0)) (by kernel_rfl) ?_
            refine ql_s (.bool (s0.Span != 0)) (by kernel_rfl) ?_
            refine ql_case 51 ((s0.Span != 0)) rfl (fun hg4 => ?_) (fun hg4 => ?_)
            · skip
              refine ql_s (.pointer (some ⟨b2, 4, none⟩)) (by kernel_rfl) ?_
              refine ql_q rfl (qs_ldpt encV fitv3 rfl 0 rfl (.int .i64 s0.Span) (Nat.le_of_ble_eq_true rfl) rfl) ?_
              refine ql_s (.bool (decide (s0.Span < 2))) (by kernel_rfl) ?_
              refine ql_s (.bool (decide (s0.Span < 2))) (by kernel_rfl) ?_
              refine ql_case 55 (decide (s0.Span < 2)) rfl (fun hg5 => ?_) (fun hg5 => ?_)
              · skip
                refine ql_s undef (by kernel_rfl) ?_
                refine ql_s undef (by kernel_rfl) ?_
                refine ql_s undef (by kernel_rfl) ?_
                refine ql_s (.bool true) (by kernel_rfl) ?_
                refine ql_s (.bool true) (by kernel_rfl) ?_
                refine ql_s (.bool true) (by kernel_rfl) ?_
                refine ql_nil (e_cutq ?_)
                exact ⟨rfl, (congrArg Value.bool (by first | rfl | (rw [hg2, hg3, hg4, hg5]; rfl) | simp [hg2, hg3, hg4, hg5])), trivial⟩
              · skip
                refine ql_s (.pointer (some ⟨b2, 4, none⟩)) (by kernel_rfl) ?_
                refine ql_q rfl (qs_ldpt encV fitv3 rfl 0 rfl (.int .i64 s0.Span) (Nat.le_of_ble_eq_true rfl) rfl) ?_
                refine ql_s (.bool (decide (s0.Span > 12))) (by kernel_rfl) ?_
                refine ql_s (.bool (decide (s0.Span > 12))) (by kernel_rfl) ?_
                refine ql_s (.bool (decide (s0.Span > 12))) (by kernel_rfl) ?_
                refine ql_s (.bool (decide (s0.Span > 12))) (by kernel_rfl) ?_
                refine ql_nil (e_cutq ?_)
                exact ⟨rfl, (congrArg Value.bool (by first | rfl | (rw [hg2, hg3, hg4, hg5]; rfl) | simp [hg2, hg3, hg4, hg5])), trivial⟩
            · skip
              refine ql_s undef (by kernel_rfl) ?_
              refine ql_s undef (by kernel_rfl) ?_
              refine ql_s undef (by kernel_rfl) ?_
              refine ql_s undef (by kernel_rfl) ?_
              refine ql_s undef (by kernel_rfl) ?_
              refine ql_s undef (by kernel_rfl) ?_
              refine ql_s undef (by kernel_rfl) ?_
              refine ql_s undef (by kernel_rfl) ?_
              refine ql_s (.bool false) (by kernel_rfl) ?_
              refine ql_s (.bool false) (by kernel_rfl) ?_
              refine ql_nil (e_cutq ?_)
              exact ⟨rfl, (congrArg Value.bool (by first | rfl | (rw [hg2, hg3, hg4]; rfl) | simp [hg2, hg3, hg4])), trivial⟩
      intro _
      refine e_then ?_
      refine c_cond (((flt .f32 s0.Bridge 1065353216) || ((fgt .f32 s0.Bridge 1149239296) || ((s0.Span != 0) && ((decide (s0.Span < 2)) || (decide (s0.Span > 12))))))) rfl (fun ht5 => ?_) (fun ht5 => ?_)
      · skip
        replace hp := if_t ht5 hp
        refine c_seq ?_
        refine c_quiet ?_
        refine ql_s (.int .i64 3) (by kernel_rfl) ?_
        refine ql_nil ?_
        refine e_drop ?_
        refine e_then ?_
        refine c_ret ?_
        refine e_then_ret ?_
        obtain rfl := Option.some.inj hp
        exact post_all (vs := [.int .i64 3]) (.int .i64 3) ⟨rfl, trivial⟩ rfl (.inl rfl) (fun w hS => ⟨rfl, (hS.lower hD2)⟩)
      · skip
        replace hp := if_f ht5 hp
        refine c_skip ?_
        refine e_then ?_
        refine c_seq ?_
        refine c_seq ?_
        refine c_quiet ?_
        refine ql_s (.pointer (some ⟨b2, 5, none⟩)) (by kernel_rfl) ?_
        refine ql_q rfl (qs_ldpt encV fitv55 rfl 0 rfl (.slice s0_v1a s0.Costly.length s0_v1c) (Nat.le_of_ble_eq_true rfl) rfl) ?_
        refine ql_s (.int .i64 (s0.Costly.length : Int)) (by kernel_rfl) ?_
        refine ql_s (.bool (decide ((s0.Costly.length : Int) > 1))) (by kernel_rfl) ?_
        refine ql_nil ?_
        refine e_then ?_
        refine c_cond (decide ((s0.Costly.length : Int) > 1)) rfl (fun ht6 => ?_) (fun ht6 => ?_)
        · skip
          replace hp := if_t ht6 hp
          refine c_seq ?_
          refine c_quiet ?_
          refine ql_s (.int .i64 4) (by kernel_rfl) ?_
          refine ql_nil ?_
          refine e_drop ?_
          refine e_then ?_
          refine c_ret ?_
          refine e_then_ret ?_
          obtain rfl := Option.some.inj hp
          exact post_all (vs := [.int .i64 4]) (.int .i64 4) ⟨rfl, trivial⟩ rfl (.inl rfl) (fun w hS => ⟨rfl, (hS.lower hD2)⟩)
        · skip
          replace hp := if_f ht6 hp
          refine c_skip ?_
          refine e_then ?_
          refine c_seq ?_
          refine c_seq ?_
          obtain ⟨r2, hr2, hp⟩ := bnd_some hp
          refine c_quiet ?_
          refine ql_s (.pointer (some ⟨b2, 5, none⟩)) (by kernel_rfl) ?_
          refine ql_q rfl (qs_ldpt encV fitv55 rfl 0 rfl (.slice s0_v1a s0.Costly.length s0_v1c) (Nat.le_of_ble_eq_true rfl) rfl) ?_
          refine ql_call (v := .int .i64 r2) rfl (run_call (vs := [.slice s0_v1a s0.Costly.length s0_v1c]) rfl Try.call47 rfl) (fun w hS => (field_CheckAll_s s0.Costly s0_v1a s0_v1c _ s0_h1 _ _ hr2 w (hS)).mono fun e w' h => ⟨h.1, h.2⟩) ?_
          refine ql_s (.int .i64 r2) (by kernel_rfl) ?_
          refine ql_nil ?_
          refine e_then ?_
          refine c_seq ?_
          refine c_quiet ?_
          refine ql_s (.int .i64 r2) (by kernel_rfl) ?_
          refine ql_s (.bool (r2 != 0)) (by kernel_rfl) ?_
          refine ql_nil ?_
          refine e_then ?_
          refine c_cond ((r2 != 0)) rfl (fun ht7 => ?_) (fun ht7 => ?_)
          · skip
            replace hp := if_t ht7 hp
            refine c_seq ?_
            refine c_quiet ?_
            refine ql_s (.int .i64 r2) (by kernel_rfl) ?_
            refine ql_s (.int .i64 r2) (by kernel_rfl) ?_
            refine ql_nil ?_
            refine e_drop ?_
            refine e_then ?_
            refine c_ret ?_
            refine e_then_ret ?_
            obtain rfl := Option.some.inj hp
            exact post_all (vs := [.int .i64 r2]) (.int .i64 r2) ⟨rfl, trivial⟩ rfl (.inl rfl) (fun w hS => ⟨rfl, (hS.lower hD2)⟩)
          · skip
            replace hp := if_f ht7 hp
            refine c_skip ?_
            refine e_then ?_
            refine c_seq ?_
            refine c_seq ?_
            refine c_quiet ?_
            refine ql_s (.pointer (some ⟨b2, 5, none⟩)) (by kernel_rfl) ?_
            refine ql_q rfl (qs_ldpt encV fitv55 rfl 0 rfl (.slice s0_v1a s0.Costly.length s0_v1c) (Nat.le_of_ble_eq_true rfl) rfl) ?_
            refine ql_s (.int .i64 (s0.Costly.length : Int)) (by kernel_rfl) ?_
            refine ql_s (.int .i64 0) (by kernel_rfl) ?_
            refine ql_nil ?_
            refine e_drop ?_
            refine e_then ?_
            have hb0 : (s0.Costly.length : Int) ≤ 4611686018427387904 := by have := RO.bound s0_h1; omega
            have hm0 : s0.Costly.length = (s0.Costly.length : Int).toNat := by omega
            have hm2 := hm0; have hb2 := hb0; clear hm0 hb0
            obtain ⟨x3, hs3, hp⟩ := bnd_some hp
            obtain ⟨body2, hbody2, hs3⟩ := forI_gen hs3
            refine c_cut_end (fun φ1 D3 As1 => ∃ (s3 : Unit), x3 = .go s3 ∧ Is φ1 [] ∧ PH.le D1 D3 ∧ As1 = F) ?_ ?_
            · skip
              refine c_block ?_
              refine c_loop (fun k φ1 D4 As1 => ∃ (j2 i2 : Nat) (s4 : Unit), k = j2 + 1 ∧ i2 + j2 = s0.Costly.length ∧ Is φ1 [(73, .slice s0_v1a s0.Costly.length s0_v1c), (74, .int .i64 (s0.Costly.length : Int)), (75, .int .i64 (i2 : Int))] ∧ PH.le D1 D4 ∧ As1 = F ∧ forI body2 j2 i2 s4 = some x3) ⟨s0.Costly.length + 1, s0.Costly.length, 0, (), rfl, Nat.zero_add _, ⟨rfl, rfl, rfl, trivial⟩, (PH.le_refl _), rfl, hs3⟩ ?_ ?_
              · rintro _ _ _ ⟨_, _, _, h0, _⟩; omega
              intro k2
              rintro φ3 D4 As3 ⟨j2, i2, s4, hk2, hij2, hI3, hD3, hA3, hs4⟩
              subst As3
              replace s0_h1 := s0_h1.mono hD3
              refine c_frame _ hI3 ?_
              obtain rfl : k2 = j2 := by omega
              clear hk2
              rcases k2 with _ | j2
              · skip
                refine c_seq ?_
                refine c_quiet ?_
                refine ql_s (.bool (decide ((i2 : Int) < (s0.Costly.length : Int)))) (by kernel_rfl) ?_
                refine ql_nil ?_
                refine e_then ?_
                refine c_seq ?_
                refine c_cond (decide ((i2 : Int) < (s0.Costly.length : Int))) rfl (fun ht8 => absurd ((dec_lt_f hm2 (by omega)).symm.trans ht8) (by simp)) (fun _ => ?_)
                refine c_exit ?_
                refine e_then_exit ?_
                refine e_then_exit ?_
                obtain rfl := Option.some.inj hs4
                refine e_blk_exit ?_
                exact e_cut ⟨(), rfl, trivial, hD3, rfl⟩
              · skip
                obtain ⟨y2, hx3, hs4⟩ := forI_some hs4
                replace hx3 := (congrFun (congrFun hbody2 i2) s4).trans hx3
                refine c_seq ?_
                refine c_quiet ?_
                refine ql_s (.bool (decide ((i2 : Int) < (s0.Costly.length : Int)))) (by kernel_rfl) ?_
                refine ql_nil ?_
                refine e_then ?_
                refine c_seq ?_
                refine c_cond (decide ((i2 : Int) < (s0.Costly.length : Int))) rfl (fun _ => ?_) (fun ht9 => absurd ((dec_lt_t hm2 (by omega)).symm.trans ht9) (by simp))
                refine c_skip ?_
                refine e_then ?_
                refine c_seq ?_
                refine c_block ?_
                refine c_seq ?_
                obtain ⟨x4, hx4, hx3⟩ := bnd_some hx3
                obtain ⟨b5, o1, h1, hq1⟩ := RO.at s0_h1 hx4
                obtain ⟨cs1, hc1, ha1⟩ := h1.cells
                obtain ⟨v1, rfl, h2⟩ := hc1
                obtain ⟨a1, cp3, rfl⟩ := RO.len h2
                refine c_region ?_
                refine l_q rfl (qs_idx hq1 Try.underlying55 fit26 rfl rfl) ?_
                refine l_q rfl (qs_ldC fit26 rfl ha1 rfl (.agg #[.int .i64 x4.Region.X, .int .i64 x4.Region.Y, .int .i64 x4.Region.W, .int .i64 x4.Region.H, .slice a1 x4.V.length cp3]) rfl) ?_
                refine l_alloc (zs := [.int .i64 0, .int .i64 0, .int .i64 0, .int .i64 0, .slice none 0 0]) rfl (by kernel_rfl) (fun b7 => ?_)
                refine l_store (dd := none) (vs := [.int .i64 x4.Region.X, .int .i64 x4.Region.Y, .int .i64 x4.Region.W, .int .i64 x4.Region.H, .slice a1 x4.V.length cp3]) (cs' := [.int .i64 x4.Region.X, .int .i64 x4.Region.Y, .int .i64 x4.Region.W, .int .i64 x4.Region.H, .slice a1 x4.V.length cp3]) rfl (by kernel_rfl) (by kernel_rfl) rfl rfl (Nat.le_of_ble_eq_true rfl) rfl rfl ?_
                refine l_nil ?_
                refine e_then ?_
                refine c_seq ?_
                obtain ⟨r3, hr3, hx3⟩ := bnd_some hx3
                refine c_quiet ?_
                refine ql_s (.pointer (some ⟨b7, 4, none⟩)) (by kernel_rfl) ?_
                refine ql_q rfl (qs_ldpt encV fitv24 rfl 0 rfl (.slice a1 x4.V.length cp3) (Nat.le_of_ble_eq_true rfl) rfl) ?_
                refine ql_call (v := .bool r3) rfl (run_call (vs := [.slice a1 x4.V.length cp3, .func (.func 114) #[] #[]]) rfl Try.call113 rfl) (fun w hS => (slices_ContainsFunc_float32_float32_s x4.V a1 cp3 _ h2 _ _ hr3 w (hS)).mono fun e w' h => ⟨h.1, h.2⟩) ?_
                refine ql_nil ?_
                refine e_drop ?_
                refine e_then ?_
                refine c_cond (r3) rfl (fun ht10 => ?_) (fun ht10 => ?_)
                · skip
                  replace hx3 := if_t ht10 hx3
                  refine c_seq ?_
                  refine c_quiet ?_
                  refine ql_s (.int .i64 3) (by kernel_rfl) ?_
                  refine ql_nil ?_
                  refine e_then ?_
                  refine c_ret ?_
                  refine e_blk_ret ?_
                  refine e_then_ret ?_
                  refine e_then_ret ?_
                  obtain rfl := Option.some.inj hx3
                  obtain rfl := hs4
                  refine e_blk_ret ?_
                  refine e_then_ret ?_
                  dsimp only at hp
                  refine e_then_ret ?_
                  obtain rfl := Option.some.inj hp
                  exact post_all (vs := [.int .i64 3]) (.int .i64 3) ⟨rfl, trivial⟩ rfl (.inl rfl) (fun w hS => ⟨rfl, (hS.lower (PH.le_trans hD2 hD3))⟩)
                · skip
                  replace hx3 := if_f ht10 hx3
                  refine c_skip ?_
                  refine e_blk ?_
                  refine e_then ?_
                  refine c_quiet ?_
                  refine ql_s (.int .i64 (addI (i2 : Int) 1)) (by kernel_rfl) ?_
                  refine ql_s (.int .i64 (addI (i2 : Int) 1)) (by kernel_rfl) ?_
                  refine ql_nil ?_
                  obtain rfl := Option.some.inj hx3
                  exact e_cut ⟨j2, i2 + 1, (), by omega, by omega, ⟨rfl, rfl, (congrArg (Value.int .i64) (addI_succ (by omega))), trivial⟩, hD3, rfl, hs4⟩
            · skip
              rintro φ4 D3 As4 ⟨s3, rfl, hI4, hD4, hA4⟩
              subst As4
              replace s0_h1 := s0_h1.mono hD4
              dsimp only at hp
              refine e_frame _ hI4 ?_
              refine e_then ?_
              refine c_seq ?_
              refine c_quiet ?_
              refine ql_s (.int .i64 0) (by kernel_rfl) ?_
              refine ql_nil ?_
              refine e_then ?_
              refine c_ret ?_
              obtain rfl := Option.some.inj hp
              exact post_all (vs := [.int .i64 0]) (.int .i64 0) ⟨rfl, trivial⟩ rfl (.inl rfl) (fun w hS => ⟨rfl, (hS.lower (PH.le_trans hD2 hD4))⟩)

-- tarnfell/road.check
set_option maxRecDepth 100000 in
set_option maxHeartbeats 4000000 in
theorem road_check_s (f0 : S_api_Field) (f0_v1a : Option Addr) (f0_v1c : Nat) (s0 : S_api_RoadRules) (s0_v1a : Option Addr) (s0_v1c : Nat) (D : PH) (f0_h1 : RO (encF .f32) D (.slice f0_v1a f0.V.length f0_v1c) f0.V) (s0_h1 : RO encS_api_Field D (.slice s0_v1a s0.Costly.length s0_v1c) s0.Costly) (F : List Assert) (r : Int) (hp : road_check_p f0 s0 = some r) : ∀ w : World, SInv D (F) w → Calls Try.prog 70 #[.agg #[.int .i64 f0.Region.X, .int .i64 f0.Region.Y, .int .i64 f0.Region.W, .int .i64 f0.Region.H, .slice f0_v1a f0.V.length f0_v1c], .agg #[.float .f32 s0.Grade, .float .f32 s0.Weight, .float .f32 s0.Bridge, .float .f32 s0.Dear, .int .i64 s0.Span, .slice s0_v1a s0.Costly.length s0_v1c]] w (fun e w' => e = .returned (.int .i64 r) ∧ SInv D (F) w') := by
  intro w hS
  refine call_intro Try.func70 rfl Try.ntmps70 (Nat.le_of_ble_eq_true rfl) hS ?_
  clear hS w
  unfold road_check_p at hp
  refine c_seq ?_
  refine c_region ?_
  refine l_box (cs := [.int .i64 f0.Region.X, .int .i64 f0.Region.Y, .int .i64 f0.Region.W, .int .i64 f0.Region.H, .slice f0_v1a f0.V.length f0_v1c]) rfl rfl (fun b3 => ?_)
  refine l_box (cs := [.float .f32 s0.Grade, .float .f32 s0.Weight, .float .f32 s0.Bridge, .float .f32 s0.Dear, .int .i64 s0.Span, .slice s0_v1a s0.Costly.length s0_v1c]) rfl rfl (fun b4 => ?_)
  refine l_s (.int .i64 0) (by kernel_rfl) ?_
  refine l_nil ?_
  refine e_then ?_
  refine c_seq ?_
  refine c_seq ?_
  obtain ⟨r1, hr1, hp⟩ := bnd_some hp
  refine c_quiet ?_
  refine ql_q rfl (qs_ldpt (encW 5 (by decide)) fitv26 rfl 1 rfl (.agg #[.int .i64 f0.Region.X, .int .i64 f0.Region.Y, .int .i64 f0.Region.W, .int .i64 f0.Region.H, .slice f0_v1a f0.V.length f0_v1c]) (Nat.le_of_ble_eq_true rfl) rfl) ?_
  refine ql_call (v := .int .i64 r1) rfl (run_call (vs := [.agg #[.int .i64 f0.Region.X, .int .i64 f0.Region.Y, .int .i64 f0.Region.W, .int .i64 f0.Region.H, .slice f0_v1a f0.V.length f0_v1c]]) rfl Try.call75 rfl) (fun w hS => (field_Check_s f0 f0_v1a f0_v1c _ f0_h1 _ _ hr1 w (hS)).mono fun e w' h => ⟨h.1, h.2⟩) ?_
  refine ql_s (.int .i64 r1) (by kernel_rfl) ?_
  refine ql_nil ?_
  refine e_then ?_
  refine c_seq ?_
  refine c_quiet ?_
  refine ql_s (.int .i64 r1) (by kernel_rfl) ?_
  refine ql_s (.bool (r1 != 0)) (by kernel_rfl) ?_
  refine ql_nil ?_
  refine e_then ?_
  refine c_cond ((r1 != 0)) rfl (fun ht1 => ?_) (fun ht1 => ?_)
  · skip
    replace hp := if_t ht1 hp
    refine c_seq ?_
    refine c_quiet ?_
    refine ql_s (.int .i64 r1) (by kernel_rfl) ?_
    refine ql_s (.int .i64 r1) (by kernel_rfl) ?_
    refine ql_nil ?_
    refine e_drop ?_
    refine e_drop ?_
    refine e_then ?_
    refine c_ret ?_
    refine e_then_ret ?_
    obtain rfl := Option.some.inj hp
    exact post_all (vs := [.int .i64 r1]) (.int .i64 r1) ⟨rfl, trivial⟩ rfl (.inl rfl) (fun w hS => ⟨rfl, hS⟩)
  · skip
    replace hp := if_f ht1 hp
    refine c_skip ?_
    refine e_then ?_
    refine c_seq ?_
    refine c_seq ?_
    obtain ⟨r2, hr2, hp⟩ := bnd_some hp
    refine c_quiet ?_
    refine ql_q rfl (qs_ldpt (encW 6 (by decide)) fitv57 rfl 0 rfl (.agg #[.float .f32 s0.Grade, .float .f32 s0.Weight, .float .f32 s0.Bridge, .float .f32 s0.Dear, .int .i64 s0.Span, .slice s0_v1a s0.Costly.length s0_v1c]) (Nat.le_of_ble_eq_true rfl) rfl) ?_
    refine ql_call (v := .int .i64 r2) rfl (run_call (vs := [.agg #[.float .f32 s0.Grade, .float .f32 s0.Weight, .float .f32 s0.Bridge, .float .f32 s0.Dear, .int .i64 s0.Span, .slice s0_v1a s0.Costly.length s0_v1c]]) rfl Try.call98 rfl) (fun w hS => (road_CheckRules_s s0 s0_v1a s0_v1c _ s0_h1 _ _ hr2 w (hS)).mono fun e w' h => ⟨h.1, h.2⟩) ?_
    refine ql_s (.int .i64 r2) (by kernel_rfl) ?_
    refine ql_nil ?_
    refine e_then ?_
    refine c_seq ?_
    refine c_quiet ?_
    refine ql_s (.int .i64 r2) (by kernel_rfl) ?_
    refine ql_s (.bool (r2 != 0)) (by kernel_rfl) ?_
    refine ql_nil ?_
    refine e_then ?_
    refine c_cond ((r2 != 0)) rfl (fun ht2 => ?_) (fun ht2 => ?_)
    · skip
      replace hp := if_t ht2 hp
      refine c_seq ?_
      refine c_quiet ?_
      refine ql_s (.int .i64 r2) (by kernel_rfl) ?_
      refine ql_s (.int .i64 r2) (by kernel_rfl) ?_
      refine ql_nil ?_
      refine e_drop ?_
      refine e_drop ?_
      refine e_then ?_
      refine c_ret ?_
      refine e_then_ret ?_
      obtain rfl := Option.some.inj hp
      exact post_all (vs := [.int .i64 r2]) (.int .i64 r2) ⟨rfl, trivial⟩ rfl (.inl rfl) (fun w hS => ⟨rfl, hS⟩)
    · skip
      replace hp := if_f ht2 hp
      refine c_skip ?_
      refine e_then ?_
      refine c_seq ?_
      refine c_seq ?_
      refine c_quiet ?_
      refine ql_s (.pointer (some ⟨b4, 5, none⟩)) (by kernel_rfl) ?_
      refine ql_q rfl (qs_ldpt encV fitv55 rfl 0 rfl (.slice s0_v1a s0.Costly.length s0_v1c) (Nat.le_of_ble_eq_true rfl) rfl) ?_
      refine ql_s (.int .i64 (s0.Costly.length : Int)) (by kernel_rfl) ?_
      refine ql_s (.int .i64 0) (by kernel_rfl) ?_
      refine ql_nil ?_
      refine e_drop ?_
      refine e_then ?_
      have hb0 : (s0.Costly.length : Int) ≤ 4611686018427387904 := by have := RO.bound s0_h1; omega
      have hm0 : s0.Costly.length = (s0.Costly.length : Int).toNat := by omega
      have hm1 := hm0; have hb1 := hb0; clear hm0 hb0
      obtain ⟨x1, hs1, hp⟩ := bnd_some hp
      obtain ⟨body1, hbody1, hs1⟩ := forI_gen hs1
      refine c_cut_end (fun φ1 D1 As1 => ∃ (s1 : Unit), x1 = .go s1 ∧ Is φ1 [] ∧ PH.le D D1 ∧ As1 = pt b3 [.int .i64 f0.Region.X, .int .i64 f0.Region.Y, .int .i64 f0.Region.W, .int .i64 f0.Region.H, .slice f0_v1a f0.V.length f0_v1c] 26 :: F) ?_ ?_
      · skip
        refine c_block ?_
        refine c_loop (fun k φ1 D2 As1 => ∃ (j1 i1 : Nat) (s2 : Unit), k = j1 + 1 ∧ i1 + j1 = s0.Costly.length ∧ Is φ1 [(2, .pointer (some ⟨b3, 0, none⟩)), (20, .slice s0_v1a s0.Costly.length s0_v1c), (21, .int .i64 (s0.Costly.length : Int)), (22, .int .i64 (i1 : Int))] ∧ PH.le D D2 ∧ As1 = pt b3 [.int .i64 f0.Region.X, .int .i64 f0.Region.Y, .int .i64 f0.Region.W, .int .i64 f0.Region.H, .slice f0_v1a f0.V.length f0_v1c] 26 :: F ∧ forI body1 j1 i1 s2 = some x1) ⟨s0.Costly.length + 1, s0.Costly.length, 0, (), rfl, Nat.zero_add _, ⟨rfl, rfl, rfl, rfl, trivial⟩, (PH.le_refl _), rfl, hs1⟩ ?_ ?_
        · rintro _ _ _ ⟨_, _, _, h0, _⟩; omega
        intro k1
        rintro φ1 D2 As1 ⟨j1, i1, s2, hk1, hij1, hI1, hD1, hA1, hs2⟩
        subst As1
        replace s0_h1 := s0_h1.mono hD1
        replace f0_h1 := f0_h1.mono hD1
        refine c_frame _ hI1 ?_
        obtain rfl : k1 = j1 := by omega
        clear hk1
        rcases k1 with _ | j1
        · skip
          refine c_seq ?_
          refine c_quiet ?_
          refine ql_s (.bool (decide ((i1 : Int) < (s0.Costly.length : Int)))) (by kernel_rfl) ?_
          refine ql_nil ?_
          refine e_then ?_
          refine c_seq ?_
          refine c_cond (decide ((i1 : Int) < (s0.Costly.length : Int))) rfl (fun ht3 => absurd ((dec_lt_f hm1 (by omega)).symm.trans ht3) (by simp)) (fun _ => ?_)
          refine c_exit ?_
          refine e_then_exit ?_
          refine e_then_exit ?_
          obtain rfl := Option.some.inj hs2
          refine e_blk_exit ?_
          exact e_cut ⟨(), rfl, trivial, hD1, rfl⟩
        · skip
          obtain ⟨y1, hx1, hs2⟩ := forI_some hs2
          replace hx1 := (congrFun (congrFun hbody1 i1) s2).trans hx1
          refine c_seq ?_
          refine c_quiet ?_
          refine ql_s (.bool (decide ((i1 : Int) < (s0.Costly.length : Int)))) (by kernel_rfl) ?_
          refine ql_nil ?_
          refine e_then ?_
          refine c_seq ?_
          refine c_cond (decide ((i1 : Int) < (s0.Costly.length : Int))) rfl (fun _ => ?_) (fun ht4 => absurd ((dec_lt_t hm1 (by omega)).symm.trans ht4) (by simp))
          refine c_skip ?_
          refine e_then ?_
          refine c_seq ?_
          refine c_block ?_
          refine c_seq ?_
          obtain ⟨x2, hx2, hx1⟩ := bnd_some hx1
          obtain ⟨b5, o1, h1, hq1⟩ := RO.at s0_h1 hx2
          obtain ⟨cs1, hc1, ha1⟩ := h1.cells
          obtain ⟨v1, rfl, h2⟩ := hc1
          obtain ⟨a1, cp1, rfl⟩ := RO.len h2
          refine c_region ?_
          refine l_q rfl (qs_idx hq1 Try.underlying55 fit26 rfl rfl) ?_
          refine l_q rfl (qs_ldC fit26 rfl ha1 rfl (.agg #[.int .i64 x2.Region.X, .int .i64 x2.Region.Y, .int .i64 x2.Region.W, .int .i64 x2.Region.H, .slice a1 x2.V.length cp1]) rfl) ?_
          refine l_alloc (zs := [.int .i64 0, .int .i64 0, .int .i64 0, .int .i64 0, .slice none 0 0]) rfl (by kernel_rfl) (fun b7 => ?_)
          refine l_store (dd := none) (vs := [.int .i64 x2.Region.X, .int .i64 x2.Region.Y, .int .i64 x2.Region.W, .int .i64 x2.Region.H, .slice a1 x2.V.length cp1]) (cs' := [.int .i64 x2.Region.X, .int .i64 x2.Region.Y, .int .i64 x2.Region.W, .int .i64 x2.Region.H, .slice a1 x2.V.length cp1]) rfl (by kernel_rfl) (by kernel_rfl) rfl rfl (Nat.le_of_ble_eq_true rfl) rfl rfl ?_
          refine l_nil ?_
          refine e_then ?_
          refine c_seq ?_
          refine c_quiet ?_
          refine ql_s (.pointer (some ⟨b7, 0, none⟩)) (by kernel_rfl) ?_
          refine ql_q rfl (qs_ldpt (encW 4 (by decide)) fitv23 rfl 0 rfl (.agg #[.int .i64 x2.Region.X, .int .i64 x2.Region.Y, .int .i64 x2.Region.W, .int .i64 x2.Region.H]) (Nat.le_of_ble_eq_true rfl) rfl) ?_
          refine ql_s (.pointer (some ⟨b3, 0, none⟩)) (by kernel_rfl) ?_
          refine ql_q rfl (qs_ldpt (encW 4 (by decide)) fitv23 rfl 1 rfl (.agg #[.int .i64 f0.Region.X, .int .i64 f0.Region.Y, .int .i64 f0.Region.W, .int .i64 f0.Region.H]) (Nat.le_of_ble_eq_true rfl) rfl) ?_
          refine ql_q rfl (qs_eqS (r := ((x2.Region.X == f0.Region.X) && ((x2.Region.Y == f0.Region.Y) && ((x2.Region.W == f0.Region.W) && ((x2.Region.H == f0.Region.H) && true))))) (v := !(((x2.Region.X == f0.Region.X) && ((x2.Region.Y == f0.Region.Y) && ((x2.Region.W == f0.Region.W) && ((x2.Region.H == f0.Region.H) && true)))))) rfl rfl (by kernel_rfl) (.inr rfl) rfl) ?_
          refine ql_nil ?_
          refine e_drop ?_
          refine e_then ?_
          refine c_cond (!(((x2.Region.X == f0.Region.X) && ((x2.Region.Y == f0.Region.Y) && ((x2.Region.W == f0.Region.W) && ((x2.Region.H == f0.Region.H) && true)))))) rfl (fun ht5 => ?_) (fun ht5 => ?_)
          · skip
            replace hx1 := if_t ht5 hx1
            refine c_seq ?_
            refine c_quiet ?_
            refine ql_s (.int .i64 5) (by kernel_rfl) ?_
            refine ql_nil ?_
            refine e_drop ?_
            refine e_then ?_
            refine c_ret ?_
            refine e_blk_ret ?_
            refine e_then_ret ?_
            refine e_then_ret ?_
            obtain rfl := Option.some.inj hx1
            obtain rfl := hs2
            refine e_blk_ret ?_
            refine e_then_ret ?_
            dsimp only at hp
            refine e_then_ret ?_
            obtain rfl := Option.some.inj hp
            exact post_all (vs := [.int .i64 5]) (.int .i64 5) ⟨rfl, trivial⟩ rfl (.inl rfl) (fun w hS => ⟨rfl, (hS.lower hD1)⟩)
          · skip
            replace hx1 := if_f ht5 hx1
            refine c_skip ?_
            refine e_blk ?_
            refine e_then ?_
            refine c_quiet ?_
            refine ql_s (.int .i64 (addI (i1 : Int) 1)) (by kernel_rfl) ?_
            refine ql_s (.int .i64 (addI (i1 : Int) 1)) (by kernel_rfl) ?_
            refine ql_nil ?_
            obtain rfl := Option.some.inj hx1
            exact e_cut ⟨j1, i1 + 1, (), by omega, by omega, ⟨rfl, rfl, rfl, (congrArg (Value.int .i64) (addI_succ (by omega))), trivial⟩, hD1, rfl, hs2⟩
      · skip
        rintro φ2 D1 As2 ⟨s1, rfl, hI2, hD2, hA2⟩
        subst As2
        replace f0_h1 := f0_h1.mono hD2
        replace s0_h1 := s0_h1.mono hD2
        dsimp only at hp
        refine e_frame _ hI2 ?_
        refine e_then ?_
        refine c_seq ?_
        refine c_quiet ?_
        refine ql_s (.int .i64 0) (by kernel_rfl) ?_
        refine ql_nil ?_
        refine e_drop ?_
        refine e_then ?_
        refine c_ret ?_
        obtain rfl := Option.some.inj hp
        exact post_all (vs := [.int .i64 0]) (.int .i64 0) ⟨rfl, trivial⟩ rfl (.inl rfl) (fun w hS => ⟨rfl, (hS.lower hD2)⟩)

-- (tarnfell/road.queue).Len
set_option maxRecDepth 100000 in
set_option maxHeartbeats 4000000 in
theorem road_queue_Len_s (q0 : List S_road_reached) (q0_v1a : Option Addr) (q0_v1c : Nat) (D : PH) (q0_h1 : RO encS_road_reached D (.slice q0_v1a q0.length q0_v1c) q0) (F : List Assert) (r : Int) (hp : road_queue_Len_p q0 = some r) : ∀ w : World, SInv D (F) w → Calls Try.prog 161 #[.slice q0_v1a q0.length q0_v1c] w (fun e w' => e = .returned (.int .i64 r) ∧ SInv D (F) w') := by
  intro w hS
  refine call_intro Try.func161 rfl Try.ntmps161 (Nat.le_of_ble_eq_true rfl) hS ?_
  clear hS w
  unfold road_queue_Len_p at hp
  refine c_seq ?_
  refine c_quiet ?_
  refine ql_s (.int .i64 0) (by kernel_rfl) ?_
  refine ql_nil ?_
  refine e_then ?_
  refine c_seq ?_
  refine c_quiet ?_
  refine ql_s (.slice q0_v1a q0.length q0_v1c) (by kernel_rfl) ?_
  refine ql_s (.int .i64 (q0.length : Int)) (by kernel_rfl) ?_
  refine ql_s (.int .i64 (q0.length : Int)) (by kernel_rfl) ?_
  refine ql_nil ?_
  refine e_then ?_
  refine c_ret ?_
  obtain rfl := Option.some.inj hp
  exact post_all (vs := [.int .i64 (q0.length : Int)]) (.int .i64 (q0.length : Int)) ⟨rfl, trivial⟩ rfl (.inl rfl) (fun w hS => ⟨rfl, hS⟩)

-- (tarnfell/road.queue).Swap
set_option maxRecDepth 100000 in
set_option maxHeartbeats 4000000 in
theorem road_queue_Swap_s (q0 : List S_road_reached) (q0_a : Option Addr) (q0_c : Nat) (i0 : Int) (j0 : Int) (D : PH)  (F : List Assert) (r : (List S_road_reached)) (hp : road_queue_Swap_p q0 i0 j0 = some r) : ∀ w : World, SInv D (OwnS D encS_road_reached 152 (.slice q0_a q0.length q0_c) q0 :: F) w → Calls Try.prog 163 #[.slice q0_a q0.length q0_c, .int .i64 i0, .int .i64 j0] w (fun e w' => ∃ (D1 : PH) , PH.le D D1 ∧ e = .returned (.tuple #[]) ∧ SInv D1 (OwnS D1 encS_road_reached 152 (.slice q0_a q0.length q0_c) r :: F) w') := by
  intro w hS
  refine call_intro Try.func163 rfl Try.ntmps163 (Nat.le_of_ble_eq_true rfl) hS ?_
  clear hS w
  unfold road_queue_Swap_p at hp
  obtain ⟨x1, hx1, hp⟩ := bnd_some hp
  obtain ⟨x2, hx2, hp⟩ := bnd_some hp
  obtain ⟨l1, hl1, hp⟩ := bnd_some hp
  replace hl1 := Option.some.inj hl1
  obtain ⟨x3, hx3, hp⟩ := bnd_some hp
  obtain ⟨l2, hl2, hp⟩ := bnd_some hp
  replace hl2 := Option.some.inj hl2
  refine c_adr (fun b1 hb1 hl3 hbd1 hcap1 => ?_)
  refine c_cut_end (fun φ1 D1 As1 => Is φ1 [] ∧ D = D1 ∧ As1 = OwnS D encS_road_reached 152 (.slice q0_a q0.length q0_c) l2 :: F) ?_ ?_
  · skip
    refine c_order (B := []) (.q 0 (.q 1 (.q 2 (.q 3 (.q 4 (.q 5 (.q 6 (.q 8 (.q 9 (.q 10 (.f 7 (.e 11 (.q 12 (.e 13 (.q 14 (.e 15 .nil))))) (.e 11 (.e 7 (.q 12 (.e 13 (.q 14 (.e 15 .nil))))))))))))))))) hmix (by kernel_rfl) (NoPanic.then NoPanic.post) ?_
    refine o_s (.slice q0_a q0.length q0_c) rfl (by kernel_rfl) ?_
    refine o_s (.int .i64 i0) rfl (by kernel_rfl) ?_
    refine o_s (.slice q0_a q0.length q0_c) rfl (by kernel_rfl) ?_
    refine o_s (.int .i64 j0) rfl (by kernel_rfl) ?_
    refine o_s (.slice q0_a q0.length q0_c) rfl (by kernel_rfl) ?_
    refine o_s (.int .i64 j0) rfl (by kernel_rfl) ?_
    refine o_qs rfl rfl (qs_idx (IsIdx.beg (e := encS_road_reached) hb1 rfl hx1) Try.underlying154 fit152 rfl rfl) ?_
    refine o_s (.slice q0_a q0.length q0_c) rfl (by kernel_rfl) ?_
    refine o_s (.int .i64 i0) rfl (by kernel_rfl) ?_
    refine o_qs rfl rfl (qs_idx (IsIdx.beg (e := encS_road_reached) hb1 rfl hx2) Try.underlying154 fit152 rfl rfl) ?_
    refine o_f ?_ ?_
    · skip
      refine o_qe rfl rfl (PH.le_refl _) (qs_ldS fit152 hb1 rfl rfl 0 rfl (idx_some hx1).2.2 (v := .agg #[.float .f32 x1.price, .int .i64 x1.k]) (fun cs hcs => by rw [show cs = _ from hcs]; rfl)) ?_
      refine o_qe rfl rfl (PH.le_refl _) (qs_ldS fit152 hb1 rfl rfl 0 rfl (idx_some hx2).2.2 (v := .agg #[.float .f32 x2.price, .int .i64 x2.k]) (fun cs hcs => by rw [show cs = _ from hcs]; rfl)) ?_
      refine o_qs rfl rfl (qs_idx (IsIdx.beg (e := encS_road_reached) hb1 rfl hx2) Try.underlying154 fit152 rfl rfl) ?_
      refine o_stS (vs := [.float .f32 x1.price, .int .i64 x1.k]) hb1 rfl hl1 rfl rfl (PH.le_refl _) fit152 rfl rfl rfl rfl (idx_some hx2).2.1 ?_
      refine o_qs rfl rfl (qs_idx (IsIdx.beg (e := encS_road_reached) (Beg.set hl1 hb1) (len_set hl1 rfl) hx3) Try.underlying154 fit152 rfl rfl) ?_
      refine o_stS (vs := [.float .f32 x2.price, .int .i64 x2.k]) (Beg.set hl1 hb1) (len_set hl1 rfl) hl2 rfl rfl (PH.le_refl _) fit152 rfl rfl rfl rfl (idx_some hx3).2.1 ?_
      refine o_nil ?_
      exact e_cut ⟨trivial, rfl, rfl⟩
    refine o_qe rfl rfl (PH.le_refl _) (qs_ldS fit152 hb1 rfl rfl 0 rfl (idx_some hx2).2.2 (v := .agg #[.float .f32 x2.price, .int .i64 x2.k]) (fun cs hcs => by rw [show cs = _ from hcs]; rfl)) ?_
    refine o_qe rfl rfl (PH.le_refl _) (qs_ldS fit152 hb1 rfl rfl 0 rfl (idx_some hx1).2.2 (v := .agg #[.float .f32 x1.price, .int .i64 x1.k]) (fun cs hcs => by rw [show cs = _ from hcs]; rfl)) ?_
    refine o_qs rfl rfl (qs_idx (IsIdx.beg (e := encS_road_reached) hb1 rfl hx2) Try.underlying154 fit152 rfl rfl) ?_
    refine o_stS (vs := [.float .f32 x1.price, .int .i64 x1.k]) hb1 rfl hl1 rfl rfl (PH.le_refl _) fit152 rfl rfl rfl rfl (idx_some hx2).2.1 ?_
    refine o_qs rfl rfl (qs_idx (IsIdx.beg (e := encS_road_reached) (Beg.set hl1 hb1) (len_set hl1 rfl) hx3) Try.underlying154 fit152 rfl rfl) ?_
    refine o_stS (vs := [.float .f32 x2.price, .int .i64 x2.k]) (Beg.set hl1 hb1) (len_set hl1 rfl) hl2 rfl rfl (PH.le_refl _) fit152 rfl rfl rfl rfl (idx_some hx3).2.1 ?_
    refine o_nil ?_
    exact e_cut ⟨trivial, rfl, rfl⟩
  · skip
    rintro φ1 _ As1 ⟨hI1, rfl, hA⟩
    subst As1
    refine e_frame _ hI1 ?_
    obtain rfl := Option.some.inj hp
    exact post_all (vs := []) (.tuple #[]) trivial rfl (.inr rfl) (fun w hS => ⟨D, (PH.le_refl _), rfl, hS⟩)

-- (tarnfell/road.queue).Less
set_option maxRecDepth 100000 in
set_option maxHeartbeats 4000000 in
theorem road_queue_Less_s (q0 : List S_road_reached) (q0_v1a : Option Addr) (q0_v1c : Nat) (i0 : Int) (j0 : Int) (D : PH) (q0_h1 : RO encS_road_reached D (.slice q0_v1a q0.length q0_v1c) q0) (F : List Assert) (r : Bool) (hp : road_queue_Less_p q0 i0 j0 = some r) : ∀ w : World, SInv D (F) w → Calls Try.prog 162 #[.slice q0_v1a q0.length q0_v1c, .int .i64 i0, .int .i64 j0] w (fun e w' => e = .returned (.bool r) ∧ SInv D (F) w') := by
  intro w hS
  refine call_intro Try.func162 rfl Try.ntmps162 (Nat.le_of_ble_eq_true rfl) hS ?_
  clear hS w
  unfold road_queue_Less_p at hp
  refine c_seq ?_
  refine c_quiet ?_
  refine ql_s (.bool false) (by kernel_rfl) ?_
  refine ql_nil ?_
  refine e_then ?_
  refine c_seq ?_
  obtain ⟨x1, hx1, hp⟩ := bnd_some hp
  obtain ⟨b1, o1, h1, hq1⟩ := RO.at q0_h1 hx1
  have h2 := AtB.field (e' := encF .f32) (u := x1.price) 0 (by decide) (by intro cs hcs; rw [show cs = _ from hcs]; rfl) h1
  obtain ⟨x2, hx2, hp⟩ := bnd_some hp
  obtain ⟨b2, o2, h3, hq2⟩ := RO.at q0_h1 hx2
  have h4 := AtB.field (e' := encF .f32) (u := x2.price) 0 (by decide) (by intro cs hcs; rw [show cs = _ from hcs]; rfl) h3
  refine c_quiet_draw hmix (by kernel_rfl) ?_
  refine ql_s (.slice q0_v1a q0.length q0_v1c) (by kernel_rfl) ?_
  refine ql_s (.int .i64 i0) (by kernel_rfl) ?_
  refine ql_q rfl (qs_idx hq1 Try.underlying154 fit152 rfl rfl) ?_
  refine ql_s (.pointer (some ⟨b1, (o1 + 0), none⟩)) (by kernel_rfl) ?_
  refine ql_q rfl (qs_ldAtV fit40 rfl h2 valF) ?_
  refine ql_s (.slice q0_v1a q0.length q0_v1c) (by kernel_rfl) ?_
  refine ql_s (.int .i64 j0) (by kernel_rfl) ?_
  refine ql_q rfl (qs_idx hq2 Try.underlying154 fit152 rfl rfl) ?_
  refine ql_s (.pointer (some ⟨b2, (o2 + 0), none⟩)) (by kernel_rfl) ?_
  refine ql_q rfl (qs_ldAtV fit40 rfl h4 valF) ?_
  refine ql_s (.bool (flt .f32 x1.price x2.price)) (by kernel_rfl) ?_
  refine ql_s (.bool (flt .f32 x1.price x2.price)) (by kernel_rfl) ?_
  refine ql_nil ?_
  refine e_then ?_
  refine c_ret ?_
  obtain rfl := Option.some.inj hp
  exact post_all (vs := [.bool (flt .f32 x1.price x2.price)]) (.bool (flt .f32 x1.price x2.price)) ⟨rfl, trivial⟩ rfl (.inl rfl) (fun w hS => ⟨rfl, hS⟩)

-- container/heap.down
set_option maxRecDepth 100000 in
set_option maxHeartbeats 4000000 in
theorem container_heap_down_s (b_h0 : Nat) (h0 : List S_road_reached) (h0_a : Option Addr) (h0_c : Nat) (i00 : Int) (n0 : Int) (D : PH)  (F : List Assert) (r : Bool × (List S_road_reached)) (hp : container_heap_down_p h0 i00 n0 = some r) : ∀ w : World, SInv D (pt b_h0 [.slice h0_a h0.length h0_c] 154 :: OwnS D encS_road_reached 152 (.slice h0_a h0.length h0_c) h0 :: F) w → Calls Try.prog 136 #[.iface 156 (.pointer (some ⟨b_h0, 0, none⟩)), .int .i64 i00, .int .i64 n0] w (fun e w' => ∃ (D1 : PH) , PH.le D D1 ∧ e = .returned (.bool r.1) ∧ SInv D1 (pt b_h0 [.slice h0_a h0.length h0_c] 154 :: OwnS D1 encS_road_reached 152 (.slice h0_a h0.length h0_c) r.2 :: F) w') := by
  intro w hS
  refine call_intro Try.func136 rfl Try.ntmps136 (Nat.le_of_ble_eq_true rfl) hS ?_
  clear hS w
  unfold container_heap_down_p at hp
  refine c_seq ?_
  refine c_quiet ?_
  refine ql_s (.bool false) (by kernel_rfl) ?_
  refine ql_nil ?_
  refine e_then ?_
  refine c_seq ?_
  refine c_quiet ?_
  refine ql_s (.int .i64 i00) (by kernel_rfl) ?_
  refine ql_s (.int .i64 i00) (by kernel_rfl) ?_
  refine ql_nil ?_
  refine e_then ?_
  refine c_seq ?_
  obtain ⟨x1, hs1, hp⟩ := bnd_some hp
  obtain ⟨body1, hbody1, hs1⟩ := loopP_gen hs1
  refine c_cut_end (fun φ1 D1 As1 => Is φ1 [(1, .int .i64 i00), (7, .int .i64 x1.1)] ∧ PH.le D D1 ∧ As1 = pt b_h0 [.slice h0_a h0.length h0_c] 154 :: OwnS D1 encS_road_reached 152 (.slice h0_a h0.length h0_c) x1.2 :: F) ?_ ?_
  · skip
    refine c_block ?_
    refine c_perm (fr1_perm 1 _) ?_
    refine c_perm (fr1_perm 1 _) ?_
    obtain ⟨kz1, hs1⟩ := loopP_ex hs1
    refine c_loop (fun k φ1 D2 As1 => ∃ (s1 : Int × (List S_road_reached)), Is φ1 [(0, .iface 156 (.pointer (some ⟨b_h0, 0, none⟩))), (1, .int .i64 i00), (2, .int .i64 n0), (7, .int .i64 s1.1)] ∧ PH.le D D2 ∧ As1 = pt b_h0 [.slice h0_a h0.length h0_c] 154 :: OwnS D2 encS_road_reached 152 (.slice h0_a h0.length h0_c) s1.2 :: F ∧ iter body1 k s1 = some x1) ⟨kz1, (i00, h0), ⟨rfl, rfl, rfl, rfl, trivial⟩, (PH.le_refl _), rfl, hs1⟩ ?_ ?_
    · rintro _ _ _ ⟨_, _, _, _, h0⟩; cases h0
    intro k1
    rintro φ1 D2 As1 ⟨s1, hI1, hD1, hA1, hs2⟩
    subst As1
    refine c_frame _ hI1 ?_
    obtain ⟨y1, hx1, hs2⟩ := iter_some hs2
    replace hx1 := (congrFun hbody1 s1).trans hx1
    refine c_block ?_
    refine c_seq ?_
    refine c_quiet ?_
    refine ql_s (.int .i64 s1.1) (by kernel_rfl) ?_
    refine ql_s (.int .i64 (mulI 2 s1.1)) (by kernel_rfl) ?_
    refine ql_s (.int .i64 (addI (mulI 2 s1.1) 1)) (by kernel_rfl) ?_
    refine ql_s (.int .i64 (addI (mulI 2 s1.1) 1)) (by kernel_rfl) ?_
    refine ql_nil ?_
    refine e_then ?_
    refine c_seq ?_
    refine c_seq ?_
    refine c_cutq_end [(0, .iface 156 (.pointer (some ⟨b_h0, 0, none⟩))), (1, .int .i64 i00), (2, .int .i64 n0), (7, .int .i64 s1.1), (8, .int .i64 (addI (mulI 2 s1.1) 1)), (21, .bool ((decide ((addI (mulI 2 s1.1) 1) ≥ n0)) || (decide ((addI (mulI 2 s1.1) 1) < 0))))] ?_ ?_
    · skip
      refine c_quiet ?_
      refine ql_s (.int .i64 (addI (mulI 2 s1.1) 1)) (by kernel_rfl) ?_
      refine ql_s (.int .i64 n0) (by kernel_rfl) ?_
      refine ql_s (.bool (decide ((addI (mulI 2 s1.1) 1) ≥ n0))) (by kernel_rfl) ?_
      refine ql_s (.bool (decide ((addI (mulI 2 s1.1) 1) ≥ n0))) (by kernel_rfl) ?_
      refine ql_case 18 (decide ((addI (mulI 2 s1.1) 1) ≥ n0)) rfl (fun hg1 => ?_) (fun hg1 => ?_)
      · skip
        refine ql_s undef (by kernel_rfl) ?_
        refine ql_s undef (by kernel_rfl) ?_
        refine ql_s (.bool true) (by kernel_rfl) ?_
        refine ql_nil (e_cutq ?_)
        exact ⟨rfl, rfl, rfl, rfl, rfl, (congrArg Value.bool (by first | rfl | (rw [hg1]; rfl) | simp [hg1])), trivial⟩
      · skip
        refine ql_s (.int .i64 (addI (mulI 2 s1.1) 1)) (by kernel_rfl) ?_
        refine ql_s (.bool (decide ((addI (mulI 2 s1.1) 1) < 0))) (by kernel_rfl) ?_
        refine ql_s (.bool (decide ((addI (mulI 2 s1.1) 1) < 0))) (by kernel_rfl) ?_
        refine ql_nil (e_cutq ?_)
        exact ⟨rfl, rfl, rfl, rfl, rfl, (congrArg Value.bool (by first | rfl | (rw [hg1]; rfl) | simp [hg1])), trivial⟩
    intro _
    refine e_then ?_
    refine c_cond (((decide ((addI (mulI 2 s1.1) 1) ≥ n0)) || (decide ((addI (mulI 2 s1.1) 1) < 0)))) rfl (fun ht1 => ?_) (fun ht1 => ?_)
    · skip
      replace hx1 := if_t ht1 hx1
      refine c_exit ?_
      refine e_then_exit ?_
      refine e_blk_other (by decide) ?_
      refine e_then_exit ?_
      obtain rfl := Option.some.inj hx1
      obtain rfl := hs2
      refine e_blk_exit ?_
      refine e_perm (fr1_perm 1 _) ?_
      refine e_perm (fr1_perm 1 _) ?_
      exact e_cut ⟨⟨rfl, rfl, trivial⟩, hD1, rfl⟩
    · skip
      replace hx1 := if_f ht1 hx1
      refine c_skip ?_
      refine e_then ?_
      refine c_seq ?_
      refine c_quiet ?_
      refine ql_s (.int .i64 (addI (mulI 2 s1.1) 1)) (by kernel_rfl) ?_
      refine ql_s (.int .i64 (addI (mulI 2 s1.1) 1)) (by kernel_rfl) ?_
      refine ql_nil ?_
      refine e_then ?_
      refine c_seq ?_
      refine c_seq ?_
      obtain ⟨j2_1, hj2_1, hx1⟩ := bnd_some hx1
      replace hj2_1 := Option.some.inj hj2_1
      refine c_quiet ?_
      refine ql_s (.int .i64 (addI (mulI 2 s1.1) 1)) (by kernel_rfl) ?_
      refine ql_s (.int .i64 (addI (addI (mulI 2 s1.1) 1) 1)) (by kernel_rfl) ?_
      refine ql_s (.int .i64 j2_1) (congrArg (fun z => some (Value.int .i64 z)) hj2_1) ?_
      refine ql_nil ?_
      refine e_then ?_
      refine c_seq ?_
      refine c_perm (fr1_perm 1 _) ?_
      refine c_adr (fun b1 hb1 hl1 hbd1 hcap1 => ?_)
      obtain ⟨c1, hc1, hx1⟩ := bnd_some hx1
      refine c_cutq_end [(0, .iface 156 (.pointer (some ⟨b_h0, 0, none⟩))), (1, .int .i64 i00), (2, .int .i64 n0), (7, .int .i64 s1.1), (9, .int .i64 (addI (mulI 2 s1.1) 1)), (10, .int .i64 j2_1), (33, .bool c1)] ?_ ?_
      · skip
        refine c_quiet ?_
        refine ql_s (.int .i64 j2_1) (by kernel_rfl) ?_
        refine ql_s (.int .i64 n0) (by kernel_rfl) ?_
        refine ql_s (.bool (decide (j2_1 < n0))) (by kernel_rfl) ?_
        refine ql_s (.bool (decide (j2_1 < n0))) (by kernel_rfl) ?_
        refine ql_case 28 (decide (j2_1 < n0)) rfl (fun hg2 => ?_) (fun hg2 => ?_)
        · skip
          replace hc1 := if_t hg2 hc1
          refine ql_s (.iface 156 (.pointer (some ⟨b_h0, 0, none⟩))) (by kernel_rfl) ?_
          refine ql_s (.int .i64 j2_1) (by kernel_rfl) ?_
          refine ql_s (.int .i64 (addI (mulI 2 s1.1) 1)) (by kernel_rfl) ?_
          obtain ⟨r1, hr1, hc1⟩ := bnd_some hc1
          refine ql_ent (v := .bool r1) rfl (ent_methD encV (vs := [.slice h0_a h0.length h0_c, .int .i64 j2_1, .int .i64 (addI (mulI 2 s1.1) 1)]) rfl (by kernel_rfl) Try.underlying156 Try.call162 fitv154 1 rfl (.slice h0_a h0.length h0_c) (Nat.le_of_ble_eq_true rfl) rfl rfl) (fun w hS => (calls_thaw (PH.le_refl _) (hS) (fun D0' hLl0 hLr0 hS => (show Calls Try.prog 162 #[.slice h0_a h0.length h0_c, .int .i64 j2_1, .int .i64 (addI (mulI 2 s1.1) 1)] w (fun e w' => e = .returned (.bool r1) ∧ SInv D0' (pt b_h0 [.slice h0_a h0.length h0_c] 154 :: F) w') from by have hq := road_queue_Less_s s1.2 h0_a h0_c j2_1 (addI (mulI 2 s1.1) 1) _ (by rw [hl1]; exact hLr0) _ _ hr1 w (show SInv D0' (pt b_h0 [.slice h0_a s1.2.length h0_c] 154 :: F) w from by have h2 : SInv D0' (pt b_h0 [.slice h0_a h0.length h0_c] 154 :: F) w := hS; rw [← hl1] at h2; exact h2); (try simp only [hl1] at hq); exact hq).mono fun e w' h => ⟨h.1, h.2⟩)).mono fun e w' h => ⟨h.1, h.2⟩) ?_
          refine ql_s (.bool r1) (by kernel_rfl) ?_
          refine ql_nil (e_cutq ?_)
          obtain rfl := Option.some.inj hc1
          exact ⟨rfl, rfl, rfl, rfl, rfl, rfl, rfl, trivial⟩
        · skip
          replace hc1 := if_f hg2 hc1
          refine ql_s undef (by kernel_rfl) ?_
          refine ql_s undef (by kernel_rfl) ?_
          refine ql_s undef (by kernel_rfl) ?_
          refine ql_s undef (by kernel_rfl) ?_
          refine ql_s (.bool false) (by kernel_rfl) ?_
          refine ql_nil (e_cutq ?_)
          obtain rfl := Option.some.inj hc1
          exact ⟨rfl, rfl, rfl, rfl, rfl, rfl, rfl, trivial⟩
      intro _
      refine e_then ?_
      obtain ⟨s2, hs3, hx1⟩ := bnd_some hx1
      refine c_cut_end (fun φ1 D3 As1 => Is φ1 [(0, .iface 156 (.pointer (some ⟨b_h0, 0, none⟩))), (1, .int .i64 i00), (2, .int .i64 n0), (7, .int .i64 s1.1), (9, .int .i64 s2)] ∧ PH.le D2 D3 ∧ As1 = OwnS D3 encS_road_reached 152 (.slice h0_a h0.length h0_c) s1.2 :: pt b_h0 [.slice h0_a h0.length h0_c] 154 :: F) ?_ ?_
      · skip
        refine c_cond (c1) rfl (fun ht2 => ?_) (fun ht2 => ?_)
        · skip
          replace hs3 := if_t ht2 hs3
          refine c_quiet ?_
          refine ql_s (.int .i64 j2_1) (by kernel_rfl) ?_
          refine ql_s (.int .i64 j2_1) (by kernel_rfl) ?_
          refine ql_nil ?_
          refine e_perm (fr1_perm 1 _) ?_
          refine e_perm (fr1_perm 1 _) ?_
          obtain rfl := Option.some.inj hs3
          exact e_cut ⟨⟨rfl, rfl, rfl, rfl, rfl, trivial⟩, (PH.le_refl _), rfl⟩
        · skip
          replace hs3 := if_f ht2 hs3
          refine c_skip ?_
          refine e_perm (fr1_perm 1 _) ?_
          refine e_perm (fr1_perm 1 _) ?_
          obtain rfl := Option.some.inj hs3
          exact e_cut ⟨⟨rfl, rfl, rfl, rfl, rfl, trivial⟩, (PH.le_refl _), rfl⟩
      · skip
        rintro φ2 D3 As2 ⟨hI2, hD2, hA2⟩
        subst As2
        refine e_frame _ hI2 ?_
        refine e_then ?_
        refine c_seq ?_
        refine c_seq ?_
        obtain ⟨r2, hr2, hx1⟩ := bnd_some hx1
        refine c_quiet ?_
        refine ql_s (.iface 156 (.pointer (some ⟨b_h0, 0, none⟩))) (by kernel_rfl) ?_
        refine ql_s (.int .i64 s2) (by kernel_rfl) ?_
        refine ql_s (.int .i64 s1.1) (by kernel_rfl) ?_
        refine ql_ent (v := .bool r2) rfl (ent_methD encV (vs := [.slice h0_a h0.length h0_c, .int .i64 s2, .int .i64 s1.1]) rfl (by kernel_rfl) Try.underlying156 Try.call162 fitv154 1 rfl (.slice h0_a h0.length h0_c) (Nat.le_of_ble_eq_true rfl) rfl rfl) (fun w hS => (calls_thaw (PH.le_refl _) (hS) (fun D0' hLl0 hLr0 hS => (show Calls Try.prog 162 #[.slice h0_a h0.length h0_c, .int .i64 s2, .int .i64 s1.1] w (fun e w' => e = .returned (.bool r2) ∧ SInv D0' (pt b_h0 [.slice h0_a h0.length h0_c] 154 :: F) w') from by have hq := road_queue_Less_s s1.2 h0_a h0_c s2 s1.1 _ (by rw [hl1]; exact hLr0) _ _ hr2 w (show SInv D0' (pt b_h0 [.slice h0_a s1.2.length h0_c] 154 :: F) w from by have h2 : SInv D0' (pt b_h0 [.slice h0_a h0.length h0_c] 154 :: F) w := hS; rw [← hl1] at h2; exact h2); (try simp only [hl1] at hq); exact hq).mono fun e w' h => ⟨h.1, h.2⟩)).mono fun e w' h => ⟨h.1, h.2⟩) ?_
        refine ql_s (.bool (!r2)) (by kernel_rfl) ?_
        refine ql_nil ?_
        refine e_then ?_
        refine c_cond (!r2) rfl (fun ht3 => ?_) (fun ht3 => ?_)
        · skip
          replace hx1 := if_t ht3 hx1
          refine c_exit ?_
          refine e_then_exit ?_
          refine e_blk_other (by decide) ?_
          refine e_then_exit ?_
          obtain rfl := Option.some.inj hx1
          obtain rfl := hs2
          refine e_blk_exit ?_
          refine e_perm (fr1_perm 1 _) ?_
          exact e_cut ⟨⟨rfl, rfl, trivial⟩, (PH.le_trans hD1 hD2), rfl⟩
        · skip
          replace hx1 := if_f ht3 hx1
          refine c_skip ?_
          refine e_then ?_
          refine c_seq ?_
          obtain ⟨r3, hr3, hx1⟩ := bnd_some hx1
          refine c_region ?_
          refine l_s (.iface 156 (.pointer (some ⟨b_h0, 0, none⟩))) (by kernel_rfl) ?_
          refine l_s (.int .i64 s1.1) (by kernel_rfl) ?_
          refine l_s (.int .i64 s2) (by kernel_rfl) ?_
          refine l_ent rfl (ent_methD encV (vs := [.slice h0_a h0.length h0_c, .int .i64 s1.1, .int .i64 s2]) rfl (by kernel_rfl) Try.underlying156 Try.call163 fitv154 1 rfl (.slice h0_a h0.length h0_c) (Nat.le_of_ble_eq_true rfl) rfl rfl) (fun v D5 As4 => PH.le D3 D5 ∧ v = .tuple #[] ∧ As4 = OwnS D5 encS_road_reached 152 (.slice h0_a h0.length h0_c) r3 :: pt b_h0 [.slice h0_a h0.length h0_c] 154 :: F) (fun w hS => (show Calls Try.prog 163 #[.slice h0_a h0.length h0_c, .int .i64 s1.1, .int .i64 s2] w (fun e w' => ∃ (D5 : PH) , PH.le D3 D5 ∧ e = .returned (.tuple #[]) ∧ SInv D5 (OwnS D5 encS_road_reached 152 (.slice h0_a h0.length h0_c) r3 :: pt b_h0 [.slice h0_a h0.length h0_c] 154 :: F) w') from by have hq := road_queue_Swap_s s1.2 h0_a h0_c s1.1 s2 _  _ _ hr3 w (show SInv D3 (OwnS D3 encS_road_reached 152 (.slice h0_a s1.2.length h0_c) s1.2 :: pt b_h0 [.slice h0_a s1.2.length h0_c] 154 :: F) w from by have h2 : SInv D3 (OwnS D3 encS_road_reached 152 (.slice h0_a h0.length h0_c) s1.2 :: pt b_h0 [.slice h0_a h0.length h0_c] 154 :: F) w := hS; rw [← hl1] at h2; exact h2); (try simp only [hl1] at hq); exact hq).mono fun e w' ⟨D5, hle2, he, hS2⟩ => ⟨_, D5, _, he, ⟨hle2, rfl, rfl⟩, hS2⟩) ?_
          rintro _ D5 As4 ⟨hle2, rfl, hA4⟩
          subst As4
          refine l_nil ?_
          refine e_then ?_
          refine c_quiet ?_
          refine ql_s (.int .i64 s2) (by kernel_rfl) ?_
          refine ql_s (.int .i64 s2) (by kernel_rfl) ?_
          refine ql_nil ?_
          refine e_blk ?_
          refine e_perm (fr1_perm 1 _) ?_
          obtain rfl := Option.some.inj hx1
          exact e_cut ⟨(s2, r3), ⟨rfl, rfl, rfl, rfl, trivial⟩, (PH.le_trans (PH.le_trans hD1 hD2) hle2), rfl, hs2⟩
  · skip
    rintro φ3 D1 As5 ⟨hI3, hD3, hA5⟩
    subst As5
    refine e_frame _ hI3 ?_
    refine e_then ?_
    refine c_seq ?_
    refine c_quiet ?_
    refine ql_s (.int .i64 x1.1) (by kernel_rfl) ?_
    refine ql_s (.int .i64 i00) (by kernel_rfl) ?_
    refine ql_s (.bool (decide (x1.1 > i00))) (by kernel_rfl) ?_
    refine ql_s (.bool (decide (x1.1 > i00))) (by kernel_rfl) ?_
    refine ql_nil ?_
    refine e_then ?_
    refine c_ret ?_
    obtain rfl := Option.some.inj hp
    refine e_perm (fr1_perm 1 _) ?_
    refine e_perm (fr1_perm 1 _) ?_
    exact post_all (vs := [.bool (decide (x1.1 > i00))]) (.bool (decide (x1.1 > i00))) ⟨rfl, trivial⟩ rfl (.inl rfl) (fun w hS => ⟨D1, hD3, rfl, hS⟩)

-- (*tarnfell/road.queue).Pop
set_option maxRecDepth 100000 in
set_option maxHeartbeats 4000000 in
theorem road_queue_Pop_s (b_q0 : Nat) (q0 : List S_road_reached) (q0_a : Option Addr) (q0_c : Nat) (D : PH)  (F : List Assert) (r : S_road_reached × (List S_road_reached)) (hp : road_queue_Pop_p q0 = some r) : ∀ w : World, SInv D (pt b_q0 [.slice q0_a q0.length q0_c] 154 :: OwnS D encS_road_reached 152 (.slice q0_a q0.length q0_c) q0 :: F) w → Calls Try.prog 164 #[.pointer (some ⟨b_q0, 0, none⟩)] w (fun e w' => ∃ (D1 : PH) (q_a1 : Option Addr) (q_cp1 : Nat), PH.le D D1 ∧ e = .returned (.iface 152 (.agg #[.float .f32 r.1.price, .int .i64 r.1.k])) ∧ SInv D1 (pt b_q0 [.slice q_a1 r.2.length q_cp1] 154 :: OwnS D1 encS_road_reached 152 (.slice q_a1 r.2.length q_cp1) r.2 :: F) w') := by
  intro w hS
  refine call_intro Try.func164 rfl Try.ntmps164 (Nat.le_of_ble_eq_true rfl) hS ?_
  clear hS w
  unfold road_queue_Pop_p at hp
  refine c_seq ?_
  refine c_quiet ?_
  refine ql_s (.nilIface) (by kernel_rfl) ?_
  refine ql_nil ?_
  refine e_then ?_
  refine c_seq ?_
  obtain ⟨x1, hx1, hp⟩ := bnd_some hp
  refine c_perm (fr1_perm 1 _) ?_
  refine c_adr (fun b2 hb1 hl1 hbd1 hcap1 => ?_)
  refine c_perm (fr1_perm 1 _) ?_
  refine c_perm (fr1_perm 1 _) ?_
  refine c_order (B := [OwnS D encS_road_reached 152 (.slice q0_a q0.length q0_c) q0, pt b_q0 [.slice q0_a q0.length q0_c] 154]) (.q 0 (.q 1 (.q 2 (.q 3 (.q 4 (.q 5 (.q 6 (.q 7 (.q 8 (.q 9 (.e 10 (.e 11 .nil)))))))))))) hmix (by kernel_rfl) (NoPanic.then NoPanic.post) ?_
  refine o_s (.pointer (some ⟨b_q0, 0, none⟩)) rfl (by kernel_rfl) ?_
  refine o_s (.pointer (some ⟨b_q0, 0, none⟩)) rfl (by kernel_rfl) ?_
  refine o_qs rfl rfl (qs_ldpt encV fitv154 rfl 1 rfl (.slice q0_a q0.length q0_c) (Nat.le_of_ble_eq_true rfl) rfl) ?_
  refine o_s (.pointer (some ⟨b_q0, 0, none⟩)) rfl (by kernel_rfl) ?_
  refine o_s (.pointer (some ⟨b_q0, 0, none⟩)) rfl (by kernel_rfl) ?_
  refine o_qs rfl rfl (qs_ldpt encV fitv154 rfl 1 rfl (.slice q0_a q0.length q0_c) (Nat.le_of_ble_eq_true rfl) rfl) ?_
  refine o_s (.int .i64 (q0.length : Int)) rfl (by kernel_rfl) ?_
  refine o_s (.int .i64 (subI (q0.length : Int) 1)) rfl (by kernel_rfl) ?_
  refine o_qs rfl rfl (qs_idx (IsIdx.beg (e := encS_road_reached) hb1 rfl hx1) Try.underlying154 fit152 rfl rfl) ?_
  refine o_qs rfl rfl (qs_ldS fit152 hb1 rfl rfl 0 rfl (idx_some hx1).2.2 (v := .agg #[.float .f32 x1.price, .int .i64 x1.k]) (fun cs hcs => by rw [show cs = _ from hcs]; rfl)) ?_
  refine o_alloc (zs := [.float .f32 0, .int .i64 0]) rfl rfl (PH.le_refl _) (by kernel_rfl) (fun b3 => ?_)
  refine o_store (vs := [.float .f32 x1.price, .int .i64 x1.k]) (cs' := [.float .f32 x1.price, .int .i64 x1.k]) rfl rfl (PH.le_refl _) (by kernel_rfl) (by kernel_rfl) rfl rfl (Nat.le_of_ble_eq_true rfl) rfl rfl ?_
  refine o_nil ?_
  refine e_then ?_
  refine c_seq ?_
  obtain ⟨l1, hl2, hp⟩ := bnd_some hp
  have hc1 := slc_len hl2
  refine c_perm (fr1_perm 2 _) ?_
  refine c_cut_end (fun φ1 D1 As1 => Is φ1 [(3, .pointer (some ⟨b3, 0, none⟩))] ∧ D = D1 ∧ As1 = pt b3 [.float .f32 x1.price, .int .i64 x1.k] 152 :: OwnS D encS_road_reached 152 (.slice q0_a ((subI (q0.length : Int) 1).toNat) q0_c) l1 :: pt b_q0 [.slice q0_a ((subI (q0.length : Int) 1).toNat) q0_c] 154 :: F) ?_ ?_
  · skip
    refine c_order (B := [pt b3 [.float .f32 x1.price, .int .i64 x1.k] 152]) (.q 0 (.q 1 (.q 2 (.q 4 (.q 5 (.f 3 (.e 6 (.q 7 (.q 8 (.q 9 (.q 10 (.e 11 .nil)))))) (.e 6 (.q 7 (.q 8 (.e 3 (.q 9 (.q 10 (.e 11 .nil))))))))))))) hmix (by kernel_rfl) (NoPanic.then (NoPanic.then NoPanic.post)) ?_
    refine o_s (.pointer (some ⟨b_q0, 0, none⟩)) rfl (by kernel_rfl) ?_
    refine o_s (.pointer (some ⟨b_q0, 0, none⟩)) rfl (by kernel_rfl) ?_
    refine o_s (.pointer (some ⟨b_q0, 0, none⟩)) rfl (by kernel_rfl) ?_
    refine o_s (.pointer (some ⟨b_q0, 0, none⟩)) rfl (by kernel_rfl) ?_
    refine o_s (.pointer (some ⟨b_q0, 0, none⟩)) rfl (by kernel_rfl) ?_
    refine o_f ?_ ?_
    · skip
      refine o_qe rfl rfl (PH.le_refl _) (qs_ldpt encV fitv154 rfl 2 rfl (.slice q0_a q0.length q0_c) (Nat.le_of_ble_eq_true rfl) rfl) ?_
      refine o_qe rfl rfl (PH.le_refl _) (qs_ldpt encV fitv154 rfl 2 rfl (.slice q0_a q0.length q0_c) (Nat.le_of_ble_eq_true rfl) rfl) ?_
      refine o_s (.int .i64 (q0.length : Int)) rfl (by kernel_rfl) ?_
      refine o_s (.int .i64 (subI (q0.length : Int) 1)) rfl (by kernel_rfl) ?_
      refine o_qs rfl rfl (qs_slice (e := encS_road_reached) (l := 0) (xs := q0) (v := .slice q0_a (subI (q0.length : Int) 1).toNat q0_c) Try.underlying154 fit152 rfl rfl hcap1 rfl ⟨_, rfl⟩ hl2 (slcV_own hb1)) ?_
      refine o_imp (OwnS.cutTo hl2) ?_
      refine o_s (.pointer (some ⟨b_q0, 0, none⟩)) rfl (by kernel_rfl) ?_
      refine o_perm (fr1_perm 1 _) ?_
      refine o_store (vs := [.slice q0_a ((subI (q0.length : Int) 1).toNat) q0_c]) (cs' := [.slice q0_a ((subI (q0.length : Int) 1).toNat) q0_c]) rfl rfl (PH.le_refl _) (by kernel_rfl) (by kernel_rfl) rfl rfl (Nat.le_of_ble_eq_true rfl) rfl rfl ?_
      refine o_nil ?_
      refine e_perm (fr1_perm 1 _) ?_
      refine e_perm (fr1_perm 2 _) ?_
      refine e_perm (fr1_perm 2 _) ?_
      exact e_cut ⟨⟨rfl, trivial⟩, rfl, rfl⟩
    refine o_qe rfl rfl (PH.le_refl _) (qs_ldpt encV fitv154 rfl 2 rfl (.slice q0_a q0.length q0_c) (Nat.le_of_ble_eq_true rfl) rfl) ?_
    refine o_s (.int .i64 (q0.length : Int)) rfl (by kernel_rfl) ?_
    refine o_s (.int .i64 (subI (q0.length : Int) 1)) rfl (by kernel_rfl) ?_
    refine o_qe rfl rfl (PH.le_refl _) (qs_ldpt encV fitv154 rfl 2 rfl (.slice q0_a q0.length q0_c) (Nat.le_of_ble_eq_true rfl) rfl) ?_
    refine o_qs rfl rfl (qs_slice (e := encS_road_reached) (l := 0) (xs := q0) (v := .slice q0_a (subI (q0.length : Int) 1).toNat q0_c) Try.underlying154 fit152 rfl rfl hcap1 rfl ⟨_, rfl⟩ hl2 (slcV_own hb1)) ?_
    refine o_imp (OwnS.cutTo hl2) ?_
    refine o_s (.pointer (some ⟨b_q0, 0, none⟩)) rfl (by kernel_rfl) ?_
    refine o_perm (fr1_perm 1 _) ?_
    refine o_store (vs := [.slice q0_a ((subI (q0.length : Int) 1).toNat) q0_c]) (cs' := [.slice q0_a ((subI (q0.length : Int) 1).toNat) q0_c]) rfl rfl (PH.le_refl _) (by kernel_rfl) (by kernel_rfl) rfl rfl (Nat.le_of_ble_eq_true rfl) rfl rfl ?_
    refine o_nil ?_
    refine e_perm (fr1_perm 1 _) ?_
    refine e_perm (fr1_perm 2 _) ?_
    refine e_perm (fr1_perm 2 _) ?_
    exact e_cut ⟨⟨rfl, trivial⟩, rfl, rfl⟩
  · skip
    rintro φ1 _ As1 ⟨hI1, rfl, hA⟩
    subst As1
    refine e_frame _ hI1 ?_
    refine e_then ?_
    refine c_seq ?_
    refine c_quiet ?_
    refine ql_q rfl (qs_ldpt (encW 2 (by decide)) fitv152 rfl 0 rfl (.agg #[.float .f32 x1.price, .int .i64 x1.k]) (Nat.le_of_ble_eq_true rfl) rfl) ?_
    refine ql_q rfl (qs_mkI Try.underlying152 rfl rfl) ?_
    refine ql_s (.iface 152 (.agg #[.float .f32 x1.price, .int .i64 x1.k])) (by kernel_rfl) ?_
    refine ql_nil ?_
    refine e_drop ?_
    refine e_then ?_
    refine c_ret ?_
    obtain rfl := Option.some.inj hp
    refine e_perm (fr1_perm 1 _) ?_
    exact post_all (vs := [.iface 152 (.agg #[.float .f32 x1.price, .int .i64 x1.k])]) (.iface 152 (.agg #[.float .f32 x1.price, .int .i64 x1.k])) ⟨rfl, trivial⟩ rfl (.inl rfl) (fun w hS => ⟨D, q0_a, q0_c, (PH.le_refl _), (by simp only [hc1]), (by have h2 : SInv D (pt b_q0 [.slice q0_a ((subI (q0.length : Int) 1).toNat) q0_c] 154 :: OwnS D encS_road_reached 152 (.slice q0_a ((subI (q0.length : Int) 1).toNat) q0_c) l1 :: F) w := hS; simpa only [hc1] using h2)⟩)

-- container/heap.Pop
set_option maxRecDepth 100000 in
set_option maxHeartbeats 4000000 in
theorem container_heap_Pop_s (b_h0 : Nat) (h0 : List S_road_reached) (h0_a : Option Addr) (h0_c : Nat) (D : PH)  (F : List Assert) (r : S_road_reached × (List S_road_reached)) (hp : container_heap_Pop_p h0 = some r) : ∀ w : World, SInv D (pt b_h0 [.slice h0_a h0.length h0_c] 154 :: OwnS D encS_road_reached 152 (.slice h0_a h0.length h0_c) h0 :: F) w → Calls Try.prog 115 #[.iface 156 (.pointer (some ⟨b_h0, 0, none⟩))] w (fun e w' => ∃ (D1 : PH) (q_a1 : Option Addr) (q_cp1 : Nat), PH.le D D1 ∧ e = .returned (.iface 152 (.agg #[.float .f32 r.1.price, .int .i64 r.1.k])) ∧ SInv D1 (pt b_h0 [.slice q_a1 r.2.length q_cp1] 154 :: OwnS D1 encS_road_reached 152 (.slice q_a1 r.2.length q_cp1) r.2 :: F) w') := by
  intro w hS
  refine call_intro Try.func115 rfl Try.ntmps115 (Nat.le_of_ble_eq_true rfl) hS ?_
  clear hS w
  unfold container_heap_Pop_p at hp
  refine c_seq ?_
  refine c_quiet ?_
  refine ql_s (.nilIface) (by kernel_rfl) ?_
  refine ql_nil ?_
  refine e_then ?_
  refine c_seq ?_
  obtain ⟨r1, hr1, hp⟩ := bnd_some hp
  refine c_quiet ?_
  refine ql_s (.iface 156 (.pointer (some ⟨b_h0, 0, none⟩))) (by kernel_rfl) ?_
  refine ql_ent (v := .int .i64 r1) rfl (ent_methD encV (vs := [.slice h0_a h0.length h0_c]) rfl (by kernel_rfl) Try.underlying156 Try.call161 fitv154 0 rfl (.slice h0_a h0.length h0_c) (Nat.le_of_ble_eq_true rfl) rfl rfl) (fun w hS => (calls_thaw (PH.le_refl _) (hS.perm (fr1_perm 1 _)) (fun D0' hLl0 hLr0 hS => (road_queue_Len_s h0 h0_a h0_c _ hLr0 _ _ hr1 w (hS)).mono fun e w' h => ⟨h.1, h.2⟩)).mono fun e w' h => ⟨h.1, SInv.unfr 1 h.2⟩) ?_
  refine ql_s (.int .i64 (subI r1 1)) (by kernel_rfl) ?_
  refine ql_s (.int .i64 (subI r1 1)) (by kernel_rfl) ?_
  refine ql_nil ?_
  refine e_then ?_
  refine c_seq ?_
  obtain ⟨r2, hr2, hp⟩ := bnd_some hp
  refine c_region ?_
  refine l_s (.iface 156 (.pointer (some ⟨b_h0, 0, none⟩))) (by kernel_rfl) ?_
  refine l_s (.int .i64 (subI r1 1)) (by kernel_rfl) ?_
  refine l_ent rfl (ent_methD encV (vs := [.slice h0_a h0.length h0_c, .int .i64 0, .int .i64 (subI r1 1)]) rfl (by kernel_rfl) Try.underlying156 Try.call163 fitv154 0 rfl (.slice h0_a h0.length h0_c) (Nat.le_of_ble_eq_true rfl) rfl rfl) (fun v D2 As2 => PH.le D D2 ∧ v = .tuple #[] ∧ As2 = OwnS D2 encS_road_reached 152 (.slice h0_a h0.length h0_c) r2 :: pt b_h0 [.slice h0_a h0.length h0_c] 154 :: F) (fun w hS => (road_queue_Swap_s h0 h0_a h0_c 0 (subI r1 1) _  _ _ hr2 w (hS.perm (fr1_perm 1 _))).mono fun e w' ⟨D2, hle2, he, hS2⟩ => ⟨_, D2, _, he, ⟨hle2, rfl, rfl⟩, hS2⟩) ?_
  rintro _ D2 As2 ⟨hle2, rfl, hA2⟩
  subst As2
  refine l_nil ?_
  refine e_then ?_
  refine c_seq ?_
  obtain ⟨r3, hr3, hp⟩ := bnd_some hp
  refine c_adr (fun b1 hb1 hl1 hbd1 hcap1 => ?_)
  refine c_region ?_
  refine l_s (.iface 156 (.pointer (some ⟨b_h0, 0, none⟩))) (by kernel_rfl) ?_
  refine l_s (.int .i64 (subI r1 1)) (by kernel_rfl) ?_
  refine l_call rfl rfl Try.call136 (vs := [.iface 156 (.pointer (some ⟨b_h0, 0, none⟩)), .int .i64 0, .int .i64 (subI r1 1)]) rfl (fun v D4 As4 => PH.le D2 D4 ∧ v = .bool r3.1 ∧ As4 = pt b_h0 [.slice h0_a h0.length h0_c] 154 :: OwnS D4 encS_road_reached 152 (.slice h0_a h0.length h0_c) r3.2 :: F) (fun w hS => (show Calls Try.prog 136 #[.iface 156 (.pointer (some ⟨b_h0, 0, none⟩)), .int .i64 0, .int .i64 (subI r1 1)] w (fun e w' => ∃ (D4 : PH) , PH.le D2 D4 ∧ e = .returned (.bool r3.1) ∧ SInv D4 (pt b_h0 [.slice h0_a h0.length h0_c] 154 :: OwnS D4 encS_road_reached 152 (.slice h0_a h0.length h0_c) r3.2 :: F) w') from by have hq := container_heap_down_s b_h0 r2 h0_a h0_c 0 (subI r1 1) _  _ _ hr3 w (show SInv D2 (pt b_h0 [.slice h0_a r2.length h0_c] 154 :: OwnS D2 encS_road_reached 152 (.slice h0_a r2.length h0_c) r2 :: F) w from by have h2 : SInv D2 (pt b_h0 [.slice h0_a h0.length h0_c] 154 :: OwnS D2 encS_road_reached 152 (.slice h0_a h0.length h0_c) r2 :: F) w := (hS.perm (fr1_perm 0 _)).perm (fr1_perm 1 _); rw [← hl1] at h2; exact h2); (try simp only [hl1] at hq); exact hq).mono fun e w' ⟨D4, hle4, he, hS2⟩ => ⟨_, D4, _, he, ⟨hle4, rfl, rfl⟩, hS2⟩) ?_
  rintro _ D4 As4 ⟨hle4, rfl, hA4⟩
  subst As4
  refine l_nil ?_
  refine e_then ?_
  refine c_seq ?_
  obtain ⟨r4, hr4, hp⟩ := bnd_some hp
  refine c_perm (fr1_perm 1 _) ?_
  refine c_adr (fun b2 hb2 hl2 hbd2 hcap2 => ?_)
  refine c_region ?_
  refine l_s (.iface 156 (.pointer (some ⟨b_h0, 0, none⟩))) (by kernel_rfl) ?_
  refine l_ent rfl (ent_methP (vs := [.pointer (some ⟨b_h0, 0, none⟩)]) rfl (by kernel_rfl) Try.underlying156 Try.call164 rfl) (fun v D6 As6 => ∃ (a2 : Option Addr) (cp2 : Nat), PH.le D4 D6 ∧ v = .iface 152 (.agg #[.float .f32 r4.1.price, .int .i64 r4.1.k]) ∧ As6 = pt b_h0 [.slice a2 r4.2.length cp2] 154 :: OwnS D6 encS_road_reached 152 (.slice a2 r4.2.length cp2) r4.2 :: F) (fun w hS => (show Calls Try.prog 164 #[.pointer (some ⟨b_h0, 0, none⟩)] w (fun e w' => ∃ (D6 : PH) (a2 : Option Addr) (cp2 : Nat), PH.le D4 D6 ∧ e = .returned (.iface 152 (.agg #[.float .f32 r4.1.price, .int .i64 r4.1.k])) ∧ SInv D6 (pt b_h0 [.slice a2 r4.2.length cp2] 154 :: OwnS D6 encS_road_reached 152 (.slice a2 r4.2.length cp2) r4.2 :: F) w') from by have hq := road_queue_Pop_s b_h0 r3.2 h0_a h0_c _  _ _ hr4 w (show SInv D4 (pt b_h0 [.slice h0_a r3.2.length h0_c] 154 :: OwnS D4 encS_road_reached 152 (.slice h0_a r3.2.length h0_c) r3.2 :: F) w from by have h2 : SInv D4 (pt b_h0 [.slice h0_a h0.length h0_c] 154 :: OwnS D4 encS_road_reached 152 (.slice h0_a h0.length h0_c) r3.2 :: F) w := (hS.perm (fr1_perm 0 _)).perm (fr1_perm 1 _); rw [← hl2] at h2; exact h2); (try simp only [hl2] at hq); exact hq).mono fun e w' ⟨D6, a2, cp2, hle6, he, hS2⟩ => ⟨_, D6, _, he, ⟨a2, cp2, hle6, rfl, rfl⟩, hS2⟩) ?_
  rintro _ D6 As6 ⟨a2, cp2, hle6, rfl, hA6⟩
  subst As6
  refine l_s (.iface 152 (.agg #[.float .f32 r4.1.price, .int .i64 r4.1.k])) (by kernel_rfl) ?_
  refine l_nil ?_
  refine e_then ?_
  refine c_ret ?_
  obtain rfl := Option.some.inj hp
  refine e_perm (fr1_perm 1 _) ?_
  refine e_perm (fr1_perm 1 _) ?_
  exact post_all (vs := [.iface 152 (.agg #[.float .f32 r4.1.price, .int .i64 r4.1.k])]) (.iface 152 (.agg #[.float .f32 r4.1.price, .int .i64 r4.1.k])) ⟨rfl, trivial⟩ rfl (.inl rfl) (fun w hS => ⟨D6, a2, cp2, (PH.le_trans (PH.le_trans hle2 hle4) hle6), rfl, hS⟩)

-- (tarnfell/road.ground).beside
set_option maxRecDepth 100000 in
set_option maxHeartbeats 4000000 in
theorem road_ground_beside_s (g0 : S_road_ground) (g0_v1a : Option Addr) (g0_v1c : Nat) (g0_v2a : Option Addr) (g0_v2c : Nat) (k0 : Int) (d0 : Int) (n0 : Int) (D : PH) (g0_h1 : RO (encF .f32) D (.slice g0_v1a g0.f.V.length g0_v1c) g0.f.V) (g0_h2 : RO encS_api_Field D (.slice g0_v2a g0.s.Costly.length g0_v2c) g0.s.Costly) (F : List Assert) (r : Int × Bool) (hp : road_ground_beside_p g0 k0 d0 n0 = some r) : ∀ w : World, SInv D (F) w → Calls Try.prog 120 #[.agg #[.int .i64 g0.f.Region.X, .int .i64 g0.f.Region.Y, .int .i64 g0.f.Region.W, .int .i64 g0.f.Region.H, .slice g0_v1a g0.f.V.length g0_v1c, .float .f32 g0.s.Grade, .float .f32 g0.s.Weight, .float .f32 g0.s.Bridge, .float .f32 g0.s.Dear, .int .i64 g0.s.Span, .slice g0_v2a g0.s.Costly.length g0_v2c], .int .i64 k0, .int .i64 d0, .int .i64 n0] w (fun e w' => e = .returned (.tuple #[.int .i64 r.1, .bool r.2]) ∧ SInv D (F) w') := by
  intro w hS
  refine call_intro Try.func120 rfl Try.ntmps120 (Nat.le_of_ble_eq_true rfl) hS ?_
  clear hS w
  unfold road_ground_beside_p at hp
  refine c_seq ?_
  refine c_region ?_
  refine l_box (cs := [.int .i64 g0.f.Region.X, .int .i64 g0.f.Region.Y, .int .i64 g0.f.Region.W, .int .i64 g0.f.Region.H, .slice g0_v1a g0.f.V.length g0_v1c, .float .f32 g0.s.Grade, .float .f32 g0.s.Weight, .float .f32 g0.s.Bridge, .float .f32 g0.s.Dear, .int .i64 g0.s.Span, .slice g0_v2a g0.s.Costly.length g0_v2c]) rfl rfl (fun b2 => ?_)
  refine l_s (.int .i64 0) (by kernel_rfl) ?_
  refine l_s (.bool false) (by kernel_rfl) ?_
  refine l_nil ?_
  refine e_then ?_
  refine c_seq ?_
  obtain ⟨r1, hr1, hp⟩ := bnd_some hp
  refine c_region ?_
  refine l_s (.int .i64 d0) (by kernel_rfl) ?_
  refine l_callq (v := .agg #[.int .i64 r1.X, .int .i64 r1.Y]) rfl rfl Try.call122 (vs := [.int .i64 d0]) rfl (fun w hS => (water_Toward_s d0 _  _ _ hr1 w (hS)).mono fun e w' h => ⟨h.1, h.2⟩) ?_
  refine l_alloc (zs := [.int .i64 0, .int .i64 0]) rfl (by kernel_rfl) (fun b4 => ?_)
  refine l_store (dd := none) (vs := [.int .i64 r1.X, .int .i64 r1.Y]) (cs' := [.int .i64 r1.X, .int .i64 r1.Y]) rfl (by kernel_rfl) (by kernel_rfl) rfl rfl (Nat.le_of_ble_eq_true rfl) rfl rfl ?_
  refine l_nil ?_
  refine e_then ?_
  refine c_seq ?_
  obtain ⟨u1, hu1, hp⟩ := bnd_some hp
  replace hu1 := guardP_some hu1
  obtain ⟨x_1, hx_1, hp⟩ := bnd_some hp
  replace hx_1 := Option.some.inj hx_1
  obtain ⟨y_1, hy_1, hp⟩ := bnd_some hp
  replace hy_1 := Option.some.inj hy_1
  refine c_quiet_draw hmix (by kernel_rfl) ?_
  refine ql_s (.int .i64 k0) (by kernel_rfl) ?_
  refine ql_s (.pointer (some ⟨b2, 0, none⟩)) (by kernel_rfl) ?_
  refine ql_s (.pointer (some ⟨b2, 0, none⟩)) (by kernel_rfl) ?_
  refine ql_s (.pointer (some ⟨b2, 2, none⟩)) (by kernel_rfl) ?_
  refine ql_q rfl (qs_ldpt encV fitv3 rfl 1 rfl (.int .i64 g0.f.Region.W) (Nat.le_of_ble_eq_true rfl) rfl) ?_
  refine ql_q rfl (qs_idiv (r := remI k0 g0.f.Region.W) (by simpa using hu1) rfl rfl rfl) ?_
  refine ql_s (.int .i64 n0) (by kernel_rfl) ?_
  refine ql_s (.pointer (some ⟨b4, 0, none⟩)) (by kernel_rfl) ?_
  refine ql_q rfl (qs_ldpt encV fitv3 rfl 0 rfl (.int .i64 r1.X) (Nat.le_of_ble_eq_true rfl) rfl) ?_
  refine ql_s (.int .i64 (mulI n0 r1.X)) (by kernel_rfl) ?_
  refine ql_s (.int .i64 (addI (remI k0 g0.f.Region.W) (mulI n0 r1.X))) (by kernel_rfl) ?_
  refine ql_s (.int .i64 k0) (by kernel_rfl) ?_
  refine ql_s (.pointer (some ⟨b2, 0, none⟩)) (by kernel_rfl) ?_
  refine ql_s (.pointer (some ⟨b2, 0, none⟩)) (by kernel_rfl) ?_
  refine ql_s (.pointer (some ⟨b2, 2, none⟩)) (by kernel_rfl) ?_
  refine ql_q rfl (qs_ldpt encV fitv3 rfl 1 rfl (.int .i64 g0.f.Region.W) (Nat.le_of_ble_eq_true rfl) rfl) ?_
  refine ql_q rfl (qs_idiv (r := quoI k0 g0.f.Region.W) (by simpa using hu1) rfl rfl rfl) ?_
  refine ql_s (.int .i64 n0) (by kernel_rfl) ?_
  refine ql_s (.pointer (some ⟨b4, 1, none⟩)) (by kernel_rfl) ?_
  refine ql_q rfl (qs_ldpt encV fitv3 rfl 0 rfl (.int .i64 r1.Y) (Nat.le_of_ble_eq_true rfl) rfl) ?_
  refine ql_s (.int .i64 (mulI n0 r1.Y)) (by kernel_rfl) ?_
  refine ql_s (.int .i64 (addI (quoI k0 g0.f.Region.W) (mulI n0 r1.Y))) (by kernel_rfl) ?_
  refine ql_s (.int .i64 x_1) (congrArg (fun z => some (Value.int .i64 z)) hx_1) ?_
  refine ql_s (.int .i64 y_1) (congrArg (fun z => some (Value.int .i64 z)) hy_1) ?_
  refine ql_nil ?_
  refine e_drop ?_
  refine e_then ?_
  refine c_seq ?_
  refine c_seq ?_
  refine c_cutq_end [(4, .pointer (some ⟨b2, 0, none⟩)), (11, .int .i64 x_1), (12, .int .i64 y_1), (58, .bool ((decide (x_1 < 0)) || ((decide (y_1 < 0)) || ((decide (x_1 ≥ g0.f.Region.W)) || (decide (y_1 ≥ g0.f.Region.H))))))] ?_ ?_
  · skip
    refine c_quiet ?_
    refine ql_s (.int .i64 x_1) (by kernel_rfl) ?_
    refine ql_s (.bool (decide (x_1 < 0))) (by kernel_rfl) ?_
    refine ql_s (.bool (decide (x_1 < 0))) (by kernel_rfl) ?_
    refine ql_case 39 (decide (x_1 < 0)) rfl (fun hg1 => ?_) (fun hg1 => ?_)
    · skip
      refine ql_s undef (by kernel_rfl) ?_
      refine ql_s undef (by kernel_rfl) ?_
      refine ql_s (.bool true) (by kernel_rfl) ?_
      refine ql_s (.bool true) (by kernel_rfl) ?_
      refine ql_s undef (by kernel_rfl) ?_
      refine ql_s undef (by kernel_rfl) ?_
      refine ql_s undef (by kernel_rfl) ?_
      refine ql_s undef (by kernel_rfl) ?_
      refine ql_s undef (by kernel_rfl) ?_
      refine ql_s undef (by kernel_rfl) ?_
      refine ql_s (.bool true) (by kernel_rfl) ?_
      refine ql_s (.bool true) (by kernel_rfl) ?_
      refine ql_s undef (by kernel_rfl) ?_
      refine ql_s undef (by kernel_rfl) ?_
      refine ql_s undef (by kernel_rfl) ?_
      refine ql_s undef (by kernel_rfl) ?_
      refine ql_s undef (by kernel_rfl) ?_
      refine ql_s undef (by kernel_rfl) ?_
      refine ql_s (.bool true) (by kernel_rfl) ?_
      refine ql_nil (e_cutq ?_)
      exact ⟨rfl, rfl, rfl, (congrArg Value.bool (by first | rfl | (rw [hg1]; rfl) | simp [hg1])), trivial⟩
    · skip
      refine ql_s (.int .i64 y_1) (by kernel_rfl) ?_
      refine ql_s (.bool (decide (y_1 < 0))) (by kernel_rfl) ?_
      refine ql_s (.bool (decide (y_1 < 0))) (by kernel_rfl) ?_
      refine ql_s (.bool (decide (y_1 < 0))) (by kernel_rfl) ?_
      refine ql_case 43 (decide (y_1 < 0)) rfl (fun hg2 => ?_) (fun hg2 => ?_)
      · skip
        refine ql_s undef (by kernel_rfl) ?_
        refine ql_s undef (by kernel_rfl) ?_
        refine ql_s undef (by kernel_rfl) ?_
        refine ql_s undef (by kernel_rfl) ?_
        refine ql_s undef (by kernel_rfl) ?_
        refine ql_s undef (by kernel_rfl) ?_
        refine ql_s (.bool true) (by kernel_rfl) ?_
        refine ql_s (.bool true) (by kernel_rfl) ?_
        refine ql_s undef (by kernel_rfl) ?_
        refine ql_s undef (by kernel_rfl) ?_
        refine ql_s undef (by kernel_rfl) ?_
        refine ql_s undef (by kernel_rfl) ?_
        refine ql_s undef (by kernel_rfl) ?_
        refine ql_s undef (by kernel_rfl) ?_
        refine ql_s (.bool true) (by kernel_rfl) ?_
        refine ql_nil (e_cutq ?_)
        exact ⟨rfl, rfl, rfl, (congrArg Value.bool (by first | rfl | (rw [hg1, hg2]; rfl) | simp [hg1, hg2])), trivial⟩
      · skip
        refine ql_s (.int .i64 x_1) (by kernel_rfl) ?_
        refine ql_s (.pointer (some ⟨b2, 0, none⟩)) (by kernel_rfl) ?_
        refine ql_s (.pointer (some ⟨b2, 0, none⟩)) (by kernel_rfl) ?_
        refine ql_s (.pointer (some ⟨b2, 2, none⟩)) (by kernel_rfl) ?_
        refine ql_q rfl (qs_ldpt encV fitv3 rfl 0 rfl (.int .i64 g0.f.Region.W) (Nat.le_of_ble_eq_true rfl) rfl) ?_
        refine ql_s (.bool (decide (x_1 ≥ g0.f.Region.W))) (by kernel_rfl) ?_
        refine ql_s (.bool (decide (x_1 ≥ g0.f.Region.W))) (by kernel_rfl) ?_
        refine ql_s (.bool (decide (x_1 ≥ g0.f.Region.W))) (by kernel_rfl) ?_
        refine ql_case 51 (decide (x_1 ≥ g0.f.Region.W)) rfl (fun hg3 => ?_) (fun hg3 => ?_)
        · skip
          refine ql_s undef (by kernel_rfl) ?_
          refine ql_s undef (by kernel_rfl) ?_
          refine ql_s undef (by kernel_rfl) ?_
          refine ql_s undef (by kernel_rfl) ?_
          refine ql_s undef (by kernel_rfl) ?_
          refine ql_s undef (by kernel_rfl) ?_
          refine ql_s (.bool true) (by kernel_rfl) ?_
          refine ql_nil (e_cutq ?_)
          exact ⟨rfl, rfl, rfl, (congrArg Value.bool (by first | rfl | (rw [hg1, hg2, hg3]; rfl) | simp [hg1, hg2, hg3])), trivial⟩
        · skip
          refine ql_s (.int .i64 y_1) (by kernel_rfl) ?_
          refine ql_s (.pointer (some ⟨b2, 0, none⟩)) (by kernel_rfl) ?_
          refine ql_s (.pointer (some ⟨b2, 0, none⟩)) (by kernel_rfl) ?_
          refine ql_s (.pointer (some ⟨b2, 3, none⟩)) (by kernel_rfl) ?_
          refine ql_q rfl (qs_ldpt encV fitv3 rfl 0 rfl (.int .i64 g0.f.Region.H) (Nat.le_of_ble_eq_true rfl) rfl) ?_
          refine ql_s (.bool (decide (y_1 ≥ g0.f.Region.H))) (by kernel_rfl) ?_
          refine ql_s (.bool (decide (y_1 ≥ g0.f.Region.H))) (by kernel_rfl) ?_
          refine ql_nil (e_cutq ?_)
          exact ⟨rfl, rfl, rfl, (congrArg Value.bool (by first | rfl | (rw [hg1, hg2, hg3]; rfl) | simp [hg1, hg2, hg3])), trivial⟩
  intro _
  refine e_then ?_
  refine c_cond (((decide (x_1 < 0)) || ((decide (y_1 < 0)) || ((decide (x_1 ≥ g0.f.Region.W)) || (decide (y_1 ≥ g0.f.Region.H)))))) rfl (fun ht1 => ?_) (fun ht1 => ?_)
  · skip
    replace hp := if_t ht1 hp
    refine c_seq ?_
    refine c_quiet ?_
    refine ql_s (.int .i64 0) (by kernel_rfl) ?_
    refine ql_s (.bool false) (by kernel_rfl) ?_
    refine ql_nil ?_
    refine e_drop ?_
    refine e_then ?_
    refine c_ret ?_
    refine e_then_ret ?_
    obtain rfl := Option.some.inj hp
    exact post_all (vs := [.int .i64 0, .bool false]) (.tuple #[.int .i64 0, .bool false]) ⟨rfl, rfl, trivial⟩ rfl (.inl rfl) (fun w hS => ⟨rfl, hS⟩)
  · skip
    replace hp := if_f ht1 hp
    refine c_skip ?_
    refine e_then ?_
    refine c_seq ?_
    refine c_quiet ?_
    refine ql_s (.int .i64 y_1) (by kernel_rfl) ?_
    refine ql_s (.pointer (some ⟨b2, 0, none⟩)) (by kernel_rfl) ?_
    refine ql_s (.pointer (some ⟨b2, 0, none⟩)) (by kernel_rfl) ?_
    refine ql_s (.pointer (some ⟨b2, 2, none⟩)) (by kernel_rfl) ?_
    refine ql_q rfl (qs_ldpt encV fitv3 rfl 0 rfl (.int .i64 g0.f.Region.W) (Nat.le_of_ble_eq_true rfl) rfl) ?_
    refine ql_s (.int .i64 (mulI y_1 g0.f.Region.W)) (by kernel_rfl) ?_
    refine ql_s (.int .i64 x_1) (by kernel_rfl) ?_
    refine ql_s (.int .i64 (addI (mulI y_1 g0.f.Region.W) x_1)) (by kernel_rfl) ?_
    refine ql_s (.int .i64 (addI (mulI y_1 g0.f.Region.W) x_1)) (by kernel_rfl) ?_
    refine ql_s (.bool true) (by kernel_rfl) ?_
    refine ql_nil ?_
    refine e_drop ?_
    refine e_then ?_
    refine c_ret ?_
    obtain rfl := Option.some.inj hp
    exact post_all (vs := [.int .i64 (addI (mulI y_1 g0.f.Region.W) x_1), .bool true]) (.tuple #[.int .i64 (addI (mulI y_1 g0.f.Region.W) x_1), .bool true]) ⟨rfl, rfl, trivial⟩ rfl (.inl rfl) (fun w hS => ⟨rfl, hS⟩)

-- (tarnfell/road.ground).cost
set_option maxRecDepth 100000 in
set_option maxHeartbeats 4000000 in
theorem road_ground_cost_s (g0 : S_road_ground) (g0_v1a : Option Addr) (g0_v1c : Nat) (g0_v2a : Option Addr) (g0_v2c : Nat) (from0 : Int) (to0 : Int) (d0 : Int) (n0 : Int) (top0 : Nat) (D : PH) (g0_h1 : RO (encF .f32) D (.slice g0_v1a g0.f.V.length g0_v1c) g0.f.V) (g0_h2 : RO encS_api_Field D (.slice g0_v2a g0.s.Costly.length g0_v2c) g0.s.Costly) (F : List Assert) (r : Nat × Bool) (hp : road_ground_cost_p g0 from0 to0 d0 n0 top0 = some r) : ∀ w : World, SInv D (F) w → Calls Try.prog 137 #[.agg #[.int .i64 g0.f.Region.X, .int .i64 g0.f.Region.Y, .int .i64 g0.f.Region.W, .int .i64 g0.f.Region.H, .slice g0_v1a g0.f.V.length g0_v1c, .float .f32 g0.s.Grade, .float .f32 g0.s.Weight, .float .f32 g0.s.Bridge, .float .f32 g0.s.Dear, .int .i64 g0.s.Span, .slice g0_v2a g0.s.Costly.length g0_v2c], .int .i64 from0, .int .i64 to0, .int .i64 d0, .int .i64 n0, .float .f32 top0] w (fun e w' => e = .returned (.tuple #[.float .f32 r.1, .bool r.2]) ∧ SInv D (F) w') := by
  intro w hS
  refine call_intro Try.func137 rfl Try.ntmps137 (Nat.le_of_ble_eq_true rfl) hS ?_
  clear hS w
  unfold road_ground_cost_p at hp
  refine c_seq ?_
  refine c_region ?_
  refine l_box (cs := [.int .i64 g0.f.Region.X, .int .i64 g0.f.Region.Y, .int .i64 g0.f.Region.W, .int .i64 g0.f.Region.H, .slice g0_v1a g0.f.V.length g0_v1c, .float .f32 g0.s.Grade, .float .f32 g0.s.Weight, .float .f32 g0.s.Bridge, .float .f32 g0.s.Dear, .int .i64 g0.s.Span, .slice g0_v2a g0.s.Costly.length g0_v2c]) rfl rfl (fun b2 => ?_)
  refine l_s (.float .f32 0) (by kernel_rfl) ?_
  refine l_s (.bool false) (by kernel_rfl) ?_
  refine l_nil ?_
  refine e_then ?_
  refine c_seq ?_
  obtain ⟨x1, hx1, hp⟩ := bnd_some hp
  obtain ⟨b3, o1, h1, hq1⟩ := RO.at g0_h1 hx1
  obtain ⟨x2, hx2, hp⟩ := bnd_some hp
  obtain ⟨b4, o2, h2, hq2⟩ := RO.at g0_h1 hx2
  refine c_quiet_draw hmix (by kernel_rfl) ?_
  refine ql_s (.pointer (some ⟨b2, 0, none⟩)) (by kernel_rfl) ?_
  refine ql_s (.pointer (some ⟨b2, 4, none⟩)) (by kernel_rfl) ?_
  refine ql_q rfl (qs_ldpt encV fitv24 rfl 0 rfl (.slice g0_v1a g0.f.V.length g0_v1c) (Nat.le_of_ble_eq_true rfl) rfl) ?_
  refine ql_s (.int .i64 from0) (by kernel_rfl) ?_
  refine ql_q rfl (qs_idx hq1 Try.underlying24 fit40 rfl rfl) ?_
  refine ql_q rfl (qs_ldAtV fit40 rfl h1 valF) ?_
  refine ql_s (.pointer (some ⟨b2, 0, none⟩)) (by kernel_rfl) ?_
  refine ql_s (.pointer (some ⟨b2, 4, none⟩)) (by kernel_rfl) ?_
  refine ql_q rfl (qs_ldpt encV fitv24 rfl 0 rfl (.slice g0_v1a g0.f.V.length g0_v1c) (Nat.le_of_ble_eq_true rfl) rfl) ?_
  refine ql_s (.int .i64 to0) (by kernel_rfl) ?_
  refine ql_q rfl (qs_idx hq2 Try.underlying24 fit40 rfl rfl) ?_
  refine ql_q rfl (qs_ldAtV fit40 rfl h2 valF) ?_
  refine ql_s (.float .f32 x1) (by kernel_rfl) ?_
  refine ql_s (.float .f32 x2) (by kernel_rfl) ?_
  refine ql_nil ?_
  refine e_then ?_
  refine c_seq ?_
  obtain ⟨r1, hr1, hp⟩ := bnd_some hp
  refine c_quiet ?_
  refine ql_s (.int .i64 d0) (by kernel_rfl) ?_
  refine ql_s (.int .i64 n0) (by kernel_rfl) ?_
  refine ql_call (v := .float .f32 r1) rfl (run_call (vs := [.int .i64 d0, .int .i64 n0]) rfl Try.call85 rfl) (fun w hS => (road_length_s d0 n0 _  _ _ hr1 w (hS)).mono fun e w' h => ⟨h.1, h.2⟩) ?_
  refine ql_s (.float .f32 r1) (by kernel_rfl) ?_
  refine ql_nil ?_
  refine e_then ?_
  refine c_seq ?_
  obtain ⟨r2, hr2, hp⟩ := bnd_some hp
  refine c_quiet ?_
  refine ql_s (.float .f32 x1) (by kernel_rfl) ?_
  refine ql_s (.float .f32 x2) (by kernel_rfl) ?_
  refine ql_s (.float .f32 r1) (by kernel_rfl) ?_
  refine ql_call (v := .float .f32 r2) rfl (run_call (vs := [.float .f32 x1, .float .f32 x2, .float .f32 r1]) rfl Try.call53 rfl) (fun w hS => (road_grade_s x1 x2 r1 _  _ _ hr2 w (hS)).mono fun e w' h => ⟨h.1, h.2⟩) ?_
  refine ql_s (.float .f32 r2) (by kernel_rfl) ?_
  refine ql_nil ?_
  refine e_then ?_
  refine c_seq ?_
  refine c_seq ?_
  refine c_quiet ?_
  refine ql_s (.float .f32 r2) (by kernel_rfl) ?_
  refine ql_s (.pointer (some ⟨b2, 5, none⟩)) (by kernel_rfl) ?_
  refine ql_s (.pointer (some ⟨b2, 5, none⟩)) (by kernel_rfl) ?_
  refine ql_q rfl (qs_ldpt encV fitv40 rfl 0 rfl (.float .f32 g0.s.Grade) (Nat.le_of_ble_eq_true rfl) rfl) ?_
  refine ql_s (.bool (fgt .f32 r2 g0.s.Grade)) (by kernel_rfl) ?_
  refine ql_nil ?_
  refine e_then ?_
  refine c_cond (fgt .f32 r2 g0.s.Grade) rfl (fun ht1 => ?_) (fun ht1 => ?_)
  · skip
    replace hp := if_t ht1 hp
    refine c_seq ?_
    refine c_quiet ?_
    refine ql_s (.float .f32 0) (by kernel_rfl) ?_
    refine ql_s (.bool false) (by kernel_rfl) ?_
    refine ql_nil ?_
    refine e_drop ?_
    refine e_then ?_
    refine c_ret ?_
    refine e_then_ret ?_
    obtain rfl := Option.some.inj hp
    exact post_all (vs := [.float .f32 0, .bool false]) (.tuple #[.float .f32 0, .bool false]) ⟨rfl, rfl, trivial⟩ rfl (.inl rfl) (fun w hS => ⟨rfl, hS⟩)
  · skip
    replace hp := if_f ht1 hp
    refine c_skip ?_
    refine e_then ?_
    refine c_seq ?_
    refine c_seq ?_
    refine c_quiet ?_
    refine ql_s (.int .i64 n0) (by kernel_rfl) ?_
    refine ql_s (.bool (decide (n0 > 1))) (by kernel_rfl) ?_
    refine ql_nil ?_
    refine e_then ?_
    refine c_cond (decide (n0 > 1)) rfl (fun ht2 => ?_) (fun ht2 => ?_)
    · skip
      replace hp := if_t ht2 hp
      refine c_seq ?_
      obtain ⟨c1, hc1, hp⟩ := bnd_some hp
      refine c_cutq_end [(12, .float .f32 c1.1), (13, .bool c1.2)] ?_ ?_
      · skip
        refine c_quiet ?_
        refine ql_s (.float .f32 r1) (by kernel_rfl) ?_
        refine ql_s (.pointer (some ⟨b2, 5, none⟩)) (by kernel_rfl) ?_
        refine ql_s (.pointer (some ⟨b2, 7, none⟩)) (by kernel_rfl) ?_
        refine ql_q rfl (qs_ldpt encV fitv40 rfl 0 rfl (.float .f32 g0.s.Bridge) (Nat.le_of_ble_eq_true rfl) rfl) ?_
        obtain ⟨r3, hr3, hc1⟩ := bnd_some hc1
        refine ql_q rfl (qs_fop hr3 rfl rfl) ?_
        refine ql_s (.pointer (some ⟨b2, 5, none⟩)) (by kernel_rfl) ?_
        refine ql_s (.pointer (some ⟨b2, 8, none⟩)) (by kernel_rfl) ?_
        refine ql_q rfl (qs_ldpt encV fitv40 rfl 0 rfl (.float .f32 g0.s.Dear) (Nat.le_of_ble_eq_true rfl) rfl) ?_
        obtain ⟨r4, hr4, hc1⟩ := bnd_some hc1
        refine ql_q rfl (qs_fop hr4 rfl rfl) ?_
        refine ql_s (.float .f32 top0) (by kernel_rfl) ?_
        refine ql_s (.float .f32 x1) (by kernel_rfl) ?_
        refine ql_s (.bool (flt .f32 top0 x1)) (by kernel_rfl) ?_
        refine ql_s (.bool (flt .f32 top0 x1)) (by kernel_rfl) ?_
        refine ql_case 59 (flt .f32 top0 x1) rfl (fun hg1 => ?_) (fun hg1 => ?_)
        · skip
          replace hc1 := if_t hg1 hc1
          refine ql_s (.float .f32 top0) (by kernel_rfl) ?_
          refine ql_s (.float .f32 x2) (by kernel_rfl) ?_
          refine ql_s (.bool (flt .f32 top0 x2)) (by kernel_rfl) ?_
          refine ql_s (.bool (flt .f32 top0 x2)) (by kernel_rfl) ?_
          refine ql_s (.float .f32 r4) (by kernel_rfl) ?_
          refine ql_s (.bool (flt .f32 top0 x2)) (by kernel_rfl) ?_
          refine ql_nil (e_cutq ?_)
          obtain rfl := Option.some.inj hc1
          exact ⟨rfl, rfl, trivial⟩
        · skip
          replace hc1 := if_f hg1 hc1
          refine ql_s undef (by kernel_rfl) ?_
          refine ql_s undef (by kernel_rfl) ?_
          refine ql_s undef (by kernel_rfl) ?_
          refine ql_s (.bool false) (by kernel_rfl) ?_
          refine ql_s (.float .f32 r4) (by kernel_rfl) ?_
          refine ql_s (.bool false) (by kernel_rfl) ?_
          refine ql_nil (e_cutq ?_)
          obtain rfl := Option.some.inj hc1
          exact ⟨rfl, rfl, trivial⟩
      intro _
      refine e_then ?_
      refine c_ret ?_
      refine e_then_ret ?_
      obtain rfl := Option.some.inj hp
      exact post_all (vs := [.float .f32 c1.1, .bool c1.2]) (.tuple #[.float .f32 c1.1, .bool c1.2]) ⟨rfl, rfl, trivial⟩ rfl (.inl rfl) (fun w hS => ⟨rfl, hS.tail⟩)
    · skip
      replace hp := if_f ht2 hp
      refine c_skip ?_
      refine e_then ?_
      refine c_seq ?_
      obtain ⟨r5, hr5, hp⟩ := bnd_some hp
      obtain ⟨r6, hr6, hp⟩ := bnd_some hp
      obtain ⟨r7, hr7, hp⟩ := bnd_some hp
      obtain ⟨r8, hr8, hp⟩ := bnd_some hp
      refine c_quiet ?_
      refine ql_s (.float .f32 r1) (by kernel_rfl) ?_
      refine ql_s (.pointer (some ⟨b2, 5, none⟩)) (by kernel_rfl) ?_
      refine ql_s (.pointer (some ⟨b2, 6, none⟩)) (by kernel_rfl) ?_
      refine ql_q rfl (qs_ldpt encV fitv40 rfl 0 rfl (.float .f32 g0.s.Weight) (Nat.le_of_ble_eq_true rfl) rfl) ?_
      refine ql_s (.float .f32 r2) (by kernel_rfl) ?_
      refine ql_q rfl (qs_fop hr5 rfl rfl) ?_
      refine ql_s (.float .f32 r2) (by kernel_rfl) ?_
      refine ql_q rfl (qs_fop hr6 rfl rfl) ?_
      refine ql_q rfl (qs_fop hr7 rfl rfl) ?_
      refine ql_q rfl (qs_fop hr8 rfl rfl) ?_
      refine ql_s (.float .f32 r8) (by kernel_rfl) ?_
      refine ql_nil ?_
      refine e_then ?_
      refine c_seq ?_
      refine c_seq ?_
      refine c_quiet ?_
      refine ql_s (.pointer (some ⟨b2, 5, none⟩)) (by kernel_rfl) ?_
      refine ql_s (.pointer (some ⟨b2, 10, none⟩)) (by kernel_rfl) ?_
      refine ql_q rfl (qs_ldpt encV fitv55 rfl 0 rfl (.slice g0_v2a g0.s.Costly.length g0_v2c) (Nat.le_of_ble_eq_true rfl) rfl) ?_
      refine ql_s (.int .i64 (g0.s.Costly.length : Int)) (by kernel_rfl) ?_
      refine ql_s (.int .i64 0) (by kernel_rfl) ?_
      refine ql_nil ?_
      refine e_drop ?_
      refine e_then ?_
      have hb0 : (g0.s.Costly.length : Int) ≤ 4611686018427387904 := by have := RO.bound g0_h2; omega
      have hm0 : g0.s.Costly.length = (g0.s.Costly.length : Int).toNat := by omega
      have hm1 := hm0; have hb1 := hb0; clear hm0 hb0
      obtain ⟨x3, hs1, hp⟩ := bnd_some hp
      obtain ⟨body1, hbody1, hs1⟩ := forS_gen hs1
      refine c_cut_end (fun φ1 D1 As1 => Is φ1 [(18, .float .f32 x3)] ∧ PH.le D D1 ∧ As1 = F) ?_ ?_
      · skip
        refine c_block ?_
        refine c_loop (fun k φ1 D2 As1 => ∃ (j1 i1 : Nat) (s1 : Nat), k = j1 + 1 ∧ i1 + j1 = g0.s.Costly.length ∧ Is φ1 [(2, .int .i64 to0), (18, .float .f32 s1), (76, .slice g0_v2a g0.s.Costly.length g0_v2c), (77, .int .i64 (g0.s.Costly.length : Int)), (78, .int .i64 (i1 : Int))] ∧ PH.le D D2 ∧ As1 = F ∧ forS body1 j1 i1 s1 = some x3) ⟨g0.s.Costly.length + 1, g0.s.Costly.length, 0, r8, rfl, Nat.zero_add _, ⟨rfl, rfl, rfl, rfl, rfl, trivial⟩, (PH.le_refl _), rfl, hs1⟩ ?_ ?_
        · rintro _ _ _ ⟨_, _, _, h0, _⟩; omega
        intro k1
        rintro φ1 D2 As1 ⟨j1, i1, s1, hk1, hij1, hI1, hD1, hA1, hs2⟩
        subst As1
        replace g0_h2 := g0_h2.mono hD1
        replace g0_h1 := g0_h1.mono hD1
        refine c_frame _ hI1 ?_
        obtain rfl : k1 = j1 := by omega
        clear hk1
        rcases k1 with _ | j1
        · skip
          refine c_seq ?_
          refine c_quiet ?_
          refine ql_s (.bool (decide ((i1 : Int) < (g0.s.Costly.length : Int)))) (by kernel_rfl) ?_
          refine ql_nil ?_
          refine e_then ?_
          refine c_seq ?_
          refine c_cond (decide ((i1 : Int) < (g0.s.Costly.length : Int))) rfl (fun ht3 => absurd ((dec_lt_f hm1 (by omega)).symm.trans ht3) (by simp)) (fun _ => ?_)
          refine c_exit ?_
          refine e_then_exit ?_
          refine e_then_exit ?_
          obtain rfl := Option.some.inj hs2
          refine e_blk_exit ?_
          exact e_cut ⟨⟨rfl, trivial⟩, hD1, rfl⟩
        · skip
          obtain ⟨y1, hx3, hs2⟩ := forS_some hs2
          replace hx3 := (congrFun (congrFun hbody1 i1) s1).trans hx3
          refine c_seq ?_
          refine c_quiet ?_
          refine ql_s (.bool (decide ((i1 : Int) < (g0.s.Costly.length : Int)))) (by kernel_rfl) ?_
          refine ql_nil ?_
          refine e_then ?_
          refine c_seq ?_
          refine c_cond (decide ((i1 : Int) < (g0.s.Costly.length : Int))) rfl (fun _ => ?_) (fun ht4 => absurd ((dec_lt_t hm1 (by omega)).symm.trans ht4) (by simp))
          refine c_skip ?_
          refine e_then ?_
          refine c_seq ?_
          refine c_block ?_
          refine c_seq ?_
          obtain ⟨x4, hx4, hx3⟩ := bnd_some hx3
          obtain ⟨b5, o3, h3, hq3⟩ := RO.at g0_h2 hx4
          obtain ⟨cs1, hc2, ha1⟩ := h3.cells
          obtain ⟨v1, rfl, h4⟩ := hc2
          obtain ⟨a1, cp1, rfl⟩ := RO.len h4
          refine c_region ?_
          refine l_q rfl (qs_idx hq3 Try.underlying55 fit26 rfl rfl) ?_
          refine l_q rfl (qs_ldC fit26 rfl ha1 rfl (.agg #[.int .i64 x4.Region.X, .int .i64 x4.Region.Y, .int .i64 x4.Region.W, .int .i64 x4.Region.H, .slice a1 x4.V.length cp1]) rfl) ?_
          refine l_alloc (zs := [.int .i64 0, .int .i64 0, .int .i64 0, .int .i64 0, .slice none 0 0]) rfl (by kernel_rfl) (fun b7 => ?_)
          refine l_store (dd := none) (vs := [.int .i64 x4.Region.X, .int .i64 x4.Region.Y, .int .i64 x4.Region.W, .int .i64 x4.Region.H, .slice a1 x4.V.length cp1]) (cs' := [.int .i64 x4.Region.X, .int .i64 x4.Region.Y, .int .i64 x4.Region.W, .int .i64 x4.Region.H, .slice a1 x4.V.length cp1]) rfl (by kernel_rfl) (by kernel_rfl) rfl rfl (Nat.le_of_ble_eq_true rfl) rfl rfl ?_
          refine l_nil ?_
          refine e_then ?_
          obtain ⟨x5, hx5, hx3⟩ := bnd_some hx3
          obtain ⟨b8, o4, h5, hq4⟩ := RO.at h4 hx5
          obtain ⟨r9, hr9, hx3⟩ := bnd_some hx3
          obtain ⟨r10, hr10, hx3⟩ := bnd_some hx3
          refine c_quiet ?_
          refine ql_s (.float .f32 s1) (by kernel_rfl) ?_
          refine ql_s (.pointer (some ⟨b7, 4, none⟩)) (by kernel_rfl) ?_
          refine ql_q rfl (qs_ldpt encV fitv24 rfl 0 rfl (.slice a1 x4.V.length cp1) (Nat.le_of_ble_eq_true rfl) rfl) ?_
          refine ql_s (.int .i64 to0) (by kernel_rfl) ?_
          refine ql_q rfl (qs_idx hq4 Try.underlying24 fit40 rfl rfl) ?_
          refine ql_q rfl (qs_ldAtV fit40 rfl h5 valF) ?_
          refine ql_q rfl (qs_fop hr9 rfl rfl) ?_
          refine ql_q rfl (qs_fop hr10 rfl rfl) ?_
          refine ql_s (.float .f32 r10) (by kernel_rfl) ?_
          refine ql_nil ?_
          refine e_drop ?_
          refine e_blk ?_
          refine e_then ?_
          refine c_quiet ?_
          refine ql_s (.int .i64 (addI (i1 : Int) 1)) (by kernel_rfl) ?_
          refine ql_s (.int .i64 (addI (i1 : Int) 1)) (by kernel_rfl) ?_
          refine ql_nil ?_
          obtain rfl := Option.some.inj hx3
          exact e_cut ⟨j1, i1 + 1, r10, by omega, by omega, ⟨rfl, rfl, rfl, rfl, (congrArg (Value.int .i64) (addI_succ (by omega))), trivial⟩, hD1, rfl, hs2⟩
      · skip
        rintro φ2 D1 As2 ⟨hI2, hD2, hA2⟩
        subst As2
        replace g0_h1 := g0_h1.mono hD2
        replace g0_h2 := g0_h2.mono hD2
        refine e_frame _ hI2 ?_
        refine e_then ?_
        refine c_seq ?_
        refine c_quiet ?_
        refine ql_s (.float .f32 x3) (by kernel_rfl) ?_
        refine ql_s (.float .f32 x3) (by kernel_rfl) ?_
        refine ql_s (.bool true) (by kernel_rfl) ?_
        refine ql_nil ?_
        refine e_then ?_
        refine c_ret ?_
        obtain rfl := Option.some.inj hp
        exact post_all (vs := [.float .f32 x3, .bool true]) (.tuple #[.float .f32 x3, .bool true]) ⟨rfl, rfl, trivial⟩ rfl (.inl rfl) (fun w hS => ⟨rfl, (hS.lower hD2)⟩)

-- (*tarnfell/road.queue).Push
set_option maxRecDepth 100000 in
set_option maxHeartbeats 4000000 in
theorem road_queue_Push_s (b_q0 : Nat) (q0 : List S_road_reached) (q0_a : Option Addr) (q0_c : Nat) (x0 : S_road_reached) (D : PH)  (F : List Assert) (r : (List S_road_reached)) (hp : road_queue_Push_p q0 x0 = some r) : ∀ w : World, SInv D (pt b_q0 [.slice q0_a q0.length q0_c] 154 :: OwnS D encS_road_reached 152 (.slice q0_a q0.length q0_c) q0 :: F) w → Calls Try.prog 165 #[.pointer (some ⟨b_q0, 0, none⟩), .iface 152 (.agg #[.float .f32 x0.price, .int .i64 x0.k])] w (fun e w' => ∃ (D1 : PH) (q_a1 : Option Addr) (q_cp1 : Nat), PH.le D D1 ∧ e = .returned (.tuple #[]) ∧ SInv D1 (pt b_q0 [.slice q_a1 r.length q_cp1] 154 :: OwnS D1 encS_road_reached 152 (.slice q_a1 r.length q_cp1) r :: F) w') := by
  intro w hS
  refine call_intro Try.func165 rfl Try.ntmps165 (Nat.le_of_ble_eq_true rfl) hS ?_
  clear hS w
  unfold road_queue_Push_p at hp
  obtain ⟨l1, hl1, hp⟩ := bnd_some hp
  refine c_cut_end (fun φ1 D1 As1 => ∃ (a2 : Option Addr) (cp3 : Nat), Is φ1 [] ∧ D = D1 ∧ As1 = pt b_q0 [.slice a2 l1.length cp3] 154 :: OwnS D encS_road_reached 152 (.slice a2 l1.length cp3) l1 :: F) ?_ ?_
  · skip
    refine c_order (B := []) (.q 0 (.q 1 (.q 2 (.q 4 (.q 5 (.f 3 (.e 6 (.e 7 (.q 8 (.e 9 .nil)))) (.e 6 (.e 3 (.e 7 (.q 8 (.e 9 .nil))))))))))) hmix (by kernel_rfl) (NoPanic.then NoPanic.post) ?_
    refine o_s (.pointer (some ⟨b_q0, 0, none⟩)) rfl (by kernel_rfl) ?_
    refine o_s (.pointer (some ⟨b_q0, 0, none⟩)) rfl (by kernel_rfl) ?_
    refine o_s (.pointer (some ⟨b_q0, 0, none⟩)) rfl (by kernel_rfl) ?_
    refine o_s (.iface 152 (.agg #[.float .f32 x0.price, .int .i64 x0.k])) rfl (by kernel_rfl) ?_
    refine o_qs rfl rfl (qs_tyAs Try.underlying152 rfl rfl) ?_
    refine o_f ?_ ?_
    · skip
      refine o_qe rfl rfl (PH.le_refl _) (qs_ldpt encV fitv154 rfl 0 rfl (.slice q0_a q0.length q0_c) (Nat.le_of_ble_eq_true rfl) rfl) ?_
      refine o_bslS (cs := [.float .f32 x0.price, .int .i64 x0.k]) (E := 152) (e := encS_road_reached) ([x0] : List S_road_reached) rfl rfl (PH.le_refl _) (by kernel_rfl) rfl rfl (Nat.le_of_ble_eq_true rfl) ⟨rfl, trivial⟩ (fun b2 cp4 => ?_)
      refine o_perm (fr1_perm 2 _) ?_
      refine o_app hl1 rfl rfl (PH.le_refl _) elem154 Try.underlying154 rfl rfl rfl (OwnS.src 1 rfl ⟨_, _, rfl⟩) (fun a3 cp5 => ?_)
      refine o_s (.pointer (some ⟨b_q0, 0, none⟩)) rfl (by kernel_rfl) ?_
      refine o_perm (fr1_perm 2 _) ?_
      refine o_store (vs := [.slice a3 l1.length cp5]) (cs' := [.slice a3 l1.length cp5]) rfl rfl (PH.le_refl _) (by kernel_rfl) (by kernel_rfl) rfl rfl (Nat.le_of_ble_eq_true rfl) rfl rfl ?_
      refine o_nil ?_
      refine e_perm (fr1_perm 2 _) ?_
      refine e_drop ?_
      refine e_perm (fr1_perm 1 _) ?_
      refine e_perm (fr1_perm 1 _) ?_
      exact e_cut ⟨a3, cp5, trivial, rfl, rfl⟩
    refine o_bslS (cs := [.float .f32 x0.price, .int .i64 x0.k]) (E := 152) (e := encS_road_reached) ([x0] : List S_road_reached) rfl rfl (PH.le_refl _) (by kernel_rfl) rfl rfl (Nat.le_of_ble_eq_true rfl) ⟨rfl, trivial⟩ (fun b3 cp6 => ?_)
    refine o_qe rfl rfl (PH.le_refl _) (qs_ldpt encV fitv154 rfl 1 rfl (.slice q0_a q0.length q0_c) (Nat.le_of_ble_eq_true rfl) rfl) ?_
    refine o_perm (fr1_perm 2 _) ?_
    refine o_app hl1 rfl rfl (PH.le_refl _) elem154 Try.underlying154 rfl rfl rfl (OwnS.src 1 rfl ⟨_, _, rfl⟩) (fun a4 cp7 => ?_)
    refine o_s (.pointer (some ⟨b_q0, 0, none⟩)) rfl (by kernel_rfl) ?_
    refine o_perm (fr1_perm 2 _) ?_
    refine o_store (vs := [.slice a4 l1.length cp7]) (cs' := [.slice a4 l1.length cp7]) rfl rfl (PH.le_refl _) (by kernel_rfl) (by kernel_rfl) rfl rfl (Nat.le_of_ble_eq_true rfl) rfl rfl ?_
    refine o_nil ?_
    refine e_perm (fr1_perm 2 _) ?_
    refine e_drop ?_
    refine e_perm (fr1_perm 1 _) ?_
    refine e_perm (fr1_perm 1 _) ?_
    exact e_cut ⟨a4, cp7, trivial, rfl, rfl⟩
  · skip
    rintro φ1 _ As1 ⟨a2, cp3, hI1, rfl, hA⟩
    subst As1
    refine e_frame _ hI1 ?_
    obtain rfl := Option.some.inj hp
    refine e_perm (fr1_perm 1 _) ?_
    refine e_perm (fr1_perm 1 _) ?_
    exact post_all (vs := []) (.tuple #[]) trivial rfl (.inr rfl) (fun w hS => ⟨D, a2, cp3, (PH.le_refl _), rfl, hS⟩)

-- container/heap.up
set_option maxRecDepth 100000 in
set_option maxHeartbeats 4000000 in
theorem container_heap_up_s (b_h0 : Nat) (h0 : List S_road_reached) (h0_a : Option Addr) (h0_c : Nat) (j0 : Int) (D : PH)  (F : List Assert) (r : (List S_road_reached)) (hp : container_heap_up_p h0 j0 = some r) : ∀ w : World, SInv D (pt b_h0 [.slice h0_a h0.length h0_c] 154 :: OwnS D encS_road_reached 152 (.slice h0_a h0.length h0_c) h0 :: F) w → Calls Try.prog 138 #[.iface 156 (.pointer (some ⟨b_h0, 0, none⟩)), .int .i64 j0] w (fun e w' => ∃ (D1 : PH) , PH.le D D1 ∧ e = .returned (.tuple #[]) ∧ SInv D1 (pt b_h0 [.slice h0_a h0.length h0_c] 154 :: OwnS D1 encS_road_reached 152 (.slice h0_a h0.length h0_c) r :: F) w') := by
  intro w hS
  refine call_intro Try.func138 rfl Try.ntmps138 (Nat.le_of_ble_eq_true rfl) hS ?_
  clear hS w
  unfold container_heap_up_p at hp
  obtain ⟨x1, hs1, hp⟩ := bnd_some hp
  obtain ⟨body1, hbody1, hs1⟩ := loopP_gen hs1
  refine c_cut_end (fun φ1 D1 As1 => Is φ1 [] ∧ PH.le D D1 ∧ As1 = pt b_h0 [.slice h0_a h0.length h0_c] 154 :: OwnS D1 encS_road_reached 152 (.slice h0_a h0.length h0_c) x1 :: F) ?_ ?_
  · skip
    refine c_block ?_
    refine c_perm (fr1_perm 1 _) ?_
    refine c_perm (fr1_perm 1 _) ?_
    obtain ⟨kz1, hs1⟩ := loopP_ex hs1
    refine c_loop (fun k φ1 D2 As1 => ∃ (s1 : Int × (List S_road_reached)), Is φ1 [(0, .iface 156 (.pointer (some ⟨b_h0, 0, none⟩))), (1, .int .i64 s1.1)] ∧ PH.le D D2 ∧ As1 = pt b_h0 [.slice h0_a h0.length h0_c] 154 :: OwnS D2 encS_road_reached 152 (.slice h0_a h0.length h0_c) s1.2 :: F ∧ iter body1 k s1 = some x1) ⟨kz1, (j0, h0), ⟨rfl, rfl, trivial⟩, (PH.le_refl _), rfl, hs1⟩ ?_ ?_
    · rintro _ _ _ ⟨_, _, _, _, h0⟩; cases h0
    intro k1
    rintro φ1 D2 As1 ⟨s1, hI1, hD1, hA1, hs2⟩
    subst As1
    refine c_frame _ hI1 ?_
    obtain ⟨y1, hx1, hs2⟩ := iter_some hs2
    replace hx1 := (congrFun hbody1 s1).trans hx1
    refine c_block ?_
    refine c_seq ?_
    refine c_quiet ?_
    refine ql_s (.int .i64 s1.1) (by kernel_rfl) ?_
    refine ql_s (.int .i64 (subI s1.1 1)) (by kernel_rfl) ?_
    refine ql_q rfl (qs_idiv (r := quoI (subI s1.1 1) 2) (by decide) rfl rfl rfl) ?_
    refine ql_s (.int .i64 (quoI (subI s1.1 1) 2)) (by kernel_rfl) ?_
    refine ql_nil ?_
    refine e_then ?_
    refine c_seq ?_
    refine c_seq ?_
    refine c_perm (fr1_perm 1 _) ?_
    refine c_adr (fun b1 hb1 hl1 hbd1 hcap1 => ?_)
    obtain ⟨c1, hc1, hx1⟩ := bnd_some hx1
    refine c_cutq_end [(0, .iface 156 (.pointer (some ⟨b_h0, 0, none⟩))), (1, .int .i64 s1.1), (4, .int .i64 (quoI (subI s1.1 1) 2)), (17, .bool c1)] ?_ ?_
    · skip
      refine c_quiet ?_
      refine ql_s (.int .i64 (quoI (subI s1.1 1) 2)) (by kernel_rfl) ?_
      refine ql_s (.int .i64 s1.1) (by kernel_rfl) ?_
      refine ql_s (.bool ((quoI (subI s1.1 1) 2) == s1.1)) (by kernel_rfl) ?_
      refine ql_s (.bool ((quoI (subI s1.1 1) 2) == s1.1)) (by kernel_rfl) ?_
      refine ql_case 11 (((quoI (subI s1.1 1) 2) == s1.1)) rfl (fun hg1 => ?_) (fun hg1 => ?_)
      · skip
        replace hc1 := if_t hg1 hc1
        refine ql_s undef (by kernel_rfl) ?_
        refine ql_s undef (by kernel_rfl) ?_
        refine ql_s undef (by kernel_rfl) ?_
        refine ql_s undef (by kernel_rfl) ?_
        refine ql_s undef (by kernel_rfl) ?_
        refine ql_s (.bool true) (by kernel_rfl) ?_
        refine ql_nil (e_cutq ?_)
        obtain rfl := Option.some.inj hc1
        exact ⟨rfl, rfl, rfl, rfl, trivial⟩
      · skip
        replace hc1 := if_f hg1 hc1
        refine ql_s (.iface 156 (.pointer (some ⟨b_h0, 0, none⟩))) (by kernel_rfl) ?_
        refine ql_s (.int .i64 s1.1) (by kernel_rfl) ?_
        refine ql_s (.int .i64 (quoI (subI s1.1 1) 2)) (by kernel_rfl) ?_
        obtain ⟨r1, hr1, hc1⟩ := bnd_some hc1
        refine ql_ent (v := .bool r1) rfl (ent_methD encV (vs := [.slice h0_a h0.length h0_c, .int .i64 s1.1, .int .i64 (quoI (subI s1.1 1) 2)]) rfl (by kernel_rfl) Try.underlying156 Try.call162 fitv154 1 rfl (.slice h0_a h0.length h0_c) (Nat.le_of_ble_eq_true rfl) rfl rfl) (fun w hS => (calls_thaw (PH.le_refl _) (hS) (fun D0' hLl0 hLr0 hS => (show Calls Try.prog 162 #[.slice h0_a h0.length h0_c, .int .i64 s1.1, .int .i64 (quoI (subI s1.1 1) 2)] w (fun e w' => e = .returned (.bool r1) ∧ SInv D0' (pt b_h0 [.slice h0_a h0.length h0_c] 154 :: F) w') from by have hq := road_queue_Less_s s1.2 h0_a h0_c s1.1 (quoI (subI s1.1 1) 2) _ (by rw [hl1]; exact hLr0) _ _ hr1 w (show SInv D0' (pt b_h0 [.slice h0_a s1.2.length h0_c] 154 :: F) w from by have h2 : SInv D0' (pt b_h0 [.slice h0_a h0.length h0_c] 154 :: F) w := hS; rw [← hl1] at h2; exact h2); (try simp only [hl1] at hq); exact hq).mono fun e w' h => ⟨h.1, h.2⟩)).mono fun e w' h => ⟨h.1, h.2⟩) ?_
        refine ql_s (.bool (!r1)) (by kernel_rfl) ?_
        refine ql_s (.bool (!r1)) (by kernel_rfl) ?_
        refine ql_nil (e_cutq ?_)
        obtain rfl := Option.some.inj hc1
        exact ⟨rfl, rfl, rfl, rfl, trivial⟩
    intro _
    refine e_then ?_
    refine c_cond (c1) rfl (fun ht1 => ?_) (fun ht1 => ?_)
    · skip
      replace hx1 := if_t ht1 hx1
      refine c_exit ?_
      refine e_then_exit ?_
      refine e_blk_other (by decide) ?_
      refine e_then_exit ?_
      obtain rfl := Option.some.inj hx1
      obtain rfl := hs2
      refine e_blk_exit ?_
      refine e_perm (fr1_perm 1 _) ?_
      exact e_cut ⟨trivial, hD1, rfl⟩
    · skip
      replace hx1 := if_f ht1 hx1
      refine c_skip ?_
      refine e_then ?_
      refine c_seq ?_
      obtain ⟨r2, hr2, hx1⟩ := bnd_some hx1
      refine c_region ?_
      refine l_s (.iface 156 (.pointer (some ⟨b_h0, 0, none⟩))) (by kernel_rfl) ?_
      refine l_s (.int .i64 (quoI (subI s1.1 1) 2)) (by kernel_rfl) ?_
      refine l_s (.int .i64 s1.1) (by kernel_rfl) ?_
      refine l_ent rfl (ent_methD encV (vs := [.slice h0_a h0.length h0_c, .int .i64 (quoI (subI s1.1 1) 2), .int .i64 s1.1]) rfl (by kernel_rfl) Try.underlying156 Try.call163 fitv154 1 rfl (.slice h0_a h0.length h0_c) (Nat.le_of_ble_eq_true rfl) rfl rfl) (fun v D4 As3 => PH.le D2 D4 ∧ v = .tuple #[] ∧ As3 = OwnS D4 encS_road_reached 152 (.slice h0_a h0.length h0_c) r2 :: pt b_h0 [.slice h0_a h0.length h0_c] 154 :: F) (fun w hS => (show Calls Try.prog 163 #[.slice h0_a h0.length h0_c, .int .i64 (quoI (subI s1.1 1) 2), .int .i64 s1.1] w (fun e w' => ∃ (D4 : PH) , PH.le D2 D4 ∧ e = .returned (.tuple #[]) ∧ SInv D4 (OwnS D4 encS_road_reached 152 (.slice h0_a h0.length h0_c) r2 :: pt b_h0 [.slice h0_a h0.length h0_c] 154 :: F) w') from by have hq := road_queue_Swap_s s1.2 h0_a h0_c (quoI (subI s1.1 1) 2) s1.1 _  _ _ hr2 w (show SInv D2 (OwnS D2 encS_road_reached 152 (.slice h0_a s1.2.length h0_c) s1.2 :: pt b_h0 [.slice h0_a s1.2.length h0_c] 154 :: F) w from by have h2 : SInv D2 (OwnS D2 encS_road_reached 152 (.slice h0_a h0.length h0_c) s1.2 :: pt b_h0 [.slice h0_a h0.length h0_c] 154 :: F) w := hS; rw [← hl1] at h2; exact h2); (try simp only [hl1] at hq); exact hq).mono fun e w' ⟨D4, hle2, he, hS2⟩ => ⟨_, D4, _, he, ⟨hle2, rfl, rfl⟩, hS2⟩) ?_
      rintro _ D4 As3 ⟨hle2, rfl, hA3⟩
      subst As3
      refine l_nil ?_
      refine e_then ?_
      refine c_quiet ?_
      refine ql_s (.int .i64 (quoI (subI s1.1 1) 2)) (by kernel_rfl) ?_
      refine ql_s (.int .i64 (quoI (subI s1.1 1) 2)) (by kernel_rfl) ?_
      refine ql_nil ?_
      refine e_blk ?_
      refine e_perm (fr1_perm 1 _) ?_
      obtain rfl := Option.some.inj hx1
      exact e_cut ⟨(quoI (subI s1.1 1) 2, r2), ⟨rfl, rfl, trivial⟩, (PH.le_trans hD1 hle2), rfl, hs2⟩
  · skip
    rintro φ2 D1 As4 ⟨hI2, hD2, hA4⟩
    subst As4
    refine e_frame _ hI2 ?_
    obtain rfl := Option.some.inj hp
    refine e_perm (fr1_perm 1 _) ?_
    refine e_perm (fr1_perm 1 _) ?_
    exact post_all (vs := []) (.tuple #[]) trivial rfl (.inr rfl) (fun w hS => ⟨D1, hD2, rfl, hS⟩)

-- container/heap.Push
set_option maxRecDepth 100000 in
set_option maxHeartbeats 4000000 in
theorem container_heap_Push_s (b_h0 : Nat) (h0 : List S_road_reached) (h0_a : Option Addr) (h0_c : Nat) (x0 : S_road_reached) (D : PH)  (F : List Assert) (r : (List S_road_reached)) (hp : container_heap_Push_p h0 x0 = some r) : ∀ w : World, SInv D (pt b_h0 [.slice h0_a h0.length h0_c] 154 :: OwnS D encS_road_reached 152 (.slice h0_a h0.length h0_c) h0 :: F) w → Calls Try.prog 118 #[.iface 156 (.pointer (some ⟨b_h0, 0, none⟩)), .iface 152 (.agg #[.float .f32 x0.price, .int .i64 x0.k])] w (fun e w' => ∃ (D1 : PH) (q_a1 : Option Addr) (q_cp1 : Nat), PH.le D D1 ∧ e = .returned (.tuple #[]) ∧ SInv D1 (pt b_h0 [.slice q_a1 r.length q_cp1] 154 :: OwnS D1 encS_road_reached 152 (.slice q_a1 r.length q_cp1) r :: F) w') := by
  intro w hS
  refine call_intro Try.func118 rfl Try.ntmps118 (Nat.le_of_ble_eq_true rfl) hS ?_
  clear hS w
  unfold container_heap_Push_p at hp
  refine c_seq ?_
  obtain ⟨r1, hr1, hp⟩ := bnd_some hp
  refine c_region ?_
  refine l_s (.iface 156 (.pointer (some ⟨b_h0, 0, none⟩))) (by kernel_rfl) ?_
  refine l_s (.iface 152 (.agg #[.float .f32 x0.price, .int .i64 x0.k])) (by kernel_rfl) ?_
  refine l_ent rfl (ent_methP (vs := [.pointer (some ⟨b_h0, 0, none⟩), .iface 152 (.agg #[.float .f32 x0.price, .int .i64 x0.k])]) rfl (by kernel_rfl) Try.underlying156 Try.call165 rfl) (fun v D2 As2 => ∃ (a2 : Option Addr) (cp2 : Nat), PH.le D D2 ∧ v = .tuple #[] ∧ As2 = pt b_h0 [.slice a2 r1.length cp2] 154 :: OwnS D2 encS_road_reached 152 (.slice a2 r1.length cp2) r1 :: F) (fun w hS => (road_queue_Push_s b_h0 h0 h0_a h0_c x0 _  _ _ hr1 w (hS)).mono fun e w' ⟨D2, a2, cp2, hle2, he, hS2⟩ => ⟨_, D2, _, he, ⟨a2, cp2, hle2, rfl, rfl⟩, hS2⟩) ?_
  rintro _ D2 As2 ⟨a2, cp2, hle2, rfl, hA2⟩
  subst As2
  refine l_nil ?_
  refine e_then ?_
  obtain ⟨r2, hr2, hp⟩ := bnd_some hp
  obtain ⟨r3, hr3, hp⟩ := bnd_some hp
  refine c_region ?_
  refine l_s (.iface 156 (.pointer (some ⟨b_h0, 0, none⟩))) (by kernel_rfl) ?_
  refine l_s (.iface 156 (.pointer (some ⟨b_h0, 0, none⟩))) (by kernel_rfl) ?_
  refine l_entq (v := .int .i64 r2) rfl (ent_methD encV (vs := [.slice a2 r1.length cp2]) rfl (by kernel_rfl) Try.underlying156 Try.call161 fitv154 0 rfl (.slice a2 r1.length cp2) (Nat.le_of_ble_eq_true rfl) rfl rfl) (fun w hS => (calls_thaw (PH.le_refl _) (hS.perm (fr1_perm 1 _)) (fun D0' hLl0 hLr0 hS => (road_queue_Len_s r1 a2 cp2 _ hLr0 _ _ hr2 w (hS)).mono fun e w' h => ⟨h.1, h.2⟩)).mono fun e w' h => ⟨h.1, SInv.unfr 1 h.2⟩) ?_
  refine l_s (.int .i64 (subI r2 1)) (by kernel_rfl) ?_
  refine l_call rfl rfl Try.call138 (vs := [.iface 156 (.pointer (some ⟨b_h0, 0, none⟩)), .int .i64 (subI r2 1)]) rfl (fun v D4 As4 => PH.le D2 D4 ∧ v = .tuple #[] ∧ As4 = pt b_h0 [.slice a2 r1.length cp2] 154 :: OwnS D4 encS_road_reached 152 (.slice a2 r1.length cp2) r3 :: F) (fun w hS => (container_heap_up_s b_h0 r1 a2 cp2 (subI r2 1) _  _ _ hr3 w (hS)).mono fun e w' ⟨D4, hle4, he, hS2⟩ => ⟨_, D4, _, he, ⟨hle4, rfl, rfl⟩, hS2⟩) ?_
  rintro _ D4 As4 ⟨hle4, rfl, hA4⟩
  subst As4
  refine l_nil ?_
  obtain rfl := Option.some.inj hp
  refine e_perm (fr1_perm 1 _) ?_
  refine e_adr (fun b1 hb1 hl1 hbd1 hcap1 => ?_)
  refine e_perm (fr1_perm 1 _) ?_
  exact post_all (vs := []) (.tuple #[]) trivial rfl (.inr rfl) (fun w hS => ⟨D4, a2, cp2, (PH.le_trans hle2 hle4), (by simp only [hl1]), (by have h2 : SInv D4 (pt b_h0 [.slice a2 r1.length cp2] 154 :: OwnS D4 encS_road_reached 152 (.slice a2 r1.length cp2) r3 :: F) w := hS; simpa only [hl1] using h2)⟩)

end Go.Proofs.Ythibohbaaljnkaa
