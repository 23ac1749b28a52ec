/- Own text, by program: that the code computes the pure functions. -/
import Derived.Test.YtlngccfplnbeiaaGreatDoorFn1
namespace Go.Proofs.YtlngccfplnbeiaaGreatDoor
open Sx
set_option linter.all false
variable [WB] [GV Tryz.prog]

-- (tarnfell/road.ground).step
set_option maxRecDepth 100000 in
set_option maxHeartbeats 2000000 in
theorem road_ground_step_s (g0 : S_road_ground) (g0_v1a : Option Addr) (g0_v1c : Nat) (g0_v2a : Option Addr) (g0_v2c : Nat) (a0 : S_api_Point) (b0 : S_api_Point) (D : PH) (g0_h1 : RO (encF .f32) D (.slice g0_v1a g0.f.V.length g0_v1c) g0.f.V) (g0_h2 : RO encS_api_Field D (.slice g0_v2a g0.s.Costly.length g0_v2c) g0.s.Costly) (F : List Assert) (r : Nat × Bool) (hp : road_ground_step_p g0 a0 b0 = some r) : ∀ w : World, SInv D (F) w → Calls Tryz.prog 91 #[.agg #[.int .i64 g0.f.Region.X, .int .i64 g0.f.Region.Y, .int .i64 g0.f.Region.W, .int .i64 g0.f.Region.H, .slice g0_v1a g0.f.V.length g0_v1c, .float .f32 g0.s.Grade, .float .f32 g0.s.Weight, .float .f32 g0.s.Bridge, .float .f32 g0.s.Dear, .int .i64 g0.s.Span, .slice g0_v2a g0.s.Costly.length g0_v2c], .agg #[.int .i64 a0.X, .int .i64 a0.Y], .agg #[.int .i64 b0.X, .int .i64 b0.Y]] w (fun e w' => e = .returned (.tuple #[.float .f32 r.1, .bool r.2]) ∧ SInv D (F) w') := by
  intro w hS
  refine call_intro Tryz.func91 rfl Tryz.ntmps91 (Nat.le_of_ble_eq_true rfl) hS ?_
  clear hS w
  unfold road_ground_step_p at hp
  refine c_seq ?_
  refine c_region ?_
  refine l_box (cs := [.int .i64 g0.f.Region.X, .int .i64 g0.f.Region.Y, .int .i64 g0.f.Region.W, .int .i64 g0.f.Region.H, .slice g0_v1a g0.f.V.length g0_v1c, .float .f32 g0.s.Grade, .float .f32 g0.s.Weight, .float .f32 g0.s.Bridge, .float .f32 g0.s.Dear, .int .i64 g0.s.Span, .slice g0_v2a g0.s.Costly.length g0_v2c]) rfl rfl (fun b4 => ?_)
  refine l_box (cs := [.int .i64 a0.X, .int .i64 a0.Y]) rfl rfl (fun b5 => ?_)
  refine l_box (cs := [.int .i64 b0.X, .int .i64 b0.Y]) rfl rfl (fun b6 => ?_)
  refine l_s (.float .f32 0) (by kernel_rfl) ?_
  refine l_s (.bool false) (by kernel_rfl) ?_
  refine l_nil ?_
  refine e_then ?_
  refine c_seq ?_
  obtain ⟨r1, hr1, hp⟩ := bnd_some hp
  refine c_quiet ?_
  refine ql_q rfl (qs_ldpt (encW 2 (by decide)) fitv43 rfl 1 rfl (.agg #[.int .i64 a0.X, .int .i64 a0.Y]) (Nat.le_of_ble_eq_true rfl) rfl) ?_
  refine ql_q rfl (qs_ldpt (encW 2 (by decide)) fitv43 rfl 0 rfl (.agg #[.int .i64 b0.X, .int .i64 b0.Y]) (Nat.le_of_ble_eq_true rfl) rfl) ?_
  refine ql_call (v := .tuple #[.int .i64 r1.1, .int .i64 r1.2]) rfl (run_call (vs := [.agg #[.int .i64 a0.X, .int .i64 a0.Y], .agg #[.int .i64 b0.X, .int .i64 b0.Y]]) rfl Tryz.call28 rfl) (fun w hS => (road_Between_s a0 b0 _  _ _ hr1 w (hS)).mono fun e w' h => ⟨h.1, h.2⟩) ?_
  refine ql_s (.tuple #[.int .i64 r1.1, .int .i64 r1.2]) (by kernel_rfl) ?_
  refine ql_s (.int .i64 r1.1) (by kernel_rfl) ?_
  refine ql_s (.int .i64 r1.2) (by kernel_rfl) ?_
  refine ql_s (.int .i64 r1.1) (by kernel_rfl) ?_
  refine ql_s (.int .i64 r1.2) (by kernel_rfl) ?_
  refine ql_nil ?_
  refine e_drop ?_
  refine e_then ?_
  refine c_seq ?_
  refine c_seq ?_
  refine c_cutq_end [(3, .pointer (some ⟨b4, 0, none⟩)), (4, .pointer (some ⟨b5, 0, none⟩)), (8, .int .i64 r1.1), (9, .int .i64 r1.2), (35, .bool ((r1.1 == (-1)) || (decide (r1.2 > (maxI g0.s.Span 1)))))] ?_ ?_
  · skip
    refine c_quiet ?_
    refine ql_s (.int .i64 r1.1) (by kernel_rfl) ?_
    refine ql_s (.bool (r1.1 == (-1))) (by kernel_rfl) ?_
    refine ql_s (.bool (r1.1 == (-1))) (by kernel_rfl) ?_
    refine ql_case 28 ((r1.1 == (-1))) rfl (fun hg1 => ?_) (fun hg1 => ?_)
    · skip
      refine ql_s undef (by kernel_rfl) ?_
      refine ql_s undef (by kernel_rfl) ?_
      refine ql_s undef (by kernel_rfl) ?_
      refine ql_s undef (by kernel_rfl) ?_
      refine ql_s undef (by kernel_rfl) ?_
      refine ql_s undef (by kernel_rfl) ?_
      refine ql_s (.bool true) (by kernel_rfl) ?_
      refine ql_nil (e_cutq ?_)
      exact ⟨rfl, rfl, rfl, rfl, (congrArg Value.bool (by first | rfl | (rw [hg1]; rfl) | simp [hg1])), trivial⟩
    · skip
      refine ql_s (.int .i64 r1.2) (by kernel_rfl) ?_
      refine ql_s (.pointer (some ⟨b4, 5, none⟩)) (by kernel_rfl) ?_
      refine ql_s (.pointer (some ⟨b4, 9, none⟩)) (by kernel_rfl) ?_
      refine ql_q rfl (qs_ldpt encV fitv3 rfl 1 rfl (.int .i64 g0.s.Span) (Nat.le_of_ble_eq_true rfl) rfl) ?_
      refine ql_q rfl (qs_max rfl) ?_
      refine ql_s (.bool (decide (r1.2 > (maxI g0.s.Span 1)))) (by kernel_rfl) ?_
      refine ql_s (.bool (decide (r1.2 > (maxI g0.s.Span 1)))) (by kernel_rfl) ?_
      refine ql_nil (e_cutq ?_)
      exact ⟨rfl, rfl, rfl, rfl, (congrArg Value.bool (by first | rfl | (rw [hg1]; rfl) | simp [hg1])), trivial⟩
  intro _
  refine e_then ?_
  refine c_cond (((r1.1 == (-1)) || (decide (r1.2 > (maxI g0.s.Span 1))))) rfl (fun ht1 => ?_) (fun ht1 => ?_)
  · skip
    replace hp := if_t ht1 hp
    refine c_seq ?_
    refine c_quiet ?_
    refine ql_s (.float .f32 0) (by kernel_rfl) ?_
    refine ql_s (.bool false) (by kernel_rfl) ?_
    refine ql_nil ?_
    refine e_drop ?_
    refine e_drop ?_
    refine e_then ?_
    refine c_ret ?_
    refine e_then_ret ?_
    obtain rfl := Option.some.inj hp
    exact post_all (vs := [.float .f32 0, .bool false]) (.tuple #[.float .f32 0, .bool false]) ⟨rfl, rfl, trivial⟩ rfl (.inl rfl) (fun w hS => ⟨rfl, hS⟩)
  · skip
    replace hp := if_f ht1 hp
    refine c_skip ?_
    refine e_then ?_
    refine c_seq ?_
    obtain ⟨r2, hr2, hp⟩ := bnd_some hp
    refine c_quiet ?_
    refine ql_s (.pointer (some ⟨b4, 0, none⟩)) (by kernel_rfl) ?_
    refine ql_s (.pointer (some ⟨b4, 0, none⟩)) (by kernel_rfl) ?_
    refine ql_q rfl (qs_ldpt (encW 4 (by decide)) fitv59 rfl 1 rfl (.agg #[.int .i64 g0.f.Region.X, .int .i64 g0.f.Region.Y, .int .i64 g0.f.Region.W, .int .i64 g0.f.Region.H]) (Nat.le_of_ble_eq_true rfl) rfl) ?_
    refine ql_s (.pointer (some ⟨b5, 0, none⟩)) (by kernel_rfl) ?_
    refine ql_q rfl (qs_ldpt encV fitv3 rfl 0 rfl (.int .i64 a0.X) (Nat.le_of_ble_eq_true rfl) rfl) ?_
    refine ql_s (.pointer (some ⟨b5, 1, none⟩)) (by kernel_rfl) ?_
    refine ql_q rfl (qs_ldpt encV fitv3 rfl 0 rfl (.int .i64 a0.Y) (Nat.le_of_ble_eq_true rfl) rfl) ?_
    refine ql_call (v := .tuple #[.int .i64 r2.1, .bool r2.2]) rfl (run_call (vs := [.agg #[.int .i64 g0.f.Region.X, .int .i64 g0.f.Region.Y, .int .i64 g0.f.Region.W, .int .i64 g0.f.Region.H], .int .i64 a0.X, .int .i64 a0.Y]) rfl Tryz.call44 rfl) (fun w hS => (field_Place_s g0.f.Region a0.X a0.Y _  _ _ hr2 w (hS)).mono fun e w' h => ⟨h.1, h.2⟩) ?_
    refine ql_s (.tuple #[.int .i64 r2.1, .bool r2.2]) (by kernel_rfl) ?_
    refine ql_s (.int .i64 r2.1) (by kernel_rfl) ?_
    refine ql_s (.bool r2.2) (by kernel_rfl) ?_
    refine ql_s (.int .i64 r2.1) (by kernel_rfl) ?_
    refine ql_s (.bool r2.2) (by kernel_rfl) ?_
    refine ql_nil ?_
    refine e_drop ?_
    refine e_then ?_
    refine c_seq ?_
    refine c_quiet ?_
    refine ql_s (.float .f32 3380609024) (by kernel_rfl) ?_
    refine ql_nil ?_
    refine e_then ?_
    refine c_seq ?_
    refine c_seq ?_
    refine c_quiet ?_
    refine ql_s (.int .i64 1) (by kernel_rfl) ?_
    refine ql_nil ?_
    refine e_then ?_
    obtain ⟨x1, hs1, hp⟩ := bnd_some hp
    obtain ⟨body1, hbody1, hs1⟩ := loopP_gen hs1
    refine c_cut_end (fun φ1 D1 As1 => Is φ1 [(3, .pointer (some ⟨b4, 0, none⟩)), (8, .int .i64 r1.1), (9, .int .i64 r1.2), (10, .int .i64 r2.1), (12, .float .f32 x1)] ∧ PH.le D D1 ∧ As1 = pt b4 [.int .i64 g0.f.Region.X, .int .i64 g0.f.Region.Y, .int .i64 g0.f.Region.W, .int .i64 g0.f.Region.H, .slice g0_v1a g0.f.V.length g0_v1c, .float .f32 g0.s.Grade, .float .f32 g0.s.Weight, .float .f32 g0.s.Bridge, .float .f32 g0.s.Dear, .int .i64 g0.s.Span, .slice g0_v2a g0.s.Costly.length g0_v2c] 100 :: F) ?_ ?_
    · skip
      refine c_block ?_
      obtain ⟨kz1, hs1⟩ := loopP_ex hs1
      refine c_loop (fun k φ1 D2 As1 => ∃ (s1 : Nat × Int), Is φ1 [(3, .pointer (some ⟨b4, 0, none⟩)), (8, .int .i64 r1.1), (9, .int .i64 r1.2), (10, .int .i64 r2.1), (12, .float .f32 s1.1), (13, .int .i64 s1.2)] ∧ PH.le D D2 ∧ As1 = pt b4 [.int .i64 g0.f.Region.X, .int .i64 g0.f.Region.Y, .int .i64 g0.f.Region.W, .int .i64 g0.f.Region.H, .slice g0_v1a g0.f.V.length g0_v1c, .float .f32 g0.s.Grade, .float .f32 g0.s.Weight, .float .f32 g0.s.Bridge, .float .f32 g0.s.Dear, .int .i64 g0.s.Span, .slice g0_v2a g0.s.Costly.length g0_v2c] 100 :: F ∧ iter body1 k s1 = some x1) ⟨kz1, (3380609024, 1), ⟨rfl, rfl, rfl, rfl, rfl, rfl, trivial⟩, (PH.le_refl _), rfl, hs1⟩ ?_ ?_
      · rintro _ _ _ ⟨_, _, _, _, h0⟩; cases h0
      intro k1
      rintro φ1 D2 As1 ⟨s1, hI1, hD1, hA1, hs2⟩
      subst As1
      replace g0_h1 := g0_h1.mono hD1
      replace g0_h2 := g0_h2.mono hD1
      refine c_frame _ hI1 ?_
      obtain ⟨y1, hx1, hs2⟩ := iter_some hs2
      replace hx1 := (congrFun hbody1 s1).trans hx1
      refine c_seq ?_
      refine c_seq ?_
      refine c_quiet ?_
      refine ql_s (.int .i64 s1.2) (by kernel_rfl) ?_
      refine ql_s (.int .i64 r1.2) (by kernel_rfl) ?_
      refine ql_s (.bool (decide (s1.2 < r1.2))) (by kernel_rfl) ?_
      refine ql_nil ?_
      refine e_then ?_
      refine c_cond (decide (s1.2 < r1.2)) rfl (fun ht2 => ?_) (fun ht2 => ?_)
      · skip
        replace hx1 := if_t ht2 hx1
        refine c_skip ?_
        refine e_then ?_
        refine c_seq ?_
        refine c_block ?_
        refine c_seq ?_
        obtain ⟨r3, hr3, hx1⟩ := bnd_some hx1
        refine c_quiet ?_
        refine ql_q rfl (qs_ldpt (encW 11 (by decide)) fitv100 rfl 0 rfl (.agg #[.int .i64 g0.f.Region.X, .int .i64 g0.f.Region.Y, .int .i64 g0.f.Region.W, .int .i64 g0.f.Region.H, .slice g0_v1a g0.f.V.length g0_v1c, .float .f32 g0.s.Grade, .float .f32 g0.s.Weight, .float .f32 g0.s.Bridge, .float .f32 g0.s.Dear, .int .i64 g0.s.Span, .slice g0_v2a g0.s.Costly.length g0_v2c]) (Nat.le_of_ble_eq_true rfl) rfl) ?_
        refine ql_s (.int .i64 r2.1) (by kernel_rfl) ?_
        refine ql_s (.int .i64 r1.1) (by kernel_rfl) ?_
        refine ql_s (.int .i64 s1.2) (by kernel_rfl) ?_
        refine ql_call (v := .tuple #[.int .i64 r3.1, .bool r3.2]) rfl (run_call (vs := [.agg #[.int .i64 g0.f.Region.X, .int .i64 g0.f.Region.Y, .int .i64 g0.f.Region.W, .int .i64 g0.f.Region.H, .slice g0_v1a g0.f.V.length g0_v1c, .float .f32 g0.s.Grade, .float .f32 g0.s.Weight, .float .f32 g0.s.Bridge, .float .f32 g0.s.Dear, .int .i64 g0.s.Span, .slice g0_v2a g0.s.Costly.length g0_v2c], .int .i64 r2.1, .int .i64 r1.1, .int .i64 s1.2]) rfl Tryz.call90 rfl) (fun w hS => (road_ground_beside_s g0 g0_v1a g0_v1c g0_v2a g0_v2c r2.1 r1.1 s1.2 _ g0_h1 g0_h2 _ _ hr3 w (hS)).mono fun e w' h => ⟨h.1, h.2⟩) ?_
        refine ql_s (.tuple #[.int .i64 r3.1, .bool r3.2]) (by kernel_rfl) ?_
        refine ql_s (.int .i64 r3.1) (by kernel_rfl) ?_
        refine ql_s (.bool r3.2) (by kernel_rfl) ?_
        refine ql_s (.int .i64 r3.1) (by kernel_rfl) ?_
        refine ql_s (.bool r3.2) (by kernel_rfl) ?_
        refine ql_nil ?_
        refine e_then ?_
        obtain ⟨x2, hx2, hx1⟩ := bnd_some hx1
        obtain ⟨b7, o1, h1, hq1⟩ := RO.at g0_h1 hx2
        obtain ⟨r4, hr4, hx1⟩ := bnd_some hx1
        refine c_quiet ?_
        refine ql_s (.float .f32 s1.1) (by kernel_rfl) ?_
        refine ql_s (.pointer (some ⟨b4, 0, none⟩)) (by kernel_rfl) ?_
        refine ql_s (.pointer (some ⟨b4, 4, none⟩)) (by kernel_rfl) ?_
        refine ql_q rfl (qs_ldpt encV fitv38 rfl 0 rfl (.slice g0_v1a g0.f.V.length g0_v1c) (Nat.le_of_ble_eq_true rfl) rfl) ?_
        refine ql_s (.int .i64 r3.1) (by kernel_rfl) ?_
        refine ql_q rfl (qs_idx hq1 Tryz.underlying38 fit35 rfl rfl) ?_
        refine ql_q rfl (qs_ldAtV fit35 rfl h1 valF) ?_
        refine ql_q rfl (qs_maxF rfl rfl hr4) ?_
        refine ql_s (.float .f32 r4) (by kernel_rfl) ?_
        refine ql_nil ?_
        refine e_blk ?_
        refine e_then ?_
        refine c_quiet ?_
        refine ql_s (.int .i64 s1.2) (by kernel_rfl) ?_
        refine ql_s (.int .i64 (addI s1.2 1)) (by kernel_rfl) ?_
        refine ql_s (.int .i64 (addI s1.2 1)) (by kernel_rfl) ?_
        refine ql_nil ?_
        obtain rfl := Option.some.inj hx1
        exact e_cut ⟨(r4, addI s1.2 1), ⟨rfl, rfl, rfl, rfl, rfl, rfl, trivial⟩, hD1, rfl, hs2⟩
      · skip
        replace hx1 := if_f ht2 hx1
        refine c_exit ?_
        refine e_then_exit ?_
        refine e_then_exit ?_
        obtain rfl := Option.some.inj hx1
        obtain rfl := hs2
        refine e_blk_exit ?_
        exact e_cut ⟨⟨rfl, rfl, rfl, rfl, rfl, trivial⟩, hD1, rfl⟩
    · skip
      rintro φ2 D1 As2 ⟨hI2, hD2, hA2⟩
      subst As2
      replace g0_h1 := g0_h1.mono hD2
      replace g0_h2 := g0_h2.mono hD2
      refine e_frame _ hI2 ?_
      refine e_then ?_
      refine c_seq ?_
      obtain ⟨r5, hr5, hp⟩ := bnd_some hp
      refine c_quiet ?_
      refine ql_q rfl (qs_ldpt (encW 11 (by decide)) fitv100 rfl 0 rfl (.agg #[.int .i64 g0.f.Region.X, .int .i64 g0.f.Region.Y, .int .i64 g0.f.Region.W, .int .i64 g0.f.Region.H, .slice g0_v1a g0.f.V.length g0_v1c, .float .f32 g0.s.Grade, .float .f32 g0.s.Weight, .float .f32 g0.s.Bridge, .float .f32 g0.s.Dear, .int .i64 g0.s.Span, .slice g0_v2a g0.s.Costly.length g0_v2c]) (Nat.le_of_ble_eq_true rfl) rfl) ?_
      refine ql_s (.int .i64 r2.1) (by kernel_rfl) ?_
      refine ql_s (.int .i64 r1.1) (by kernel_rfl) ?_
      refine ql_s (.int .i64 r1.2) (by kernel_rfl) ?_
      refine ql_call (v := .tuple #[.int .i64 r5.1, .bool r5.2]) rfl (run_call (vs := [.agg #[.int .i64 g0.f.Region.X, .int .i64 g0.f.Region.Y, .int .i64 g0.f.Region.W, .int .i64 g0.f.Region.H, .slice g0_v1a g0.f.V.length g0_v1c, .float .f32 g0.s.Grade, .float .f32 g0.s.Weight, .float .f32 g0.s.Bridge, .float .f32 g0.s.Dear, .int .i64 g0.s.Span, .slice g0_v2a g0.s.Costly.length g0_v2c], .int .i64 r2.1, .int .i64 r1.1, .int .i64 r1.2]) rfl Tryz.call90 rfl) (fun w hS => (road_ground_beside_s g0 g0_v1a g0_v1c g0_v2a g0_v2c r2.1 r1.1 r1.2 _ g0_h1 g0_h2 _ _ hr5 w (hS)).mono fun e w' h => ⟨h.1, h.2⟩) ?_
      refine ql_s (.tuple #[.int .i64 r5.1, .bool r5.2]) (by kernel_rfl) ?_
      refine ql_s (.int .i64 r5.1) (by kernel_rfl) ?_
      refine ql_s (.bool r5.2) (by kernel_rfl) ?_
      refine ql_s (.int .i64 r5.1) (by kernel_rfl) ?_
      refine ql_s (.bool r5.2) (by kernel_rfl) ?_
      refine ql_nil ?_
      refine e_then ?_
      refine c_seq ?_
      obtain ⟨r6, hr6, hp⟩ := bnd_some hp
      refine c_quiet ?_
      refine ql_q rfl (qs_ldpt (encW 11 (by decide)) fitv100 rfl 0 rfl (.agg #[.int .i64 g0.f.Region.X, .int .i64 g0.f.Region.Y, .int .i64 g0.f.Region.W, .int .i64 g0.f.Region.H, .slice g0_v1a g0.f.V.length g0_v1c, .float .f32 g0.s.Grade, .float .f32 g0.s.Weight, .float .f32 g0.s.Bridge, .float .f32 g0.s.Dear, .int .i64 g0.s.Span, .slice g0_v2a g0.s.Costly.length g0_v2c]) (Nat.le_of_ble_eq_true rfl) rfl) ?_
      refine ql_s (.int .i64 r2.1) (by kernel_rfl) ?_
      refine ql_s (.int .i64 r5.1) (by kernel_rfl) ?_
      refine ql_s (.int .i64 r1.1) (by kernel_rfl) ?_
      refine ql_s (.int .i64 r1.2) (by kernel_rfl) ?_
      refine ql_s (.float .f32 x1) (by kernel_rfl) ?_
      refine ql_call (v := .tuple #[.float .f32 r6.1, .bool r6.2]) rfl (run_call (vs := [.agg #[.int .i64 g0.f.Region.X, .int .i64 g0.f.Region.Y, .int .i64 g0.f.Region.W, .int .i64 g0.f.Region.H, .slice g0_v1a g0.f.V.length g0_v1c, .float .f32 g0.s.Grade, .float .f32 g0.s.Weight, .float .f32 g0.s.Bridge, .float .f32 g0.s.Dear, .int .i64 g0.s.Span, .slice g0_v2a g0.s.Costly.length g0_v2c], .int .i64 r2.1, .int .i64 r5.1, .int .i64 r1.1, .int .i64 r1.2, .float .f32 x1]) rfl Tryz.call109 rfl) (fun w hS => (road_ground_cost_s g0 g0_v1a g0_v1c g0_v2a g0_v2c r2.1 r5.1 r1.1 r1.2 x1 _ g0_h1 g0_h2 _ _ hr6 w (hS)).mono fun e w' h => ⟨h.1, h.2⟩) ?_
      refine ql_s (.tuple #[.float .f32 r6.1, .bool r6.2]) (by kernel_rfl) ?_
      refine ql_s (.float .f32 r6.1) (by kernel_rfl) ?_
      refine ql_s (.bool r6.2) (by kernel_rfl) ?_
      refine ql_s (.float .f32 r6.1) (by kernel_rfl) ?_
      refine ql_s (.bool r6.2) (by kernel_rfl) ?_
      refine ql_nil ?_
      refine e_drop ?_
      refine e_then ?_
      refine c_seq ?_
      refine c_seq ?_
      refine c_quiet ?_
      refine ql_s (.bool r6.2) (by kernel_rfl) ?_
      refine ql_s (.bool (!r6.2)) (by kernel_rfl) ?_
      refine ql_nil ?_
      refine e_then ?_
      refine c_cond (!r6.2) rfl (fun ht3 => ?_) (fun ht3 => ?_)
      · skip
        replace hp := if_t ht3 hp
        refine c_seq ?_
        refine c_quiet ?_
        refine ql_s (.float .f32 0) (by kernel_rfl) ?_
        refine ql_s (.bool false) (by kernel_rfl) ?_
        refine ql_nil ?_
        refine e_then ?_
        refine c_ret ?_
        refine e_then_ret ?_
        obtain rfl := Option.some.inj hp
        exact post_all (vs := [.float .f32 0, .bool false]) (.tuple #[.float .f32 0, .bool false]) ⟨rfl, rfl, trivial⟩ rfl (.inl rfl) (fun w hS => ⟨rfl, (hS.lower hD2)⟩)
      · skip
        replace hp := if_f ht3 hp
        refine c_skip ?_
        refine e_then ?_
        refine c_seq ?_
        refine c_quiet ?_
        refine ql_s (.float .f32 r6.1) (by kernel_rfl) ?_
        refine ql_s (.float .f32 r6.1) (by kernel_rfl) ?_
        refine ql_s (.bool true) (by kernel_rfl) ?_
        refine ql_nil ?_
        refine e_then ?_
        refine c_ret ?_
        obtain rfl := Option.some.inj hp
        exact post_all (vs := [.float .f32 r6.1, .bool true]) (.tuple #[.float .f32 r6.1, .bool true]) ⟨rfl, rfl, trivial⟩ rfl (.inl rfl) (fun w hS => ⟨rfl, (hS.lower hD2)⟩)

-- (tarnfell/road.ground).before
set_option maxRecDepth 100000 in
set_option maxHeartbeats 2000000 in
theorem road_ground_before_s (g0 : S_road_ground) (g0_v1a : Option Addr) (g0_v1c : Nat) (g0_v2a : Option Addr) (g0_v2c : Nat) (p0 : S_road_prices) (p0_v1a : Option Addr) (p0_v1c : Nat) (p0_v2a : Option Addr) (p0_v2c : Nat) (hops0 : List Int) (hops0_v1a : Option Addr) (hops0_v1c : Nat) (k0 : Int) (D : PH) (g0_h1 : RO (encF .f32) D (.slice g0_v1a g0.f.V.length g0_v1c) g0.f.V) (g0_h2 : RO encS_api_Field D (.slice g0_v2a g0.s.Costly.length g0_v2c) g0.s.Costly) (p0_h1 : RO (encF .f32) D (.slice p0_v1a p0.price.length p0_v1c) p0.price) (p0_h2 : RO encB D (.slice p0_v2a p0.ok.length p0_v2c) p0.ok) (hops0_h1 : RO (encI .i64) D (.slice hops0_v1a hops0.length hops0_v1c) hops0) (F : List Assert) (r : Int) (hp : road_ground_before_p g0 p0 hops0 k0 = some r) : ∀ w : World, SInv D (F) w → Calls Tryz.prog 64 #[.agg #[.int .i64 g0.f.Region.X, .int .i64 g0.f.Region.Y, .int .i64 g0.f.Region.W, .int .i64 g0.f.Region.H, .slice g0_v1a g0.f.V.length g0_v1c, .float .f32 g0.s.Grade, .float .f32 g0.s.Weight, .float .f32 g0.s.Bridge, .float .f32 g0.s.Dear, .int .i64 g0.s.Span, .slice g0_v2a g0.s.Costly.length g0_v2c], .agg #[.int .i64 p0.from0, .slice p0_v1a p0.price.length p0_v1c, .slice p0_v2a p0.ok.length p0_v2c], .slice hops0_v1a hops0.length hops0_v1c, .int .i64 k0] w (fun e w' => e = .returned (.int .i64 r) ∧ SInv D (F) w') := by
  intro w hS
  refine call_intro Tryz.func64 rfl Tryz.ntmps64 (Nat.le_of_ble_eq_true rfl) hS ?_
  clear hS w
  unfold road_ground_before_p at hp
  refine c_seq ?_
  refine c_region ?_
  refine l_box (cs := [.int .i64 g0.f.Region.X, .int .i64 g0.f.Region.Y, .int .i64 g0.f.Region.W, .int .i64 g0.f.Region.H, .slice g0_v1a g0.f.V.length g0_v1c, .float .f32 g0.s.Grade, .float .f32 g0.s.Weight, .float .f32 g0.s.Bridge, .float .f32 g0.s.Dear, .int .i64 g0.s.Span, .slice g0_v2a g0.s.Costly.length g0_v2c]) rfl rfl (fun b3 => ?_)
  refine l_box (cs := [.int .i64 p0.from0, .slice p0_v1a p0.price.length p0_v1c, .slice p0_v2a p0.ok.length p0_v2c]) rfl rfl (fun b4 => ?_)
  refine l_s (.int .i64 0) (by kernel_rfl) ?_
  refine l_nil ?_
  refine e_then ?_
  refine c_seq ?_
  refine c_quiet ?_
  refine ql_s (.slice hops0_v1a hops0.length hops0_v1c) (by kernel_rfl) ?_
  refine ql_s (.int .i64 (hops0.length : Int)) (by kernel_rfl) ?_
  refine ql_s (.int .i64 (hops0.length : Int)) (by kernel_rfl) ?_
  refine ql_nil ?_
  refine e_then ?_
  refine c_seq ?_
  refine c_seq ?_
  refine c_quiet ?_
  refine ql_s (.int .i64 0) (by kernel_rfl) ?_
  refine ql_nil ?_
  refine e_then ?_
  have hm0 : (8 : Nat) = ((8 : Int)).toNat := rfl
  have hb0 : ((8 : Int)) ≤ 4611686018427387904 := by decide
  have hm1 := hm0; have hb1 := hb0; clear hm0 hb0
  obtain ⟨x1, hs1, hp⟩ := bnd_some hp
  obtain ⟨body1, hbody1, hs1⟩ := forS_gen hs1
  refine c_cut_end (fun φ1 D1 As1 => Is φ1 [(9, .int .i64 x1)] ∧ PH.le D D1 ∧ As1 = pt b4 [.int .i64 p0.from0, .slice p0_v1a p0.price.length p0_v1c, .slice p0_v2a p0.ok.length p0_v2c] 95 :: pt b3 [.int .i64 g0.f.Region.X, .int .i64 g0.f.Region.Y, .int .i64 g0.f.Region.W, .int .i64 g0.f.Region.H, .slice g0_v1a g0.f.V.length g0_v1c, .float .f32 g0.s.Grade, .float .f32 g0.s.Weight, .float .f32 g0.s.Bridge, .float .f32 g0.s.Dear, .int .i64 g0.s.Span, .slice g0_v2a g0.s.Costly.length g0_v2c] 100 :: F) ?_ ?_
  · skip
    refine c_block ?_
    refine c_perm (fr1_perm 1 _) ?_
    refine c_perm (fr1_perm 1 _) ?_
    refine c_loop (fun k φ1 D2 As1 => ∃ (j1 i1 : Nat) (s1 : Int), k = j1 + 1 ∧ i1 + j1 = 8 ∧ Is φ1 [(2, .slice hops0_v1a hops0.length hops0_v1c), (3, .int .i64 k0), (4, .pointer (some ⟨b3, 0, none⟩)), (5, .pointer (some ⟨b4, 0, none⟩)), (9, .int .i64 s1), (18, .int .i64 (i1 : Int))] ∧ PH.le D D2 ∧ As1 = pt b4 [.int .i64 p0.from0, .slice p0_v1a p0.price.length p0_v1c, .slice p0_v2a p0.ok.length p0_v2c] 95 :: pt b3 [.int .i64 g0.f.Region.X, .int .i64 g0.f.Region.Y, .int .i64 g0.f.Region.W, .int .i64 g0.f.Region.H, .slice g0_v1a g0.f.V.length g0_v1c, .float .f32 g0.s.Grade, .float .f32 g0.s.Weight, .float .f32 g0.s.Bridge, .float .f32 g0.s.Dear, .int .i64 g0.s.Span, .slice g0_v2a g0.s.Costly.length g0_v2c] 100 :: F ∧ forS body1 j1 i1 s1 = some x1) ⟨8 + 1, 8, 0, (hops0.length : Int), rfl, Nat.zero_add _, ⟨rfl, rfl, rfl, rfl, rfl, rfl, trivial⟩, (PH.le_refl _), rfl, hs1⟩ ?_ ?_
    · rintro _ _ _ ⟨_, _, _, h0, _⟩; omega
    intro k1
    rintro φ1 D2 As1 ⟨j1, i1, s1, hk1, hij1, hI1, hD1, hA1, hs2⟩
    subst As1
    replace hops0_h1 := hops0_h1.mono hD1
    replace g0_h1 := g0_h1.mono hD1
    replace g0_h2 := g0_h2.mono hD1
    replace p0_h1 := p0_h1.mono hD1
    replace p0_h2 := p0_h2.mono hD1
    refine c_frame _ hI1 ?_
    obtain rfl : k1 = j1 := by omega
    clear hk1
    rcases k1 with _ | j1
    · skip
      refine c_seq ?_
      refine c_quiet ?_
      refine ql_s (.bool (decide ((i1 : Int) < 8))) (by kernel_rfl) ?_
      refine ql_nil ?_
      refine e_then ?_
      refine c_seq ?_
      refine c_cond (decide ((i1 : Int) < 8)) rfl (fun ht1 => absurd ((dec_lt_f hm1 (by omega)).symm.trans ht1) (by simp)) (fun _ => ?_)
      refine c_exit ?_
      refine e_then_exit ?_
      refine e_then_exit ?_
      obtain rfl := Option.some.inj hs2
      refine e_blk_exit ?_
      refine e_perm (fr1_perm 1 _) ?_
      refine e_perm (fr1_perm 1 _) ?_
      exact e_cut ⟨⟨rfl, trivial⟩, hD1, rfl⟩
    · skip
      obtain ⟨y1, hx1, hs2⟩ := forS_some hs2
      replace hx1 := (congrFun (congrFun hbody1 i1) s1).trans hx1
      refine c_seq ?_
      refine c_quiet ?_
      refine ql_s (.bool (decide ((i1 : Int) < 8))) (by kernel_rfl) ?_
      refine ql_nil ?_
      refine e_then ?_
      refine c_seq ?_
      refine c_cond (decide ((i1 : Int) < 8)) rfl (fun _ => ?_) (fun ht2 => absurd ((dec_lt_t hm1 (by omega)).symm.trans ht2) (by simp))
      refine c_skip ?_
      refine e_then ?_
      refine c_seq ?_
      obtain ⟨s2, hs3, hx1⟩ := bnd_some hx1
      refine c_cut_end (fun φ1 D3 As1 => Is φ1 [(2, .slice hops0_v1a hops0.length hops0_v1c), (3, .int .i64 k0), (4, .pointer (some ⟨b3, 0, none⟩)), (5, .pointer (some ⟨b4, 0, none⟩)), (9, .int .i64 s2), (18, .int .i64 (i1 : Int))] ∧ PH.le D2 D3 ∧ As1 = pt b4 [.int .i64 p0.from0, .slice p0_v1a p0.price.length p0_v1c, .slice p0_v2a p0.ok.length p0_v2c] 95 :: pt b3 [.int .i64 g0.f.Region.X, .int .i64 g0.f.Region.Y, .int .i64 g0.f.Region.W, .int .i64 g0.f.Region.H, .slice g0_v1a g0.f.V.length g0_v1c, .float .f32 g0.s.Grade, .float .f32 g0.s.Weight, .float .f32 g0.s.Bridge, .float .f32 g0.s.Dear, .int .i64 g0.s.Span, .slice g0_v2a g0.s.Costly.length g0_v2c] 100 :: F) ?_ ?_
      · skip
        refine c_block ?_
        refine c_seq ?_
        refine c_quiet ?_
        refine ql_s (.int .i64 (i1 : Int)) (by kernel_rfl) ?_
        refine ql_s (.int .i64 (i1 : Int)) (by kernel_rfl) ?_
        refine ql_nil ?_
        refine e_then ?_
        refine c_seq ?_
        refine c_quiet ?_
        refine ql_s (.int .i64 1) (by kernel_rfl) ?_
        refine ql_nil ?_
        refine e_then ?_
        obtain ⟨x2, hs4, hs3⟩ := bnd_some hs3
        obtain ⟨body2, hbody2, hs4⟩ := loopP_gen hs4
        refine c_cut_end (fun φ1 D4 As1 => Is φ1 [(2, .slice hops0_v1a hops0.length hops0_v1c), (3, .int .i64 k0), (4, .pointer (some ⟨b3, 0, none⟩)), (5, .pointer (some ⟨b4, 0, none⟩)), (9, .int .i64 x2), (18, .int .i64 (i1 : Int))] ∧ PH.le D2 D4 ∧ As1 = pt b4 [.int .i64 p0.from0, .slice p0_v1a p0.price.length p0_v1c, .slice p0_v2a p0.ok.length p0_v2c] 95 :: pt b3 [.int .i64 g0.f.Region.X, .int .i64 g0.f.Region.Y, .int .i64 g0.f.Region.W, .int .i64 g0.f.Region.H, .slice g0_v1a g0.f.V.length g0_v1c, .float .f32 g0.s.Grade, .float .f32 g0.s.Weight, .float .f32 g0.s.Bridge, .float .f32 g0.s.Dear, .int .i64 g0.s.Span, .slice g0_v2a g0.s.Costly.length g0_v2c] 100 :: F) ?_ ?_
        · skip
          refine c_block ?_
          refine c_perm (fr1_perm 1 _) ?_
          refine c_perm (fr1_perm 1 _) ?_
          obtain ⟨kz1, hs4⟩ := loopP_ex hs4
          refine c_loop (fun k φ1 D5 As1 => ∃ (s3 : Int × Int), Is φ1 [(2, .slice hops0_v1a hops0.length hops0_v1c), (3, .int .i64 k0), (4, .pointer (some ⟨b3, 0, none⟩)), (5, .pointer (some ⟨b4, 0, none⟩)), (9, .int .i64 s3.1), (10, .int .i64 (i1 : Int)), (11, .int .i64 s3.2), (18, .int .i64 (i1 : Int))] ∧ PH.le D2 D5 ∧ As1 = pt b4 [.int .i64 p0.from0, .slice p0_v1a p0.price.length p0_v1c, .slice p0_v2a p0.ok.length p0_v2c] 95 :: pt b3 [.int .i64 g0.f.Region.X, .int .i64 g0.f.Region.Y, .int .i64 g0.f.Region.W, .int .i64 g0.f.Region.H, .slice g0_v1a g0.f.V.length g0_v1c, .float .f32 g0.s.Grade, .float .f32 g0.s.Weight, .float .f32 g0.s.Bridge, .float .f32 g0.s.Dear, .int .i64 g0.s.Span, .slice g0_v2a g0.s.Costly.length g0_v2c] 100 :: F ∧ iter body2 k s3 = some x2) ⟨kz1, (s1, 1), ⟨rfl, rfl, rfl, rfl, rfl, rfl, rfl, rfl, trivial⟩, (PH.le_refl _), rfl, hs4⟩ ?_ ?_
          · rintro _ _ _ ⟨_, _, _, _, h0⟩; cases h0
          intro k2
          rintro φ2 D5 As2 ⟨s3, hI2, hD2, hA2, hs5⟩
          subst As2
          replace hops0_h1 := hops0_h1.mono hD2
          replace g0_h1 := g0_h1.mono hD2
          replace g0_h2 := g0_h2.mono hD2
          replace p0_h1 := p0_h1.mono hD2
          replace p0_h2 := p0_h2.mono hD2
          refine c_frame _ hI2 ?_
          obtain ⟨y2, hx2, hs5⟩ := iter_some hs5
          replace hx2 := (congrFun hbody2 s3).trans hx2
          refine c_seq ?_
          refine c_seq ?_
          refine c_quiet ?_
          refine ql_s (.int .i64 s3.2) (by kernel_rfl) ?_
          refine ql_s (.pointer (some ⟨b3, 5, none⟩)) (by kernel_rfl) ?_
          refine ql_s (.pointer (some ⟨b3, 9, none⟩)) (by kernel_rfl) ?_
          refine ql_q rfl (qs_ldpt encV fitv3 rfl 1 rfl (.int .i64 g0.s.Span) (Nat.le_of_ble_eq_true rfl) rfl) ?_
          refine ql_q rfl (qs_max rfl) ?_
          refine ql_s (.bool (decide (s3.2 ≤ (maxI g0.s.Span 1)))) (by kernel_rfl) ?_
          refine ql_nil ?_
          refine e_then ?_
          refine c_cond (decide (s3.2 ≤ (maxI g0.s.Span 1))) rfl (fun ht3 => ?_) (fun ht3 => ?_)
          · skip
            replace hx2 := if_t ht3 hx2
            refine c_skip ?_
            refine e_then ?_
            refine c_seq ?_
            obtain ⟨x3, hs6, hx2⟩ := bnd_some hx2
            refine c_cut_end (fun φ1 D6 As1 => ∃ (s4 : Int), x3 = .go s4 ∧ Is φ1 [(2, .slice hops0_v1a hops0.length hops0_v1c), (3, .int .i64 k0), (4, .pointer (some ⟨b3, 0, none⟩)), (5, .pointer (some ⟨b4, 0, none⟩)), (9, .int .i64 s4), (10, .int .i64 (i1 : Int)), (11, .int .i64 s3.2), (18, .int .i64 (i1 : Int))] ∧ PH.le D5 D6 ∧ As1 = pt b4 [.int .i64 p0.from0, .slice p0_v1a p0.price.length p0_v1c, .slice p0_v2a p0.ok.length p0_v2c] 95 :: pt b3 [.int .i64 g0.f.Region.X, .int .i64 g0.f.Region.Y, .int .i64 g0.f.Region.W, .int .i64 g0.f.Region.H, .slice g0_v1a g0.f.V.length g0_v1c, .float .f32 g0.s.Grade, .float .f32 g0.s.Weight, .float .f32 g0.s.Bridge, .float .f32 g0.s.Dear, .int .i64 g0.s.Span, .slice g0_v2a g0.s.Costly.length g0_v2c] 100 :: F) ?_ ?_
            · skip
              refine c_block ?_
              refine c_seq ?_
              obtain ⟨r1, hr1, hs6⟩ := bnd_some hs6
              refine c_quiet ?_
              refine ql_q rfl (qs_ldpt (encW 11 (by decide)) fitv100 rfl 1 rfl (.agg #[.int .i64 g0.f.Region.X, .int .i64 g0.f.Region.Y, .int .i64 g0.f.Region.W, .int .i64 g0.f.Region.H, .slice g0_v1a g0.f.V.length g0_v1c, .float .f32 g0.s.Grade, .float .f32 g0.s.Weight, .float .f32 g0.s.Bridge, .float .f32 g0.s.Dear, .int .i64 g0.s.Span, .slice g0_v2a g0.s.Costly.length g0_v2c]) (Nat.le_of_ble_eq_true rfl) rfl) ?_
              refine ql_s (.int .i64 k0) (by kernel_rfl) ?_
              refine ql_s (.int .i64 (i1 : Int)) (by kernel_rfl) ?_
              refine ql_s (.int .i64 s3.2) (by kernel_rfl) ?_
              refine ql_call (v := .tuple #[.int .i64 r1.1, .bool r1.2]) rfl (run_call (vs := [.agg #[.int .i64 g0.f.Region.X, .int .i64 g0.f.Region.Y, .int .i64 g0.f.Region.W, .int .i64 g0.f.Region.H, .slice g0_v1a g0.f.V.length g0_v1c, .float .f32 g0.s.Grade, .float .f32 g0.s.Weight, .float .f32 g0.s.Bridge, .float .f32 g0.s.Dear, .int .i64 g0.s.Span, .slice g0_v2a g0.s.Costly.length g0_v2c], .int .i64 k0, .int .i64 (i1 : Int), .int .i64 s3.2]) rfl Tryz.call90 rfl) (fun w hS => (road_ground_beside_s g0 g0_v1a g0_v1c g0_v2a g0_v2c k0 (i1 : Int) s3.2 _ g0_h1 g0_h2 _ _ hr1 w (hS)).mono fun e w' h => ⟨h.1, h.2⟩) ?_
              refine ql_s (.tuple #[.int .i64 r1.1, .bool r1.2]) (by kernel_rfl) ?_
              refine ql_s (.int .i64 r1.1) (by kernel_rfl) ?_
              refine ql_s (.bool r1.2) (by kernel_rfl) ?_
              refine ql_s (.int .i64 r1.1) (by kernel_rfl) ?_
              refine ql_s (.bool r1.2) (by kernel_rfl) ?_
              refine ql_nil ?_
              refine e_then ?_
              refine c_seq ?_
              refine c_seq ?_
              refine c_quiet ?_
              refine ql_s (.bool r1.2) (by kernel_rfl) ?_
              refine ql_s (.bool (!r1.2)) (by kernel_rfl) ?_
              refine ql_nil ?_
              refine e_then ?_
              refine c_cond (!r1.2) rfl (fun ht4 => ?_) (fun ht4 => ?_)
              · skip
                replace hs6 := if_t ht4 hs6
                refine c_exit ?_
                refine e_then_exit ?_
                refine e_blk_other (by decide) ?_
                refine e_then_exit ?_
                obtain rfl := Option.some.inj hs6
                dsimp only at hx2
                refine e_then_exit ?_
                refine e_then_exit ?_
                obtain rfl := Option.some.inj hx2
                obtain rfl := hs5
                refine e_blk_exit ?_
                refine e_perm (fr1_perm 1 _) ?_
                refine e_perm (fr1_perm 1 _) ?_
                exact e_cut ⟨⟨rfl, rfl, rfl, rfl, rfl, rfl, trivial⟩, hD2, rfl⟩
              · skip
                replace hs6 := if_f ht4 hs6
                refine c_skip ?_
                refine e_then ?_
                refine c_seq ?_
                refine c_seq ?_
                obtain ⟨c1, hc1, hs6⟩ := bnd_some hs6
                refine c_cutq_end [(2, .slice hops0_v1a hops0.length hops0_v1c), (3, .int .i64 k0), (4, .pointer (some ⟨b3, 0, none⟩)), (5, .pointer (some ⟨b4, 0, none⟩)), (9, .int .i64 s3.1), (10, .int .i64 (i1 : Int)), (11, .int .i64 s3.2), (12, .int .i64 r1.1), (18, .int .i64 (i1 : Int)), (53, .bool c1)] ?_ ?_
                · skip
                  refine c_quiet_draw hmix (by kernel_rfl) ?_
                  refine ql_s (.int .i64 r1.1) (by kernel_rfl) ?_
                  refine ql_s (.int .i64 s3.1) (by kernel_rfl) ?_
                  refine ql_s (.bool (decide (r1.1 ≥ s3.1))) (by kernel_rfl) ?_
                  refine ql_s (.bool (decide (r1.1 ≥ s3.1))) (by kernel_rfl) ?_
                  refine ql_case 42 (decide (r1.1 ≥ s3.1)) rfl (fun hg1 => ?_) (fun hg1 => ?_)
                  · skip
                    replace hc1 := if_t hg1 hc1
                    refine ql_s undef (by kernel_rfl) ?_
                    refine ql_s undef (by kernel_rfl) ?_
                    refine ql_s undef (by kernel_rfl) ?_
                    refine ql_s undef (by kernel_rfl) ?_
                    refine ql_s undef (by kernel_rfl) ?_
                    refine ql_s undef (by kernel_rfl) ?_
                    refine ql_s undef (by kernel_rfl) ?_
                    refine ql_s undef (by kernel_rfl) ?_
                    refine ql_s undef (by kernel_rfl) ?_
                    refine ql_s undef (by kernel_rfl) ?_
                    refine ql_s (.bool true) (by kernel_rfl) ?_
                    refine ql_nil (e_cutq ?_)
                    obtain rfl := Option.some.inj hc1
                    exact ⟨rfl, rfl, rfl, rfl, rfl, rfl, rfl, rfl, rfl, rfl, trivial⟩
                  · skip
                    replace hc1 := if_f hg1 hc1
                    refine ql_s (.slice hops0_v1a hops0.length hops0_v1c) (by kernel_rfl) ?_
                    refine ql_s (.int .i64 r1.1) (by kernel_rfl) ?_
                    obtain ⟨x4, hx3, hc1⟩ := bnd_some hc1
                    obtain ⟨b5, o1, h1, hq1⟩ := RO.at hops0_h1 hx3
                    refine ql_q rfl (qs_idx hq1 Tryz.underlying32 fit3 rfl rfl) ?_
                    refine ql_q rfl (qs_ldAtV fit3 rfl h1 valI) ?_
                    refine ql_s (.slice hops0_v1a hops0.length hops0_v1c) (by kernel_rfl) ?_
                    refine ql_s (.int .i64 k0) (by kernel_rfl) ?_
                    obtain ⟨x5, hx4, hc1⟩ := bnd_some hc1
                    obtain ⟨b6, o2, h2, hq2⟩ := RO.at hops0_h1 hx4
                    refine ql_q rfl (qs_idx hq2 Tryz.underlying32 fit3 rfl rfl) ?_
                    refine ql_q rfl (qs_ldAtV fit3 rfl h2 valI) ?_
                    refine ql_s (.int .i64 (subI x5 1)) (by kernel_rfl) ?_
                    refine ql_s (.bool (x4 != (subI x5 1))) (by kernel_rfl) ?_
                    refine ql_s (.bool (x4 != (subI x5 1))) (by kernel_rfl) ?_
                    refine ql_nil (e_cutq ?_)
                    obtain rfl := Option.some.inj hc1
                    exact ⟨rfl, rfl, rfl, rfl, rfl, rfl, rfl, rfl, rfl, rfl, trivial⟩
                intro _
                refine e_then ?_
                refine c_cond (c1) rfl (fun ht5 => ?_) (fun ht5 => ?_)
                · skip
                  replace hs6 := if_t ht5 hs6
                  refine c_exit ?_
                  refine e_then_exit ?_
                  refine e_blk_exit ?_
                  refine e_perm (fr1_perm 1 _) ?_
                  refine e_perm (fr1_perm 1 _) ?_
                  obtain rfl := Option.some.inj hs6
                  exact e_cut ⟨s3.1, rfl, ⟨rfl, rfl, rfl, rfl, rfl, rfl, rfl, rfl, trivial⟩, (PH.le_refl _), rfl⟩
                · skip
                  replace hs6 := if_f ht5 hs6
                  refine c_skip ?_
                  refine e_then ?_
                  refine c_seq ?_
                  obtain ⟨r2, hr2, hs6⟩ := bnd_some hs6
                  obtain ⟨r3, hr3, hs6⟩ := bnd_some hs6
                  obtain ⟨r4, hr4, hs6⟩ := bnd_some hs6
                  refine c_quiet_draw hmix (by kernel_rfl) ?_
                  refine ql_q rfl (qs_ldpt (encW 11 (by decide)) fitv100 rfl 1 rfl (.agg #[.int .i64 g0.f.Region.X, .int .i64 g0.f.Region.Y, .int .i64 g0.f.Region.W, .int .i64 g0.f.Region.H, .slice g0_v1a g0.f.V.length g0_v1c, .float .f32 g0.s.Grade, .float .f32 g0.s.Weight, .float .f32 g0.s.Bridge, .float .f32 g0.s.Dear, .int .i64 g0.s.Span, .slice g0_v2a g0.s.Costly.length g0_v2c]) (Nat.le_of_ble_eq_true rfl) rfl) ?_
                  refine ql_q rfl (qs_ldpt (encW 11 (by decide)) fitv100 rfl 1 rfl (.agg #[.int .i64 g0.f.Region.X, .int .i64 g0.f.Region.Y, .int .i64 g0.f.Region.W, .int .i64 g0.f.Region.H, .slice g0_v1a g0.f.V.length g0_v1c, .float .f32 g0.s.Grade, .float .f32 g0.s.Weight, .float .f32 g0.s.Bridge, .float .f32 g0.s.Dear, .int .i64 g0.s.Span, .slice g0_v2a g0.s.Costly.length g0_v2c]) (Nat.le_of_ble_eq_true rfl) rfl) ?_
                  refine ql_s (.int .i64 r1.1) (by kernel_rfl) ?_
                  refine ql_call (v := .agg #[.int .i64 r2.X, .int .i64 r2.Y]) rfl (run_call (vs := [.agg #[.int .i64 g0.f.Region.X, .int .i64 g0.f.Region.Y, .int .i64 g0.f.Region.W, .int .i64 g0.f.Region.H, .slice g0_v1a g0.f.V.length g0_v1c, .float .f32 g0.s.Grade, .float .f32 g0.s.Weight, .float .f32 g0.s.Bridge, .float .f32 g0.s.Dear, .int .i64 g0.s.Span, .slice g0_v2a g0.s.Costly.length g0_v2c], .int .i64 r1.1]) rfl Tryz.call63 rfl) (fun w hS => (road_ground_point_s g0 g0_v1a g0_v1c g0_v2a g0_v2c r1.1 _ g0_h1 g0_h2 _ _ hr2 w (hS)).mono fun e w' h => ⟨h.1, h.2⟩) ?_
                  refine ql_q rfl (qs_ldpt (encW 11 (by decide)) fitv100 rfl 1 rfl (.agg #[.int .i64 g0.f.Region.X, .int .i64 g0.f.Region.Y, .int .i64 g0.f.Region.W, .int .i64 g0.f.Region.H, .slice g0_v1a g0.f.V.length g0_v1c, .float .f32 g0.s.Grade, .float .f32 g0.s.Weight, .float .f32 g0.s.Bridge, .float .f32 g0.s.Dear, .int .i64 g0.s.Span, .slice g0_v2a g0.s.Costly.length g0_v2c]) (Nat.le_of_ble_eq_true rfl) rfl) ?_
                  refine ql_s (.int .i64 k0) (by kernel_rfl) ?_
                  refine ql_call (v := .agg #[.int .i64 r3.X, .int .i64 r3.Y]) rfl (run_call (vs := [.agg #[.int .i64 g0.f.Region.X, .int .i64 g0.f.Region.Y, .int .i64 g0.f.Region.W, .int .i64 g0.f.Region.H, .slice g0_v1a g0.f.V.length g0_v1c, .float .f32 g0.s.Grade, .float .f32 g0.s.Weight, .float .f32 g0.s.Bridge, .float .f32 g0.s.Dear, .int .i64 g0.s.Span, .slice g0_v2a g0.s.Costly.length g0_v2c], .int .i64 k0]) rfl Tryz.call63 rfl) (fun w hS => (road_ground_point_s g0 g0_v1a g0_v1c g0_v2a g0_v2c k0 _ g0_h1 g0_h2 _ _ hr3 w (hS)).mono fun e w' h => ⟨h.1, h.2⟩) ?_
                  refine ql_call (v := .tuple #[.float .f32 r4.1, .bool r4.2]) rfl (run_call (vs := [.agg #[.int .i64 g0.f.Region.X, .int .i64 g0.f.Region.Y, .int .i64 g0.f.Region.W, .int .i64 g0.f.Region.H, .slice g0_v1a g0.f.V.length g0_v1c, .float .f32 g0.s.Grade, .float .f32 g0.s.Weight, .float .f32 g0.s.Bridge, .float .f32 g0.s.Dear, .int .i64 g0.s.Span, .slice g0_v2a g0.s.Costly.length g0_v2c], .agg #[.int .i64 r2.X, .int .i64 r2.Y], .agg #[.int .i64 r3.X, .int .i64 r3.Y]]) rfl Tryz.call91 rfl) (fun w hS => (road_ground_step_s g0 g0_v1a g0_v1c g0_v2a g0_v2c r2 r3 _ g0_h1 g0_h2 _ _ hr4 w (hS)).mono fun e w' h => ⟨h.1, h.2⟩) ?_
                  refine ql_s (.tuple #[.float .f32 r4.1, .bool r4.2]) (by kernel_rfl) ?_
                  refine ql_s (.float .f32 r4.1) (by kernel_rfl) ?_
                  refine ql_s (.bool r4.2) (by kernel_rfl) ?_
                  refine ql_s (.float .f32 r4.1) (by kernel_rfl) ?_
                  refine ql_s (.bool r4.2) (by kernel_rfl) ?_
                  refine ql_nil ?_
                  refine e_then ?_
                  refine c_seq ?_
                  obtain ⟨c2, hc2, hs6⟩ := bnd_some hs6
                  refine c_cutq_end [(2, .slice hops0_v1a hops0.length hops0_v1c), (3, .int .i64 k0), (4, .pointer (some ⟨b3, 0, none⟩)), (5, .pointer (some ⟨b4, 0, none⟩)), (9, .int .i64 s3.1), (10, .int .i64 (i1 : Int)), (11, .int .i64 s3.2), (12, .int .i64 r1.1), (18, .int .i64 (i1 : Int)), (80, .bool c2)] ?_ ?_
                  · skip
                    refine c_quiet_draw hmix (by kernel_rfl) ?_
                    refine ql_s (.bool r4.2) (by kernel_rfl) ?_
                    refine ql_s (.bool r4.2) (by kernel_rfl) ?_
                    refine ql_case 66 (r4.2) rfl (fun hg2 => ?_) (fun hg2 => ?_)
                    · skip
                      replace hc2 := if_t hg2 hc2
                      refine ql_s (.pointer (some ⟨b4, 1, none⟩)) (by kernel_rfl) ?_
                      refine ql_q rfl (qs_ldpt encV fitv38 rfl 0 rfl (.slice p0_v1a p0.price.length p0_v1c) (Nat.le_of_ble_eq_true rfl) rfl) ?_
                      refine ql_s (.int .i64 r1.1) (by kernel_rfl) ?_
                      obtain ⟨x6, hx5, hc2⟩ := bnd_some hc2
                      obtain ⟨b7, o3, h3, hq3⟩ := RO.at p0_h1 hx5
                      refine ql_q rfl (qs_idx hq3 Tryz.underlying38 fit35 rfl rfl) ?_
                      refine ql_q rfl (qs_ldAtV fit35 rfl h3 valF) ?_
                      refine ql_s (.float .f32 r4.1) (by kernel_rfl) ?_
                      obtain ⟨r5, hr5, hc2⟩ := bnd_some hc2
                      refine ql_q rfl (qs_fop hr5 rfl rfl) ?_
                      refine ql_s (.pointer (some ⟨b4, 1, none⟩)) (by kernel_rfl) ?_
                      refine ql_q rfl (qs_ldpt encV fitv38 rfl 0 rfl (.slice p0_v1a p0.price.length p0_v1c) (Nat.le_of_ble_eq_true rfl) rfl) ?_
                      refine ql_s (.int .i64 k0) (by kernel_rfl) ?_
                      obtain ⟨x7, hx6, hc2⟩ := bnd_some hc2
                      obtain ⟨b8, o4, h4, hq4⟩ := RO.at p0_h1 hx6
                      refine ql_q rfl (qs_idx hq4 Tryz.underlying38 fit35 rfl rfl) ?_
                      refine ql_q rfl (qs_ldAtV fit35 rfl h4 valF) ?_
                      refine ql_s (.bool (feq .f32 r5 x7)) (by kernel_rfl) ?_
                      refine ql_s (.bool (feq .f32 r5 x7)) (by kernel_rfl) ?_
                      refine ql_nil (e_cutq ?_)
                      obtain rfl := Option.some.inj hc2
                      exact ⟨rfl, rfl, rfl, rfl, rfl, rfl, rfl, rfl, rfl, rfl, trivial⟩
                    · skip
                      replace hc2 := if_f hg2 hc2
                      refine ql_s undef (by kernel_rfl) ?_
                      refine ql_s undef (by kernel_rfl) ?_
                      refine ql_s undef (by kernel_rfl) ?_
                      refine ql_s undef (by kernel_rfl) ?_
                      refine ql_s undef (by kernel_rfl) ?_
                      refine ql_s undef (by kernel_rfl) ?_
                      refine ql_s undef (by kernel_rfl) ?_
                      refine ql_s undef (by kernel_rfl) ?_
                      refine ql_s undef (by kernel_rfl) ?_
                      refine ql_s undef (by kernel_rfl) ?_
                      refine ql_s undef (by kernel_rfl) ?_
                      refine ql_s undef (by kernel_rfl) ?_
                      refine ql_s undef (by kernel_rfl) ?_
                      refine ql_s (.bool false) (by kernel_rfl) ?_
                      refine ql_nil (e_cutq ?_)
                      obtain rfl := Option.some.inj hc2
                      exact ⟨rfl, rfl, rfl, rfl, rfl, rfl, rfl, rfl, rfl, rfl, trivial⟩
                  intro _
                  refine e_then ?_
                  refine c_cond (c2) rfl (fun ht6 => ?_) (fun ht6 => ?_)
                  · skip
                    replace hs6 := if_t ht6 hs6
                    refine c_quiet ?_
                    refine ql_s (.int .i64 r1.1) (by kernel_rfl) ?_
                    refine ql_s (.int .i64 r1.1) (by kernel_rfl) ?_
                    refine ql_nil ?_
                    refine e_blk ?_
                    refine e_perm (fr1_perm 1 _) ?_
                    refine e_perm (fr1_perm 1 _) ?_
                    obtain rfl := Option.some.inj hs6
                    exact e_cut ⟨r1.1, rfl, ⟨rfl, rfl, rfl, rfl, rfl, rfl, rfl, rfl, trivial⟩, (PH.le_refl _), rfl⟩
                  · skip
                    replace hs6 := if_f ht6 hs6
                    refine c_skip ?_
                    refine e_blk ?_
                    refine e_perm (fr1_perm 1 _) ?_
                    refine e_perm (fr1_perm 1 _) ?_
                    obtain rfl := Option.some.inj hs6
                    exact e_cut ⟨s3.1, rfl, ⟨rfl, rfl, rfl, rfl, rfl, rfl, rfl, rfl, trivial⟩, (PH.le_refl _), rfl⟩
            · skip
              rintro φ3 D6 As3 ⟨s4, rfl, hI3, hD3, hA3⟩
              subst As3
              replace hops0_h1 := hops0_h1.mono hD3
              replace g0_h1 := g0_h1.mono hD3
              replace g0_h2 := g0_h2.mono hD3
              replace p0_h1 := p0_h1.mono hD3
              replace p0_h2 := p0_h2.mono hD3
              dsimp only at hx2
              refine e_frame _ hI3 ?_
              refine e_then ?_
              refine c_quiet ?_
              refine ql_s (.int .i64 s3.2) (by kernel_rfl) ?_
              refine ql_s (.int .i64 (addI s3.2 1)) (by kernel_rfl) ?_
              refine ql_s (.int .i64 (addI s3.2 1)) (by kernel_rfl) ?_
              refine ql_nil ?_
              refine e_perm (fr1_perm 1 _) ?_
              refine e_perm (fr1_perm 1 _) ?_
              obtain rfl := Option.some.inj hx2
              exact e_cut ⟨(s4, addI s3.2 1), ⟨rfl, rfl, rfl, rfl, rfl, rfl, rfl, rfl, trivial⟩, (PH.le_trans hD2 hD3), rfl, hs5⟩
          · skip
            replace hx2 := if_f ht3 hx2
            refine c_exit ?_
            refine e_then_exit ?_
            refine e_then_exit ?_
            obtain rfl := Option.some.inj hx2
            obtain rfl := hs5
            refine e_blk_exit ?_
            refine e_perm (fr1_perm 1 _) ?_
            refine e_perm (fr1_perm 1 _) ?_
            exact e_cut ⟨⟨rfl, rfl, rfl, rfl, rfl, rfl, trivial⟩, hD2, rfl⟩
        · skip
          rintro φ4 D4 As4 ⟨hI4, hD4, hA4⟩
          subst As4
          replace hops0_h1 := hops0_h1.mono hD4
          replace g0_h1 := g0_h1.mono hD4
          replace g0_h2 := g0_h2.mono hD4
          replace p0_h1 := p0_h1.mono hD4
          replace p0_h2 := p0_h2.mono hD4
          refine e_frame _ hI4 ?_
          refine e_blk ?_
          refine e_perm (fr1_perm 1 _) ?_
          refine e_perm (fr1_perm 1 _) ?_
          obtain rfl := Option.some.inj hs3
          exact e_cut ⟨⟨rfl, rfl, rfl, rfl, rfl, rfl, trivial⟩, hD4, rfl⟩
      · skip
        rintro φ5 D3 As5 ⟨hI5, hD5, hA5⟩
        subst As5
        replace hops0_h1 := hops0_h1.mono hD5
        replace g0_h1 := g0_h1.mono hD5
        replace g0_h2 := g0_h2.mono hD5
        replace p0_h1 := p0_h1.mono hD5
        replace p0_h2 := p0_h2.mono hD5
        refine e_frame _ hI5 ?_
        refine e_then ?_
        refine c_quiet ?_
        refine ql_s (.int .i64 (addI (i1 : Int) 1)) (by kernel_rfl) ?_
        refine ql_s (.int .i64 (addI (i1 : Int) 1)) (by kernel_rfl) ?_
        refine ql_nil ?_
        refine e_perm (fr1_perm 1 _) ?_
        refine e_perm (fr1_perm 1 _) ?_
        obtain rfl := Option.some.inj hx1
        exact e_cut ⟨j1, i1 + 1, s2, by omega, by omega, ⟨rfl, rfl, rfl, rfl, rfl, (congrArg (Value.int .i64) (addI_succ (by omega))), trivial⟩, (PH.le_trans hD1 hD5), rfl, hs2⟩
  · skip
    rintro φ6 D1 As6 ⟨hI6, hD6, hA6⟩
    subst As6
    replace g0_h1 := g0_h1.mono hD6
    replace g0_h2 := g0_h2.mono hD6
    replace p0_h1 := p0_h1.mono hD6
    replace p0_h2 := p0_h2.mono hD6
    refine e_frame _ hI6 ?_
    refine e_then ?_
    refine c_seq ?_
    refine c_quiet ?_
    refine ql_s (.int .i64 x1) (by kernel_rfl) ?_
    refine ql_s (.int .i64 x1) (by kernel_rfl) ?_
    refine ql_nil ?_
    refine e_drop ?_
    refine e_drop ?_
    refine e_then ?_
    refine c_ret ?_
    obtain rfl := Option.some.inj hp
    exact post_all (vs := [.int .i64 x1]) (.int .i64 x1) ⟨rfl, trivial⟩ rfl (.inl rfl) (fun w hS => ⟨rfl, (hS.lower hD6)⟩)

-- slices.Reverse[[]tarnfell/api.Point,tarnfell/api.Point]
set_option maxRecDepth 100000 in
set_option maxHeartbeats 2000000 in
theorem slices_Reverse_api_Point_api_Point_s (s0 : List S_api_Point) (s0_a : Option Addr) (s0_c : Nat) (D : PH)  (F : List Assert) (r : (List S_api_Point)) (hp : slices_Reverse_api_Point_api_Point_p s0 = some r) : ∀ w : World, SInv D (OwnS D encS_api_Point 43 (.slice s0_a s0.length s0_c) s0 :: F) w → Calls Tryz.prog 65 #[.slice s0_a s0.length s0_c] w (fun e w' => ∃ (D1 : PH) , PH.le D D1 ∧ e = .returned (.tuple #[]) ∧ SInv D1 (OwnS D1 encS_api_Point 43 (.slice s0_a s0.length s0_c) r :: F) w') := by
  intro w hS
  refine call_intro Tryz.func65 rfl Tryz.ntmps65 (Nat.le_of_ble_eq_true rfl) hS ?_
  clear hS w
  unfold slices_Reverse_api_Point_api_Point_p at hp
  refine c_seq ?_
  refine c_quiet ?_
  refine ql_s (.slice s0_a s0.length s0_c) (by kernel_rfl) ?_
  refine ql_s (.int .i64 (s0.length : Int)) (by kernel_rfl) ?_
  refine ql_s (.int .i64 (subI (s0.length : Int) 1)) (by kernel_rfl) ?_
  refine ql_s (.int .i64 0) (by kernel_rfl) ?_
  refine ql_s (.int .i64 (subI (s0.length : Int) 1)) (by kernel_rfl) ?_
  refine ql_nil ?_
  refine e_then ?_
  obtain ⟨x1, hs1, hp⟩ := bnd_some hp
  obtain ⟨body1, hbody1, hs1⟩ := loopP_gen hs1
  refine c_cut_end (fun φ1 D1 As1 => Is φ1 [] ∧ PH.le D D1 ∧ As1 = OwnS D1 encS_api_Point 43 (.slice s0_a s0.length s0_c) x1 :: F) ?_ ?_
  · skip
    refine c_block ?_
    obtain ⟨kz1, hs1⟩ := loopP_ex hs1
    refine c_loop (fun k φ1 D2 As1 => ∃ (s1 : Int × Int × (List S_api_Point)), Is φ1 [(0, .slice s0_a s0.length s0_c), (2, .int .i64 s1.1), (3, .int .i64 s1.2.1)] ∧ PH.le D D2 ∧ As1 = OwnS D2 encS_api_Point 43 (.slice s0_a s0.length s0_c) s1.2.2 :: F ∧ iter body1 k s1 = some x1) ⟨kz1, (0, subI (s0.length : Int) 1, s0), ⟨rfl, rfl, rfl, trivial⟩, (PH.le_refl _), rfl, hs1⟩ ?_ ?_
    · rintro _ _ _ ⟨_, _, _, _, h0⟩; cases h0
    intro k1
    rintro φ1 D2 As1 ⟨s1, hI1, hD1, hA1, hs2⟩
    subst As1
    refine c_frame _ hI1 ?_
    obtain ⟨y1, hx1, hs2⟩ := iter_some hs2
    replace hx1 := (congrFun hbody1 s1).trans hx1
    refine c_seq ?_
    refine c_seq ?_
    refine c_quiet ?_
    refine ql_s (.int .i64 s1.1) (by kernel_rfl) ?_
    refine ql_s (.int .i64 s1.2.1) (by kernel_rfl) ?_
    refine ql_s (.bool (decide (s1.1 < s1.2.1))) (by kernel_rfl) ?_
    refine ql_nil ?_
    refine e_then ?_
    refine c_cond (decide (s1.1 < s1.2.1)) rfl (fun ht1 => ?_) (fun ht1 => ?_)
    · skip
      replace hx1 := if_t ht1 hx1
      refine c_skip ?_
      refine e_then ?_
      refine c_seq ?_
      refine c_block ?_
      obtain ⟨x2, hx2, hx1⟩ := bnd_some hx1
      obtain ⟨x3, hx3, hx1⟩ := bnd_some hx1
      obtain ⟨l1, hl1, hx1⟩ := bnd_some hx1
      replace hl1 := Option.some.inj hl1
      obtain ⟨x4, hx4, hx1⟩ := bnd_some hx1
      obtain ⟨l2, hl2, hx1⟩ := bnd_some hx1
      replace hl2 := Option.some.inj hl2
      refine c_adr (fun b1 hb1 hl3 hbd1 hcap1 => ?_)
      refine c_cut_end (fun φ1 D1 As1 => Is φ1 [(0, .slice s0_a s0.length s0_c), (2, .int .i64 s1.1), (3, .int .i64 s1.2.1)] ∧ D2 = D1 ∧ As1 = OwnS D2 encS_api_Point 43 (.slice s0_a s0.length s0_c) l2 :: F) ?_ ?_
      · skip
        refine c_order (B := []) (.q 0 (.q 1 (.q 2 (.q 3 (.q 4 (.q 5 (.q 6 (.q 8 (.q 9 (.q 10 (.f 7 (.e 11 (.q 12 (.e 13 (.q 14 (.e 15 .nil))))) (.e 11 (.e 7 (.q 12 (.e 13 (.q 14 (.e 15 .nil))))))))))))))))) hmix (by kernel_rfl) (NoPanic.then (NoPanic.blk (NoPanic.then (NoPanic.then (NoPanic.blk (NoPanic.then NoPanic.post)))))) ?_
        refine o_s (.slice s0_a s0.length s0_c) rfl (by kernel_rfl) ?_
        refine o_s (.int .i64 s1.1) rfl (by kernel_rfl) ?_
        refine o_s (.slice s0_a s0.length s0_c) rfl (by kernel_rfl) ?_
        refine o_s (.int .i64 s1.2.1) rfl (by kernel_rfl) ?_
        refine o_s (.slice s0_a s0.length s0_c) rfl (by kernel_rfl) ?_
        refine o_s (.int .i64 s1.2.1) rfl (by kernel_rfl) ?_
        refine o_qs rfl rfl (qs_idx (IsIdx.beg (e := encS_api_Point) hb1 hl3 hx2) Tryz.underlying22 fit43 rfl rfl) ?_
        refine o_s (.slice s0_a s0.length s0_c) rfl (by kernel_rfl) ?_
        refine o_s (.int .i64 s1.1) rfl (by kernel_rfl) ?_
        refine o_qs rfl rfl (qs_idx (IsIdx.beg (e := encS_api_Point) hb1 hl3 hx3) Tryz.underlying22 fit43 rfl rfl) ?_
        refine o_f ?_ ?_
        · skip
          refine o_qe rfl rfl (PH.le_refl _) (qs_ldS fit43 hb1 rfl rfl 0 rfl (idx_some hx2).2.2 (v := .agg #[.int .i64 x2.X, .int .i64 x2.Y]) (fun cs hcs => by rw [show cs = _ from hcs]; rfl)) ?_
          refine o_qe rfl rfl (PH.le_refl _) (qs_ldS fit43 hb1 rfl rfl 0 rfl (idx_some hx3).2.2 (v := .agg #[.int .i64 x3.X, .int .i64 x3.Y]) (fun cs hcs => by rw [show cs = _ from hcs]; rfl)) ?_
          refine o_qs rfl rfl (qs_idx (IsIdx.beg (e := encS_api_Point) hb1 hl3 hx3) Tryz.underlying22 fit43 rfl rfl) ?_
          refine o_stS (vs := [.int .i64 x2.X, .int .i64 x2.Y]) hb1 hl3 hl1 rfl rfl (PH.le_refl _) fit43 rfl rfl rfl rfl (idx_some hx3).2.1 ?_
          refine o_qs rfl rfl (qs_idx (IsIdx.beg (e := encS_api_Point) (Beg.set hl1 hb1) (len_set hl1 hl3) hx4) Tryz.underlying22 fit43 rfl rfl) ?_
          refine o_stS (vs := [.int .i64 x3.X, .int .i64 x3.Y]) (Beg.set hl1 hb1) (len_set hl1 hl3) hl2 rfl rfl (PH.le_refl _) fit43 rfl rfl rfl rfl (idx_some hx4).2.1 ?_
          refine o_nil ?_
          exact e_cut ⟨⟨rfl, rfl, rfl, trivial⟩, rfl, rfl⟩
        refine o_qe rfl rfl (PH.le_refl _) (qs_ldS fit43 hb1 rfl rfl 0 rfl (idx_some hx3).2.2 (v := .agg #[.int .i64 x3.X, .int .i64 x3.Y]) (fun cs hcs => by rw [show cs = _ from hcs]; rfl)) ?_
        refine o_qe rfl rfl (PH.le_refl _) (qs_ldS fit43 hb1 rfl rfl 0 rfl (idx_some hx2).2.2 (v := .agg #[.int .i64 x2.X, .int .i64 x2.Y]) (fun cs hcs => by rw [show cs = _ from hcs]; rfl)) ?_
        refine o_qs rfl rfl (qs_idx (IsIdx.beg (e := encS_api_Point) hb1 hl3 hx3) Tryz.underlying22 fit43 rfl rfl) ?_
        refine o_stS (vs := [.int .i64 x2.X, .int .i64 x2.Y]) hb1 hl3 hl1 rfl rfl (PH.le_refl _) fit43 rfl rfl rfl rfl (idx_some hx3).2.1 ?_
        refine o_qs rfl rfl (qs_idx (IsIdx.beg (e := encS_api_Point) (Beg.set hl1 hb1) (len_set hl1 hl3) hx4) Tryz.underlying22 fit43 rfl rfl) ?_
        refine o_stS (vs := [.int .i64 x3.X, .int .i64 x3.Y]) (Beg.set hl1 hb1) (len_set hl1 hl3) hl2 rfl rfl (PH.le_refl _) fit43 rfl rfl rfl rfl (idx_some hx4).2.1 ?_
        refine o_nil ?_
        exact e_cut ⟨⟨rfl, rfl, rfl, trivial⟩, rfl, rfl⟩
      · skip
        rintro φ2 _ As2 ⟨hI2, rfl, hA⟩
        subst As2
        refine e_frame _ hI2 ?_
        refine e_blk ?_
        refine e_then ?_
        refine c_quiet ?_
        refine ql_s (.int .i64 s1.1) (by kernel_rfl) ?_
        refine ql_s (.int .i64 (addI s1.1 1)) (by kernel_rfl) ?_
        refine ql_s (.int .i64 s1.2.1) (by kernel_rfl) ?_
        refine ql_s (.int .i64 (subI s1.2.1 1)) (by kernel_rfl) ?_
        refine ql_s (.int .i64 (addI s1.1 1)) (by kernel_rfl) ?_
        refine ql_s (.int .i64 (subI s1.2.1 1)) (by kernel_rfl) ?_
        refine ql_nil ?_
        obtain rfl := Option.some.inj hx1
        exact e_cut ⟨(addI s1.1 1, subI s1.2.1 1, l2), ⟨rfl, rfl, rfl, trivial⟩, hD1, rfl, hs2⟩
    · skip
      replace hx1 := if_f ht1 hx1
      refine c_exit ?_
      refine e_then_exit ?_
      refine e_then_exit ?_
      obtain rfl := Option.some.inj hx1
      obtain rfl := hs2
      refine e_blk_exit ?_
      exact e_cut ⟨trivial, hD1, rfl⟩
  · skip
    rintro φ3 D1 As3 ⟨hI3, hD2, hA2⟩
    subst As3
    refine e_frame _ hI3 ?_
    obtain rfl := Option.some.inj hp
    exact post_all (vs := []) (.tuple #[]) trivial rfl (.inr rfl) (fun w hS => ⟨D1, hD2, rfl, hS⟩)

-- (tarnfell/road.ground).way
set_option maxRecDepth 100000 in
set_option maxHeartbeats 2000000 in
theorem road_ground_way_s (g0 : S_road_ground) (g0_v1a : Option Addr) (g0_v1c : Nat) (g0_v2a : Option Addr) (g0_v2c : Nat) (p0 : S_road_prices) (p0_v1a : Option Addr) (p0_v1c : Nat) (p0_v2a : Option Addr) (p0_v2c : Nat) (to0 : Int) (D : PH) (g0_h1 : RO (encF .f32) D (.slice g0_v1a g0.f.V.length g0_v1c) g0.f.V) (g0_h2 : RO encS_api_Field D (.slice g0_v2a g0.s.Costly.length g0_v2c) g0.s.Costly) (p0_h1 : RO (encF .f32) D (.slice p0_v1a p0.price.length p0_v1c) p0.price) (p0_h2 : RO encB D (.slice p0_v2a p0.ok.length p0_v2c) p0.ok) (F : List Assert) (r : (List S_api_Point)) (hp : road_ground_way_p g0 p0 to0 = some r) : ∀ w : World, SInv D (F) w → Calls Tryz.prog 45 #[.agg #[.int .i64 g0.f.Region.X, .int .i64 g0.f.Region.Y, .int .i64 g0.f.Region.W, .int .i64 g0.f.Region.H, .slice g0_v1a g0.f.V.length g0_v1c, .float .f32 g0.s.Grade, .float .f32 g0.s.Weight, .float .f32 g0.s.Bridge, .float .f32 g0.s.Dear, .int .i64 g0.s.Span, .slice g0_v2a g0.s.Costly.length g0_v2c], .agg #[.int .i64 p0.from0, .slice p0_v1a p0.price.length p0_v1c, .slice p0_v2a p0.ok.length p0_v2c], .int .i64 to0] w (fun e w' => ∃ (D1 : PH) (q_a1 : Option Addr) (q_cp1 : Nat), PH.le D D1 ∧ e = .returned (.slice q_a1 r.length q_cp1) ∧ RO encS_api_Point D1 (.slice q_a1 r.length q_cp1) r ∧ SInv D1 (F) w') := by
  intro w hS
  refine call_intro Tryz.func45 rfl Tryz.ntmps45 (Nat.le_of_ble_eq_true rfl) hS ?_
  clear hS w
  unfold road_ground_way_p at hp
  refine c_seq ?_
  refine c_region ?_
  refine l_box (cs := [.int .i64 g0.f.Region.X, .int .i64 g0.f.Region.Y, .int .i64 g0.f.Region.W, .int .i64 g0.f.Region.H, .slice g0_v1a g0.f.V.length g0_v1c, .float .f32 g0.s.Grade, .float .f32 g0.s.Weight, .float .f32 g0.s.Bridge, .float .f32 g0.s.Dear, .int .i64 g0.s.Span, .slice g0_v2a g0.s.Costly.length g0_v2c]) rfl rfl (fun b3 => ?_)
  refine l_box (cs := [.int .i64 p0.from0, .slice p0_v1a p0.price.length p0_v1c, .slice p0_v2a p0.ok.length p0_v2c]) rfl rfl (fun b4 => ?_)
  refine l_s (.slice none 0 0) (by kernel_rfl) ?_
  refine l_nil ?_
  refine e_then ?_
  refine c_seq ?_
  obtain ⟨r1, hr1, hp⟩ := bnd_some hp
  refine c_region ?_
  refine l_q rfl (qs_ldpt (encW 11 (by decide)) fitv100 rfl 1 rfl (.agg #[.int .i64 g0.f.Region.X, .int .i64 g0.f.Region.Y, .int .i64 g0.f.Region.W, .int .i64 g0.f.Region.H, .slice g0_v1a g0.f.V.length g0_v1c, .float .f32 g0.s.Grade, .float .f32 g0.s.Weight, .float .f32 g0.s.Bridge, .float .f32 g0.s.Dear, .int .i64 g0.s.Span, .slice g0_v2a g0.s.Costly.length g0_v2c]) (Nat.le_of_ble_eq_true rfl) rfl) ?_
  refine l_q rfl (qs_ldpt (encW 3 (by decide)) fitv95 rfl 0 rfl (.agg #[.int .i64 p0.from0, .slice p0_v1a p0.price.length p0_v1c, .slice p0_v2a p0.ok.length p0_v2c]) (Nat.le_of_ble_eq_true rfl) rfl) ?_
  refine l_call rfl rfl Tryz.call62 (vs := [.agg #[.int .i64 g0.f.Region.X, .int .i64 g0.f.Region.Y, .int .i64 g0.f.Region.W, .int .i64 g0.f.Region.H, .slice g0_v1a g0.f.V.length g0_v1c, .float .f32 g0.s.Grade, .float .f32 g0.s.Weight, .float .f32 g0.s.Bridge, .float .f32 g0.s.Dear, .int .i64 g0.s.Span, .slice g0_v2a g0.s.Costly.length g0_v2c], .agg #[.int .i64 p0.from0, .slice p0_v1a p0.price.length p0_v1c, .slice p0_v2a p0.ok.length p0_v2c]]) rfl (fun v D2 As2 => ∃ (a2 : Option Addr) (cp2 : Nat), PH.le D D2 ∧ v = .slice a2 r1.length cp2 ∧ RO (encI .i64) D2 (.slice a2 r1.length cp2) r1 ∧ As2 = pt b4 [.int .i64 p0.from0, .slice p0_v1a p0.price.length p0_v1c, .slice p0_v2a p0.ok.length p0_v2c] 95 :: pt b3 [.int .i64 g0.f.Region.X, .int .i64 g0.f.Region.Y, .int .i64 g0.f.Region.W, .int .i64 g0.f.Region.H, .slice g0_v1a g0.f.V.length g0_v1c, .float .f32 g0.s.Grade, .float .f32 g0.s.Weight, .float .f32 g0.s.Bridge, .float .f32 g0.s.Dear, .int .i64 g0.s.Span, .slice g0_v2a g0.s.Costly.length g0_v2c] 100 :: F) (fun w hS => (road_ground_hops_s g0 g0_v1a g0_v1c g0_v2a g0_v2c p0 p0_v1a p0_v1c p0_v2a p0_v2c _ g0_h1 g0_h2 p0_h1 p0_h2 _ _ hr1 w (hS)).mono fun e w' ⟨D2, a2, cp2, hle2, he, h2, hS2⟩ => ⟨_, D2, _, he, ⟨a2, cp2, hle2, rfl, h2, rfl⟩, hS2⟩) ?_
  rintro _ D2 As2 ⟨a2, cp2, hle2, rfl, h2, hA2⟩
  subst As2
  replace g0_h1 := g0_h1.mono hle2
  replace g0_h2 := g0_h2.mono hle2
  replace p0_h1 := p0_h1.mono hle2
  replace p0_h2 := p0_h2.mono hle2
  refine l_s (.slice a2 r1.length cp2) (by kernel_rfl) ?_
  refine l_nil ?_
  refine e_then ?_
  refine c_seq ?_
  obtain ⟨r2, hr2, hp⟩ := bnd_some hp
  refine c_region ?_
  refine l_q rfl (qs_ldpt (encW 11 (by decide)) fitv100 rfl 1 rfl (.agg #[.int .i64 g0.f.Region.X, .int .i64 g0.f.Region.Y, .int .i64 g0.f.Region.W, .int .i64 g0.f.Region.H, .slice g0_v1a g0.f.V.length g0_v1c, .float .f32 g0.s.Grade, .float .f32 g0.s.Weight, .float .f32 g0.s.Bridge, .float .f32 g0.s.Dear, .int .i64 g0.s.Span, .slice g0_v2a g0.s.Costly.length g0_v2c]) (Nat.le_of_ble_eq_true rfl) rfl) ?_
  refine l_s (.int .i64 to0) (by kernel_rfl) ?_
  refine l_callq (v := .agg #[.int .i64 r2.X, .int .i64 r2.Y]) rfl rfl Tryz.call63 (vs := [.agg #[.int .i64 g0.f.Region.X, .int .i64 g0.f.Region.Y, .int .i64 g0.f.Region.W, .int .i64 g0.f.Region.H, .slice g0_v1a g0.f.V.length g0_v1c, .float .f32 g0.s.Grade, .float .f32 g0.s.Weight, .float .f32 g0.s.Bridge, .float .f32 g0.s.Dear, .int .i64 g0.s.Span, .slice g0_v2a g0.s.Costly.length g0_v2c], .int .i64 to0]) rfl (fun w hS => (road_ground_point_s g0 g0_v1a g0_v1c g0_v2a g0_v2c to0 _ g0_h1 g0_h2 _ _ hr2 w (hS)).mono fun e w' h => ⟨h.1, h.2⟩) ?_
  refine l_bslS (cs := [.int .i64 r2.X, .int .i64 r2.Y]) (E := 43) (e := encS_api_Point) ([r2] : List S_api_Point) rfl (by kernel_rfl) rfl rfl (Nat.le_of_ble_eq_true rfl) ⟨rfl, trivial⟩ (fun b6 cp4 => ?_)
  refine l_s (.slice (some ⟨b6, 0, none⟩) (([r2] : List S_api_Point).length) cp4) (by kernel_rfl) ?_
  refine l_nil ?_
  refine e_then ?_
  refine c_seq ?_
  refine c_seq ?_
  refine c_quiet ?_
  refine ql_s (.int .i64 to0) (by kernel_rfl) ?_
  refine ql_s (.int .i64 to0) (by kernel_rfl) ?_
  refine ql_nil ?_
  refine e_then ?_
  obtain ⟨x1, hs1, hp⟩ := bnd_some hp
  obtain ⟨body1, hbody1, hs1⟩ := loopP_gen hs1
  refine c_cut_end (fun φ1 D3 As1 => ∃ (a3 : Option Addr) (cp5 : Nat), Is φ1 [(8, .slice a3 x1.length cp5)] ∧ PH.le D2 D3 ∧ As1 = OwnS D3 encS_api_Point 43 (.slice a3 x1.length cp5) x1 :: pt b4 [.int .i64 p0.from0, .slice p0_v1a p0.price.length p0_v1c, .slice p0_v2a p0.ok.length p0_v2c] 95 :: pt b3 [.int .i64 g0.f.Region.X, .int .i64 g0.f.Region.Y, .int .i64 g0.f.Region.W, .int .i64 g0.f.Region.H, .slice g0_v1a g0.f.V.length g0_v1c, .float .f32 g0.s.Grade, .float .f32 g0.s.Weight, .float .f32 g0.s.Bridge, .float .f32 g0.s.Dear, .int .i64 g0.s.Span, .slice g0_v2a g0.s.Costly.length g0_v2c] 100 :: F) ?_ ?_
  · skip
    refine c_block ?_
    refine c_perm (fr1_perm 2 _) ?_
    refine c_perm (fr1_perm 2 _) ?_
    refine c_perm (fr1_perm 2 _) ?_
    obtain ⟨kz1, hs1⟩ := loopP_ex hs1
    refine c_loop (fun k φ1 D4 As1 => ∃ (s1 : Int × (List S_api_Point)) (a4 : Option Addr) (cp6 : Nat), Is φ1 [(3, .pointer (some ⟨b3, 0, none⟩)), (4, .pointer (some ⟨b4, 0, none⟩)), (7, .slice a2 r1.length cp2), (8, .slice a4 s1.2.length cp6), (9, .int .i64 s1.1)] ∧ PH.le D2 D4 ∧ As1 = OwnS D4 encS_api_Point 43 (.slice a4 s1.2.length cp6) s1.2 :: pt b4 [.int .i64 p0.from0, .slice p0_v1a p0.price.length p0_v1c, .slice p0_v2a p0.ok.length p0_v2c] 95 :: pt b3 [.int .i64 g0.f.Region.X, .int .i64 g0.f.Region.Y, .int .i64 g0.f.Region.W, .int .i64 g0.f.Region.H, .slice g0_v1a g0.f.V.length g0_v1c, .float .f32 g0.s.Grade, .float .f32 g0.s.Weight, .float .f32 g0.s.Bridge, .float .f32 g0.s.Dear, .int .i64 g0.s.Span, .slice g0_v2a g0.s.Costly.length g0_v2c] 100 :: F ∧ iter body1 k s1 = some x1) ⟨kz1, (to0, ([r2] : List S_api_Point)), some ⟨b6, 0, none⟩, cp4, ⟨rfl, rfl, rfl, rfl, rfl, trivial⟩, (PH.le_refl _), rfl, hs1⟩ ?_ ?_
    · rintro _ _ _ ⟨_, _, _, _, _, _, h0⟩; cases h0
    intro k1
    rintro φ1 D4 As3 ⟨s1, a4, cp6, hI1, hD1, hA3, hs2⟩
    subst As3
    replace h2 := h2.mono hD1
    replace g0_h1 := g0_h1.mono hD1
    replace g0_h2 := g0_h2.mono hD1
    replace p0_h1 := p0_h1.mono hD1
    replace p0_h2 := p0_h2.mono hD1
    refine c_frame _ hI1 ?_
    obtain ⟨y1, hx1, hs2⟩ := iter_some hs2
    replace hx1 := (congrFun hbody1 s1).trans hx1
    refine c_seq ?_
    refine c_seq ?_
    obtain ⟨x2, hx2, hx1⟩ := bnd_some hx1
    obtain ⟨b7, o1, h3, hq1⟩ := RO.at h2 hx2
    refine c_quiet ?_
    refine ql_s (.slice a2 r1.length cp2) (by kernel_rfl) ?_
    refine ql_s (.int .i64 s1.1) (by kernel_rfl) ?_
    refine ql_q rfl (qs_idx hq1 Tryz.underlying32 fit3 rfl rfl) ?_
    refine ql_q rfl (qs_ldAtV fit3 rfl h3 valI) ?_
    refine ql_s (.bool (decide (x2 > 0))) (by kernel_rfl) ?_
    refine ql_nil ?_
    refine e_then ?_
    refine c_cond (decide (x2 > 0)) rfl (fun ht1 => ?_) (fun ht1 => ?_)
    · skip
      replace hx1 := if_t ht1 hx1
      refine c_skip ?_
      refine e_then ?_
      refine c_block ?_
      refine c_seq ?_
      obtain ⟨r3, hr3, hx1⟩ := bnd_some hx1
      refine c_quiet ?_
      refine ql_q rfl (qs_ldpt (encW 11 (by decide)) fitv100 rfl 2 rfl (.agg #[.int .i64 g0.f.Region.X, .int .i64 g0.f.Region.Y, .int .i64 g0.f.Region.W, .int .i64 g0.f.Region.H, .slice g0_v1a g0.f.V.length g0_v1c, .float .f32 g0.s.Grade, .float .f32 g0.s.Weight, .float .f32 g0.s.Bridge, .float .f32 g0.s.Dear, .int .i64 g0.s.Span, .slice g0_v2a g0.s.Costly.length g0_v2c]) (Nat.le_of_ble_eq_true rfl) rfl) ?_
      refine ql_q rfl (qs_ldpt (encW 3 (by decide)) fitv95 rfl 1 rfl (.agg #[.int .i64 p0.from0, .slice p0_v1a p0.price.length p0_v1c, .slice p0_v2a p0.ok.length p0_v2c]) (Nat.le_of_ble_eq_true rfl) rfl) ?_
      refine ql_s (.slice a2 r1.length cp2) (by kernel_rfl) ?_
      refine ql_s (.int .i64 s1.1) (by kernel_rfl) ?_
      refine ql_call (v := .int .i64 r3) rfl (run_call (vs := [.agg #[.int .i64 g0.f.Region.X, .int .i64 g0.f.Region.Y, .int .i64 g0.f.Region.W, .int .i64 g0.f.Region.H, .slice g0_v1a g0.f.V.length g0_v1c, .float .f32 g0.s.Grade, .float .f32 g0.s.Weight, .float .f32 g0.s.Bridge, .float .f32 g0.s.Dear, .int .i64 g0.s.Span, .slice g0_v2a g0.s.Costly.length g0_v2c], .agg #[.int .i64 p0.from0, .slice p0_v1a p0.price.length p0_v1c, .slice p0_v2a p0.ok.length p0_v2c], .slice a2 r1.length cp2, .int .i64 s1.1]) rfl Tryz.call64 rfl) (fun w hS => (road_ground_before_s g0 g0_v1a g0_v1c g0_v2a g0_v2c p0 p0_v1a p0_v1c p0_v2a p0_v2c r1 a2 cp2 s1.1 _ g0_h1 g0_h2 p0_h1 p0_h2 h2 _ _ hr3 w (hS)).mono fun e w' h => ⟨h.1, h.2⟩) ?_
      refine ql_s (.int .i64 r3) (by kernel_rfl) ?_
      refine ql_nil ?_
      refine e_then ?_
      obtain ⟨r4, hr4, hx1⟩ := bnd_some hx1
      obtain ⟨l1, hl1, hx1⟩ := bnd_some hx1
      refine c_region ?_
      refine l_s (.slice a4 s1.2.length cp6) (by kernel_rfl) ?_
      refine l_q rfl (qs_ldpt (encW 11 (by decide)) fitv100 rfl 2 rfl (.agg #[.int .i64 g0.f.Region.X, .int .i64 g0.f.Region.Y, .int .i64 g0.f.Region.W, .int .i64 g0.f.Region.H, .slice g0_v1a g0.f.V.length g0_v1c, .float .f32 g0.s.Grade, .float .f32 g0.s.Weight, .float .f32 g0.s.Bridge, .float .f32 g0.s.Dear, .int .i64 g0.s.Span, .slice g0_v2a g0.s.Costly.length g0_v2c]) (Nat.le_of_ble_eq_true rfl) rfl) ?_
      refine l_s (.int .i64 r3) (by kernel_rfl) ?_
      refine l_callq (v := .agg #[.int .i64 r4.X, .int .i64 r4.Y]) rfl rfl Tryz.call63 (vs := [.agg #[.int .i64 g0.f.Region.X, .int .i64 g0.f.Region.Y, .int .i64 g0.f.Region.W, .int .i64 g0.f.Region.H, .slice g0_v1a g0.f.V.length g0_v1c, .float .f32 g0.s.Grade, .float .f32 g0.s.Weight, .float .f32 g0.s.Bridge, .float .f32 g0.s.Dear, .int .i64 g0.s.Span, .slice g0_v2a g0.s.Costly.length g0_v2c], .int .i64 r3]) rfl (fun w hS => (road_ground_point_s g0 g0_v1a g0_v1c g0_v2a g0_v2c r3 _ g0_h1 g0_h2 _ _ hr4 w (hS)).mono fun e w' h => ⟨h.1, h.2⟩) ?_
      refine l_bslS (cs := [.int .i64 r4.X, .int .i64 r4.Y]) (E := 43) (e := encS_api_Point) ([r4] : List S_api_Point) rfl (by kernel_rfl) rfl rfl (Nat.le_of_ble_eq_true rfl) ⟨rfl, trivial⟩ (fun b9 cp9 => ?_)
      refine l_perm (fr1_perm 1 _) ?_
      refine l_app hl1 rfl elem22 Tryz.underlying22 rfl rfl rfl (OwnS.src 1 rfl ⟨_, _, rfl⟩) (fun a6 cp10 => ?_)
      refine l_s (.slice a6 l1.length cp10) (by kernel_rfl) ?_
      refine l_nil ?_
      refine e_perm (fr1_perm 1 _) ?_
      refine e_drop ?_
      refine e_blk ?_
      refine e_perm (fr1_perm 2 _) ?_
      refine e_perm (fr1_perm 2 _) ?_
      refine e_perm (fr1_perm 2 _) ?_
      obtain rfl := Option.some.inj hx1
      exact e_cut ⟨(r3, l1), a6, cp10, ⟨rfl, rfl, rfl, rfl, rfl, trivial⟩, hD1, rfl, hs2⟩
    · skip
      replace hx1 := if_f ht1 hx1
      refine c_exit ?_
      refine e_then_exit ?_
      refine e_then_exit ?_
      obtain rfl := Option.some.inj hx1
      obtain rfl := hs2
      refine e_blk_exit ?_
      refine e_perm (fr1_perm 2 _) ?_
      refine e_perm (fr1_perm 2 _) ?_
      refine e_perm (fr1_perm 2 _) ?_
      exact e_cut ⟨a4, cp6, ⟨rfl, trivial⟩, hD1, rfl⟩
  · skip
    rintro φ2 D3 As4 ⟨a3, cp5, hI2, hD2, hA4⟩
    subst As4
    replace g0_h1 := g0_h1.mono hD2
    replace g0_h2 := g0_h2.mono hD2
    replace p0_h1 := p0_h1.mono hD2
    replace p0_h2 := p0_h2.mono hD2
    refine e_frame _ hI2 ?_
    refine e_then ?_
    refine c_seq ?_
    obtain ⟨r5, hr5, hp⟩ := bnd_some hp
    refine c_region ?_
    refine l_s (.slice a3 x1.length cp5) (by kernel_rfl) ?_
    refine l_call rfl rfl Tryz.call65 (vs := [.slice a3 x1.length cp5]) rfl (fun v D6 As6 => PH.le D3 D6 ∧ v = .tuple #[] ∧ As6 = OwnS D6 encS_api_Point 43 (.slice a3 x1.length cp5) r5 :: pt b4 [.int .i64 p0.from0, .slice p0_v1a p0.price.length p0_v1c, .slice p0_v2a p0.ok.length p0_v2c] 95 :: pt b3 [.int .i64 g0.f.Region.X, .int .i64 g0.f.Region.Y, .int .i64 g0.f.Region.W, .int .i64 g0.f.Region.H, .slice g0_v1a g0.f.V.length g0_v1c, .float .f32 g0.s.Grade, .float .f32 g0.s.Weight, .float .f32 g0.s.Bridge, .float .f32 g0.s.Dear, .int .i64 g0.s.Span, .slice g0_v2a g0.s.Costly.length g0_v2c] 100 :: F) (fun w hS => (slices_Reverse_api_Point_api_Point_s x1 a3 cp5 _  _ _ hr5 w (hS)).mono fun e w' ⟨D6, hle4, he, hS2⟩ => ⟨_, D6, _, he, ⟨hle4, rfl, rfl⟩, hS2⟩) ?_
    rintro _ D6 As6 ⟨hle4, rfl, hA6⟩
    subst As6
    replace g0_h1 := g0_h1.mono hle4
    replace g0_h2 := g0_h2.mono hle4
    replace p0_h1 := p0_h1.mono hle4
    replace p0_h2 := p0_h2.mono hle4
    refine l_nil ?_
    refine e_perm (fr1_perm 1 _) ?_
    refine e_drop ?_
    refine e_perm (fr1_perm 1 _) ?_
    refine e_drop ?_
    refine e_then ?_
    refine c_seq ?_
    refine c_quiet ?_
    refine ql_s (.slice a3 x1.length cp5) (by kernel_rfl) ?_
    refine ql_s (.slice a3 x1.length cp5) (by kernel_rfl) ?_
    refine ql_nil ?_
    refine e_then ?_
    refine c_ret ?_
    refine e_adr (fun b10 hb1 hl2 hbd1 hcap1 => ?_)
    refine e_layS (PH.le_refl _) (fun D7 hle5 h4 => ?_)
    replace g0_h1 := g0_h1.mono hle5
    replace g0_h2 := g0_h2.mono hle5
    replace p0_h1 := p0_h1.mono hle5
    replace p0_h2 := p0_h2.mono hle5
    obtain rfl := Option.some.inj hp
    exact post_all (vs := [.slice a3 x1.length cp5]) (.slice a3 x1.length cp5) ⟨rfl, trivial⟩ rfl (.inl rfl) (fun w hS => ⟨D7, a3, cp5, (PH.le_trans (PH.le_trans (PH.le_trans hle2 hD2) hle4) hle5), (by simp only [hl2]), (by rw [hl2]; exact h4), (by have h2 : SInv D7 (F) w := hS; simpa only [hl2] using h2)⟩)

-- tarnfell/road.Way
set_option maxRecDepth 100000 in
set_option maxHeartbeats 2000000 in
theorem road_Way_s (f0 : S_api_Field) (f0_v1a : Option Addr) (f0_v1c : Nat) (s0 : S_api_RoadRules) (s0_v1a : Option Addr) (s0_v1c : Nat) (from0 : S_api_Point) (to0 : S_api_Point) (D : PH) (f0_h1 : RO (encF .f32) D (.slice f0_v1a f0.V.length f0_v1c) f0.V) (s0_h1 : RO encS_api_Field D (.slice s0_v1a s0.Costly.length s0_v1c) s0.Costly) (F : List Assert) (r : (List S_api_Point) × Nat × Int) (hp : road_Way_p f0 s0 from0 to0 = some r) : ∀ w : World, SInv D (F) w → Calls Tryz.prog 24 #[.agg #[.int .i64 f0.Region.X, .int .i64 f0.Region.Y, .int .i64 f0.Region.W, .int .i64 f0.Region.H, .slice f0_v1a f0.V.length f0_v1c], .agg #[.float .f32 s0.Grade, .float .f32 s0.Weight, .float .f32 s0.Bridge, .float .f32 s0.Dear, .int .i64 s0.Span, .slice s0_v1a s0.Costly.length s0_v1c], .agg #[.int .i64 from0.X, .int .i64 from0.Y], .agg #[.int .i64 to0.X, .int .i64 to0.Y]] w (fun e w' => ∃ (D1 : PH) (q_a1 : Option Addr) (q_cp1 : Nat), PH.le D D1 ∧ e = .returned (.tuple #[.slice q_a1 r.1.length q_cp1, .float .f32 r.2.1, .int .i64 r.2.2]) ∧ RO encS_api_Point D1 (.slice q_a1 r.1.length q_cp1) r.1 ∧ SInv D1 (F) w') := by
  intro w hS
  refine call_intro Tryz.func24 rfl Tryz.ntmps24 (Nat.le_of_ble_eq_true rfl) hS ?_
  clear hS w
  unfold road_Way_p at hp
  refine c_seq ?_
  refine c_region ?_
  refine l_box (cs := [.int .i64 f0.Region.X, .int .i64 f0.Region.Y, .int .i64 f0.Region.W, .int .i64 f0.Region.H, .slice f0_v1a f0.V.length f0_v1c]) rfl rfl (fun b5 => ?_)
  refine l_box (cs := [.float .f32 s0.Grade, .float .f32 s0.Weight, .float .f32 s0.Bridge, .float .f32 s0.Dear, .int .i64 s0.Span, .slice s0_v1a s0.Costly.length s0_v1c]) rfl rfl (fun b6 => ?_)
  refine l_box (cs := [.int .i64 from0.X, .int .i64 from0.Y]) rfl rfl (fun b7 => ?_)
  refine l_box (cs := [.int .i64 to0.X, .int .i64 to0.Y]) rfl rfl (fun b8 => ?_)
  refine l_s (.slice none 0 0) (by kernel_rfl) ?_
  refine l_s (.float .f32 0) (by kernel_rfl) ?_
  refine l_s (.int .i64 0) (by kernel_rfl) ?_
  refine l_nil ?_
  refine e_then ?_
  refine c_seq ?_
  refine c_seq ?_
  obtain ⟨r1, hr1, hp⟩ := bnd_some hp
  refine c_quiet ?_
  refine ql_q rfl (qs_ldpt (encW 5 (by decide)) fitv61 rfl 3 rfl (.agg #[.int .i64 f0.Region.X, .int .i64 f0.Region.Y, .int .i64 f0.Region.W, .int .i64 f0.Region.H, .slice f0_v1a f0.V.length f0_v1c]) (Nat.le_of_ble_eq_true rfl) rfl) ?_
  refine ql_q rfl (qs_ldpt (encW 6 (by decide)) fitv66 rfl 2 rfl (.agg #[.float .f32 s0.Grade, .float .f32 s0.Weight, .float .f32 s0.Bridge, .float .f32 s0.Dear, .int .i64 s0.Span, .slice s0_v1a s0.Costly.length s0_v1c]) (Nat.le_of_ble_eq_true rfl) rfl) ?_
  refine ql_call (v := .int .i64 r1) rfl (run_call (vs := [.agg #[.int .i64 f0.Region.X, .int .i64 f0.Region.Y, .int .i64 f0.Region.W, .int .i64 f0.Region.H, .slice f0_v1a f0.V.length f0_v1c], .agg #[.float .f32 s0.Grade, .float .f32 s0.Weight, .float .f32 s0.Bridge, .float .f32 s0.Dear, .int .i64 s0.Span, .slice s0_v1a s0.Costly.length s0_v1c]]) rfl Tryz.call41 rfl) (fun w hS => (road_check_s f0 f0_v1a f0_v1c s0 s0_v1a s0_v1c _ f0_h1 s0_h1 _ _ hr1 w (hS)).mono fun e w' h => ⟨h.1, h.2⟩) ?_
  refine ql_s (.int .i64 r1) (by kernel_rfl) ?_
  refine ql_nil ?_
  refine e_then ?_
  refine c_seq ?_
  refine c_quiet ?_
  refine ql_s (.int .i64 r1) (by kernel_rfl) ?_
  refine ql_s (.bool (r1 != 0)) (by kernel_rfl) ?_
  refine ql_nil ?_
  refine e_then ?_
  refine c_cond ((r1 != 0)) rfl (fun ht1 => ?_) (fun ht1 => ?_)
  · skip
    replace hp := if_t ht1 hp
    refine c_seq ?_
    refine c_quiet ?_
    refine ql_s (.int .i64 r1) (by kernel_rfl) ?_
    refine ql_s (.slice none 0 0) (by kernel_rfl) ?_
    refine ql_s (.float .f32 0) (by kernel_rfl) ?_
    refine ql_s (.int .i64 r1) (by kernel_rfl) ?_
    refine ql_nil ?_
    refine e_drop ?_
    refine e_drop ?_
    refine e_drop ?_
    refine e_drop ?_
    refine e_then ?_
    refine c_ret ?_
    refine e_then_ret ?_
    obtain rfl := Option.some.inj hp
    exact post_all (vs := [.slice none 0 0, .float .f32 0, .int .i64 r1]) (.tuple #[.slice none 0 0, .float .f32 0, .int .i64 r1]) ⟨rfl, rfl, rfl, trivial⟩ rfl (.inl rfl) (fun w hS => ⟨D, none, 0, (PH.le_refl _), rfl, (RO.nil _ _), hS⟩)
  · skip
    replace hp := if_f ht1 hp
    refine c_skip ?_
    refine e_then ?_
    refine c_seq ?_
    refine c_seq ?_
    obtain ⟨r2, hr2, hp⟩ := bnd_some hp
    refine c_region ?_
    refine l_q rfl (qs_ldpt (encW 5 (by decide)) fitv61 rfl 3 rfl (.agg #[.int .i64 f0.Region.X, .int .i64 f0.Region.Y, .int .i64 f0.Region.W, .int .i64 f0.Region.H, .slice f0_v1a f0.V.length f0_v1c]) (Nat.le_of_ble_eq_true rfl) rfl) ?_
    refine l_q rfl (qs_ldpt (encW 2 (by decide)) fitv43 rfl 1 rfl (.agg #[.int .i64 from0.X, .int .i64 from0.Y]) (Nat.le_of_ble_eq_true rfl) rfl) ?_
    refine l_q rfl (qs_ldpt (encW 2 (by decide)) fitv43 rfl 0 rfl (.agg #[.int .i64 to0.X, .int .i64 to0.Y]) (Nat.le_of_ble_eq_true rfl) rfl) ?_
    refine l_bslS (cs := [.int .i64 from0.X, .int .i64 from0.Y, .int .i64 to0.X, .int .i64 to0.Y]) (E := 43) (e := encS_api_Point) ([from0, to0] : List S_api_Point) rfl (by kernel_rfl) rfl rfl (Nat.le_of_ble_eq_true rfl) ⟨rfl, rfl, trivial⟩ (fun b10 cp2 => ?_)
    refine l_callq (v := .int .i64 r2) rfl rfl Tryz.call42 (vs := [.agg #[.int .i64 f0.Region.X, .int .i64 f0.Region.Y, .int .i64 f0.Region.W, .int .i64 f0.Region.H, .slice f0_v1a f0.V.length f0_v1c], .slice (some ⟨b10, 0, none⟩) ([from0, to0] : List S_api_Point).length cp2]) rfl (fun w hS => (calls_thaw (PH.le_refl _) (hS) (fun D0' hLl0 hLr0 hS => (road_inside_s f0 f0_v1a f0_v1c ([from0, to0] : List S_api_Point) (some ⟨b10, 0, none⟩) cp2 _ (f0_h1.mono hLl0) hLr0 _ _ hr2 w (hS)).mono fun e w' h => ⟨h.1, h.2⟩)).mono fun e w' h => ⟨h.1, h.2⟩) ?_
    refine l_s (.int .i64 r2) (by kernel_rfl) ?_
    refine l_nil ?_
    refine e_drop ?_
    refine e_then ?_
    refine c_seq ?_
    refine c_quiet ?_
    refine ql_s (.int .i64 r2) (by kernel_rfl) ?_
    refine ql_s (.bool (r2 != 0)) (by kernel_rfl) ?_
    refine ql_nil ?_
    refine e_then ?_
    refine c_cond ((r2 != 0)) rfl (fun ht2 => ?_) (fun ht2 => ?_)
    · skip
      replace hp := if_t ht2 hp
      refine c_seq ?_
      refine c_quiet ?_
      refine ql_s (.int .i64 r2) (by kernel_rfl) ?_
      refine ql_s (.slice none 0 0) (by kernel_rfl) ?_
      refine ql_s (.float .f32 0) (by kernel_rfl) ?_
      refine ql_s (.int .i64 r2) (by kernel_rfl) ?_
      refine ql_nil ?_
      refine e_drop ?_
      refine e_drop ?_
      refine e_drop ?_
      refine e_drop ?_
      refine e_then ?_
      refine c_ret ?_
      refine e_then_ret ?_
      obtain rfl := Option.some.inj hp
      exact post_all (vs := [.slice none 0 0, .float .f32 0, .int .i64 r2]) (.tuple #[.slice none 0 0, .float .f32 0, .int .i64 r2]) ⟨rfl, rfl, rfl, trivial⟩ rfl (.inl rfl) (fun w hS => ⟨D, none, 0, (PH.le_refl _), rfl, (RO.nil _ _), hS⟩)
    · skip
      replace hp := if_f ht2 hp
      refine c_skip ?_
      refine e_then ?_
      refine c_seq ?_
      obtain ⟨r3, hr3, hp⟩ := bnd_some hp
      refine c_region ?_
      refine l_q rfl (qs_ldpt (encW 5 (by decide)) fitv61 rfl 3 rfl (.agg #[.int .i64 f0.Region.X, .int .i64 f0.Region.Y, .int .i64 f0.Region.W, .int .i64 f0.Region.H, .slice f0_v1a f0.V.length f0_v1c]) (Nat.le_of_ble_eq_true rfl) rfl) ?_
      refine l_q rfl (qs_ldpt (encW 6 (by decide)) fitv66 rfl 2 rfl (.agg #[.float .f32 s0.Grade, .float .f32 s0.Weight, .float .f32 s0.Bridge, .float .f32 s0.Dear, .int .i64 s0.Span, .slice s0_v1a s0.Costly.length s0_v1c]) (Nat.le_of_ble_eq_true rfl) rfl) ?_
      refine l_q rfl (qs_ldpt (encW 2 (by decide)) fitv43 rfl 1 rfl (.agg #[.int .i64 from0.X, .int .i64 from0.Y]) (Nat.le_of_ble_eq_true rfl) rfl) ?_
      refine l_call rfl rfl Tryz.call43 (vs := [.agg #[.int .i64 f0.Region.X, .int .i64 f0.Region.Y, .int .i64 f0.Region.W, .int .i64 f0.Region.H, .slice f0_v1a f0.V.length f0_v1c], .agg #[.float .f32 s0.Grade, .float .f32 s0.Weight, .float .f32 s0.Bridge, .float .f32 s0.Dear, .int .i64 s0.Span, .slice s0_v1a s0.Costly.length s0_v1c], .agg #[.int .i64 from0.X, .int .i64 from0.Y]]) rfl (fun v D2 As2 => ∃ (a3 : Option Addr) (cp5 : Nat) (a4 : Option Addr) (cp6 : Nat), PH.le D D2 ∧ v = .tuple #[.agg #[.int .i64 r3.1.from0, .slice a3 r3.1.price.length cp5, .slice a4 r3.1.ok.length cp6], .int .i64 r3.2] ∧ RO (encF .f32) D2 (.slice a3 r3.1.price.length cp5) r3.1.price ∧ RO encB D2 (.slice a4 r3.1.ok.length cp6) r3.1.ok ∧ As2 = pt b8 [.int .i64 to0.X, .int .i64 to0.Y] 43 :: pt b7 [.int .i64 from0.X, .int .i64 from0.Y] 43 :: pt b6 [.float .f32 s0.Grade, .float .f32 s0.Weight, .float .f32 s0.Bridge, .float .f32 s0.Dear, .int .i64 s0.Span, .slice s0_v1a s0.Costly.length s0_v1c] 66 :: pt b5 [.int .i64 f0.Region.X, .int .i64 f0.Region.Y, .int .i64 f0.Region.W, .int .i64 f0.Region.H, .slice f0_v1a f0.V.length f0_v1c] 61 :: F) (fun w hS => (road_pricesFrom_s f0 f0_v1a f0_v1c s0 s0_v1a s0_v1c from0 _ f0_h1 s0_h1 _ _ hr3 w (hS)).mono fun e w' ⟨D2, a3, cp5, a4, cp6, hle2, he, h3, h4, hS2⟩ => ⟨_, D2, _, he, ⟨a3, cp5, a4, cp6, hle2, rfl, h3, h4, rfl⟩, hS2⟩) ?_
      rintro _ D2 As2 ⟨a3, cp5, a4, cp6, hle2, rfl, h3, h4, hA2⟩
      subst As2
      replace f0_h1 := f0_h1.mono hle2
      replace s0_h1 := s0_h1.mono hle2
      refine l_s (.tuple #[.agg #[.int .i64 r3.1.from0, .slice a3 r3.1.price.length cp5, .slice a4 r3.1.ok.length cp6], .int .i64 r3.2]) (by kernel_rfl) ?_
      refine l_s (.agg #[.int .i64 r3.1.from0, .slice a3 r3.1.price.length cp5, .slice a4 r3.1.ok.length cp6]) (by kernel_rfl) ?_
      refine l_s (.int .i64 r3.2) (by kernel_rfl) ?_
      refine l_alloc (zs := [.int .i64 0, .slice none 0 0, .slice none 0 0]) rfl (by kernel_rfl) (fun b12 => ?_)
      refine l_store (dd := none) (vs := [.int .i64 r3.1.from0, .slice a3 r3.1.price.length cp5, .slice a4 r3.1.ok.length cp6]) (cs' := [.int .i64 r3.1.from0, .slice a3 r3.1.price.length cp5, .slice a4 r3.1.ok.length cp6]) rfl (by kernel_rfl) (by kernel_rfl) rfl rfl (Nat.le_of_ble_eq_true rfl) rfl rfl ?_
      refine l_s (.int .i64 r3.2) (by kernel_rfl) ?_
      refine l_nil ?_
      refine e_perm (fr1_perm 2 _) ?_
      refine e_drop ?_
      refine e_then ?_
      refine c_seq ?_
      obtain ⟨r4, hr4, hp⟩ := bnd_some hp
      refine c_quiet ?_
      refine ql_s (.pointer (some ⟨b5, 0, none⟩)) (by kernel_rfl) ?_
      refine ql_q rfl (qs_ldpt (encW 4 (by decide)) fitv59 rfl 3 rfl (.agg #[.int .i64 f0.Region.X, .int .i64 f0.Region.Y, .int .i64 f0.Region.W, .int .i64 f0.Region.H]) (Nat.le_of_ble_eq_true rfl) rfl) ?_
      refine ql_s (.pointer (some ⟨b8, 0, none⟩)) (by kernel_rfl) ?_
      refine ql_q rfl (qs_ldpt encV fitv3 rfl 1 rfl (.int .i64 to0.X) (Nat.le_of_ble_eq_true rfl) rfl) ?_
      refine ql_s (.pointer (some ⟨b8, 1, none⟩)) (by kernel_rfl) ?_
      refine ql_q rfl (qs_ldpt encV fitv3 rfl 1 rfl (.int .i64 to0.Y) (Nat.le_of_ble_eq_true rfl) rfl) ?_
      refine ql_call (v := .tuple #[.int .i64 r4.1, .bool r4.2]) rfl (run_call (vs := [.agg #[.int .i64 f0.Region.X, .int .i64 f0.Region.Y, .int .i64 f0.Region.W, .int .i64 f0.Region.H], .int .i64 to0.X, .int .i64 to0.Y]) rfl Tryz.call44 rfl) (fun w hS => (field_Place_s f0.Region to0.X to0.Y _  _ _ hr4 w (hS)).mono fun e w' h => ⟨h.1, h.2⟩) ?_
      refine ql_s (.tuple #[.int .i64 r4.1, .bool r4.2]) (by kernel_rfl) ?_
      refine ql_s (.int .i64 r4.1) (by kernel_rfl) ?_
      refine ql_s (.bool r4.2) (by kernel_rfl) ?_
      refine ql_s (.int .i64 r4.1) (by kernel_rfl) ?_
      refine ql_s (.bool r4.2) (by kernel_rfl) ?_
      refine ql_nil ?_
      refine e_perm (fr1_perm 1 _) ?_
      refine e_drop ?_
      refine e_then ?_
      refine c_seq ?_
      refine c_seq ?_
      obtain ⟨x1, hx1, hp⟩ := bnd_some hp
      obtain ⟨b13, o1, h5, hq1⟩ := RO.at h4 hx1
      refine c_quiet ?_
      refine ql_s (.pointer (some ⟨b12, 2, none⟩)) (by kernel_rfl) ?_
      refine ql_q rfl (qs_ldpt encV fitv93 rfl 0 rfl (.slice a4 r3.1.ok.length cp6) (Nat.le_of_ble_eq_true rfl) rfl) ?_
      refine ql_s (.int .i64 r4.1) (by kernel_rfl) ?_
      refine ql_q rfl (qs_idx hq1 Tryz.underlying93 fit4 rfl rfl) ?_
      refine ql_q rfl (qs_ldAtV fit4 rfl h5 valB) ?_
      refine ql_s (.bool (!x1)) (by kernel_rfl) ?_
      refine ql_nil ?_
      refine e_then ?_
      refine c_cond (!x1) rfl (fun ht3 => ?_) (fun ht3 => ?_)
      · skip
        replace hp := if_t ht3 hp
        refine c_seq ?_
        refine c_quiet ?_
        refine ql_s (.slice none 0 0) (by kernel_rfl) ?_
        refine ql_s (.float .f32 0) (by kernel_rfl) ?_
        refine ql_s (.int .i64 11) (by kernel_rfl) ?_
        refine ql_nil ?_
        refine e_drop ?_
        refine e_drop ?_
        refine e_drop ?_
        refine e_then ?_
        refine c_ret ?_
        refine e_then_ret ?_
        obtain rfl := Option.some.inj hp
        exact post_all (vs := [.slice none 0 0, .float .f32 0, .int .i64 11]) (.tuple #[.slice none 0 0, .float .f32 0, .int .i64 11]) ⟨rfl, rfl, rfl, trivial⟩ rfl (.inl rfl) (fun w hS => ⟨D2, none, 0, hle2, rfl, (RO.nil _ _), hS⟩)
      · skip
        replace hp := if_f ht3 hp
        refine c_skip ?_
        refine e_then ?_
        refine c_seq ?_
        obtain ⟨x2, hx2, hp⟩ := bnd_some hp
        obtain ⟨b14, o2, h6, hq2⟩ := RO.at h3 hx2
        obtain ⟨r5, hr5, hp⟩ := bnd_some hp
        refine c_perm (fr1_perm 2 _) ?_
        refine c_perm (fr1_perm 2 _) ?_
        refine c_perm (fr1_perm 2 _) ?_
        refine c_order (B := [pt b12 [.int .i64 r3.1.from0, .slice a3 r3.1.price.length cp5, .slice a4 r3.1.ok.length cp6] 95, pt b6 [.float .f32 s0.Grade, .float .f32 s0.Weight, .float .f32 s0.Bridge, .float .f32 s0.Dear, .int .i64 s0.Span, .slice s0_v1a s0.Costly.length s0_v1c] 66, pt b5 [.int .i64 f0.Region.X, .int .i64 f0.Region.Y, .int .i64 f0.Region.W, .int .i64 f0.Region.H, .slice f0_v1a f0.V.length f0_v1c] 61]) (.q 0 (.q 1 (.q 2 (.q 3 (.q 4 (.q 6 (.q 7 (.q 8 (.q 9 (.q 10 (.e 5 (.q 11 (.q 12 (.q 13 .nil)))))))))))))) hmix (by kernel_rfl) (NoPanic.then NoPanic.post) ?_
        refine o_qs rfl rfl (qs_ldpt (encW 5 (by decide)) fitv61 rfl 2 rfl (.agg #[.int .i64 f0.Region.X, .int .i64 f0.Region.Y, .int .i64 f0.Region.W, .int .i64 f0.Region.H, .slice f0_v1a f0.V.length f0_v1c]) (Nat.le_of_ble_eq_true rfl) rfl) ?_
        refine o_qs rfl rfl (qs_ldpt (encW 6 (by decide)) fitv66 rfl 1 rfl (.agg #[.float .f32 s0.Grade, .float .f32 s0.Weight, .float .f32 s0.Bridge, .float .f32 s0.Dear, .int .i64 s0.Span, .slice s0_v1a s0.Costly.length s0_v1c]) (Nat.le_of_ble_eq_true rfl) rfl) ?_
        refine o_s (.agg #[.int .i64 f0.Region.X, .int .i64 f0.Region.Y, .int .i64 f0.Region.W, .int .i64 f0.Region.H, .slice f0_v1a f0.V.length f0_v1c, .float .f32 s0.Grade, .float .f32 s0.Weight, .float .f32 s0.Bridge, .float .f32 s0.Dear, .int .i64 s0.Span, .slice s0_v1a s0.Costly.length s0_v1c]) rfl (by kernel_rfl) ?_
        refine o_qs rfl rfl (qs_ldpt (encW 3 (by decide)) fitv95 rfl 0 rfl (.agg #[.int .i64 r3.1.from0, .slice a3 r3.1.price.length cp5, .slice a4 r3.1.ok.length cp6]) (Nat.le_of_ble_eq_true rfl) rfl) ?_
        refine o_s (.int .i64 r4.1) rfl (by kernel_rfl) ?_
        refine o_s (.pointer (some ⟨b12, 1, none⟩)) rfl (by kernel_rfl) ?_
        refine o_qs rfl rfl (qs_ldpt encV fitv38 rfl 0 rfl (.slice a3 r3.1.price.length cp5) (Nat.le_of_ble_eq_true rfl) rfl) ?_
        refine o_s (.int .i64 r4.1) rfl (by kernel_rfl) ?_
        refine o_qs rfl rfl (qs_idx hq2 Tryz.underlying38 fit35 rfl rfl) ?_
        refine o_qs rfl rfl (qs_ldAtV fit35 rfl h6 valF) ?_
        refine o_calle rfl rfl rfl Tryz.call45 (vs := [.agg #[.int .i64 f0.Region.X, .int .i64 f0.Region.Y, .int .i64 f0.Region.W, .int .i64 f0.Region.H, .slice f0_v1a f0.V.length f0_v1c, .float .f32 s0.Grade, .float .f32 s0.Weight, .float .f32 s0.Bridge, .float .f32 s0.Dear, .int .i64 s0.Span, .slice s0_v1a s0.Costly.length s0_v1c], .agg #[.int .i64 r3.1.from0, .slice a3 r3.1.price.length cp5, .slice a4 r3.1.ok.length cp6], .int .i64 r4.1]) rfl (fun v D4 As4 => ∃ (a6 : Option Addr) (cp8 : Nat), PH.le D2 D4 ∧ v = .slice a6 r5.length cp8 ∧ RO encS_api_Point D4 (.slice a6 r5.length cp8) r5 ∧ As4 = F) (fun w hS => (road_ground_way_s (⟨f0, s0⟩ : S_road_ground) f0_v1a f0_v1c s0_v1a s0_v1c r3.1 a3 cp5 a4 cp6 r4.1 _ f0_h1 s0_h1 h3 h4 _ _ hr5 w (hS)).mono fun e w' ⟨D4, a6, cp8, hle4, he, h8, hS2⟩ => ⟨_, D4, _, he, ⟨a6, cp8, hle4, rfl, h8, rfl⟩, hS2⟩) ?_
        rintro _ D4 As4 ⟨a6, cp8, hle4, rfl, h8, hA4⟩
        subst As4
        refine ⟨PH.le_trans (PH.le_refl _) hle4, ?_⟩
        replace f0_h1 := f0_h1.mono hle4
        replace s0_h1 := s0_h1.mono hle4
        replace h3 := h3.mono hle4
        replace h4 := h4.mono hle4
        replace h6 := h6.mono hle4
        refine o_s (.slice a6 r5.length cp8) rfl (by kernel_rfl) ?_
        refine o_s (.float .f32 x2) rfl (by kernel_rfl) ?_
        refine o_s (.int .i64 0) rfl (by kernel_rfl) ?_
        refine o_nil ?_
        refine e_drop ?_
        refine e_drop ?_
        refine e_drop ?_
        refine e_then ?_
        refine c_ret ?_
        obtain rfl := Option.some.inj hp
        exact post_all (vs := [.slice a6 r5.length cp8, .float .f32 x2, .int .i64 0]) (.tuple #[.slice a6 r5.length cp8, .float .f32 x2, .int .i64 0]) ⟨rfl, rfl, rfl, trivial⟩ rfl (.inl rfl) (fun w hS => ⟨D4, a6, cp8, (PH.le_trans hle2 hle4), rfl, h8, hS⟩)

-- tarnfell/tarnlaw2.leads
set_option maxRecDepth 100000 in
set_option maxHeartbeats 2000000 in
theorem tarnlaw2_leads_s  (D : PH)  (F : List Assert) (r : Bool) (hp : tarnlaw2_leads_p  = some r) : ∀ w : World, SInv D (F) w → Calls Tryz.prog 6 #[] w (fun e w' => e = .returned (.bool r) ∧ SInv D (F) w') := by
  intro w hS
  refine call_intro Tryz.func6 rfl Tryz.ntmps6 (Nat.le_of_ble_eq_true rfl) hS ?_
  clear hS w
  unfold tarnlaw2_leads_p at hp
  refine c_seq ?_
  refine c_quiet ?_
  refine ql_s (.bool false) (by kernel_rfl) ?_
  refine ql_nil ?_
  refine e_then ?_
  refine c_seq ?_
  refine c_region ?_
  refine l_s (.agg #[.int .i64 0, .int .i64 0, .int .i64 2, .int .i64 1]) (by kernel_rfl) ?_
  refine l_bslS (cs := [.float .f32 0, .float .f32 0]) (E := 35) (e := encF .f32) ([0, 0] : List Nat) rfl (by kernel_rfl) rfl rfl (Nat.le_of_ble_eq_true rfl) ⟨rfl, rfl, trivial⟩ (fun b3 cp2 => ?_)
  refine l_s (.agg #[.int .i64 0, .int .i64 0, .int .i64 2, .int .i64 1, .slice (some ⟨b3, 0, none⟩) (([0, 0] : List Nat).length) cp2]) (by kernel_rfl) ?_
  refine l_alloc (zs := [.int .i64 0, .int .i64 0, .int .i64 0, .int .i64 0, .slice none 0 0]) rfl (by kernel_rfl) (fun b4 => ?_)
  refine l_store (dd := none) (vs := [.int .i64 0, .int .i64 0, .int .i64 2, .int .i64 1, .slice (some ⟨b3, 0, none⟩) (([0, 0] : List Nat).length) cp2]) (cs' := [.int .i64 0, .int .i64 0, .int .i64 2, .int .i64 1, .slice (some ⟨b3, 0, none⟩) (([0, 0] : List Nat).length) cp2]) rfl (by kernel_rfl) (by kernel_rfl) rfl rfl (Nat.le_of_ble_eq_true rfl) rfl rfl ?_
  refine l_nil ?_
  refine e_then ?_
  refine c_seq ?_
  obtain ⟨r1, hr1, hp⟩ := bnd_some hp
  refine c_region ?_
  refine l_q rfl (qs_ldpt (encW 5 (by decide)) fitv61 rfl 0 rfl (.agg #[.int .i64 0, .int .i64 0, .int .i64 2, .int .i64 1, .slice (some ⟨b3, 0, none⟩) (([0, 0] : List Nat).length) cp2]) (Nat.le_of_ble_eq_true rfl) rfl) ?_
  refine l_s (.agg #[.float .f32 0, .float .f32 0, .float .f32 1065353216, .float .f32 0, .int .i64 0, .slice none 0 0]) (by kernel_rfl) ?_
  refine l_s (.agg #[.int .i64 0, .int .i64 0]) (by kernel_rfl) ?_
  refine l_s (.agg #[.int .i64 1, .int .i64 0]) (by kernel_rfl) ?_
  refine l_perm (fr1_perm 1 _) ?_
  refine l_layS (PH.le_refl _) (fun D3 hle3 h3 => ?_)
  refine l_call rfl rfl Tryz.call24 (vs := [.agg #[.int .i64 0, .int .i64 0, .int .i64 2, .int .i64 1, .slice (some ⟨b3, 0, none⟩) ([0, 0] : List Nat).length cp2], .agg #[.float .f32 0, .float .f32 0, .float .f32 1065353216, .float .f32 0, .int .i64 0, .slice none 0 0], .agg #[.int .i64 0, .int .i64 0], .agg #[.int .i64 1, .int .i64 0]]) rfl (fun v D4 As2 => ∃ (a2 : Option Addr) (cp4 : Nat), PH.le D3 D4 ∧ v = .tuple #[.slice a2 r1.1.length cp4, .float .f32 r1.2.1, .int .i64 r1.2.2] ∧ RO encS_api_Point D4 (.slice a2 r1.1.length cp4) r1.1 ∧ As2 = pt b4 [.int .i64 0, .int .i64 0, .int .i64 2, .int .i64 1, .slice (some ⟨b3, 0, none⟩) ([0, 0] : List Nat).length cp2] 61 :: F) (fun w hS => (road_Way_s (⟨(⟨0, 0, 2, 1⟩ : S_api_Region), ([0, 0] : List Nat)⟩ : S_api_Field) (some ⟨b3, 0, none⟩) cp2 (⟨0, 0, 1065353216, 0, 0, []⟩ : S_api_RoadRules) none 0 (⟨0, 0⟩ : S_api_Point) (⟨1, 0⟩ : S_api_Point) _ h3 (RO.nil _ _) _ _ hr1 w (hS)).mono fun e w' ⟨D4, a2, cp4, hle4, he, h4, hS2⟩ => ⟨_, D4, _, he, ⟨a2, cp4, hle4, rfl, h4, rfl⟩, hS2⟩) ?_
  rintro _ D4 As2 ⟨a2, cp4, hle4, rfl, h4, hA2⟩
  subst As2
  replace h3 := h3.mono hle4
  refine l_s (.tuple #[.slice a2 r1.1.length cp4, .float .f32 r1.2.1, .int .i64 r1.2.2]) (by kernel_rfl) ?_
  refine l_s (.slice a2 r1.1.length cp4) (by kernel_rfl) ?_
  refine l_s (.float .f32 r1.2.1) (by kernel_rfl) ?_
  refine l_s (.int .i64 r1.2.2) (by kernel_rfl) ?_
  refine l_s (.slice a2 r1.1.length cp4) (by kernel_rfl) ?_
  refine l_s (.float .f32 r1.2.1) (by kernel_rfl) ?_
  refine l_s (.int .i64 r1.2.2) (by kernel_rfl) ?_
  refine l_nil ?_
  refine e_drop ?_
  refine e_then ?_
  refine c_seq ?_
  refine c_cutq_end [(0, .bool ((r1.2.2 == 0) && (((r1.1.length : Int) == 2) && (feq .f32 r1.2.1 1065353216))))] ?_ ?_
  · skip
    refine c_quiet ?_
    refine ql_s (.int .i64 r1.2.2) (by kernel_rfl) ?_
    refine ql_s (.bool (r1.2.2 == 0)) (by kernel_rfl) ?_
    refine ql_s (.bool (r1.2.2 == 0)) (by kernel_rfl) ?_
    refine ql_case 19 ((r1.2.2 == 0)) rfl (fun hg1 => ?_) (fun hg1 => ?_)
    · skip
      refine ql_s (.slice a2 r1.1.length cp4) (by kernel_rfl) ?_
      refine ql_s (.int .i64 (r1.1.length : Int)) (by kernel_rfl) ?_
      refine ql_s (.bool ((r1.1.length : Int) == 2)) (by kernel_rfl) ?_
      refine ql_s (.bool ((r1.1.length : Int) == 2)) (by kernel_rfl) ?_
      refine ql_s (.bool ((r1.1.length : Int) == 2)) (by kernel_rfl) ?_
      refine ql_case 24 (((r1.1.length : Int) == 2)) rfl (fun hg2 => ?_) (fun hg2 => ?_)
      · skip
        refine ql_s (.float .f32 r1.2.1) (by kernel_rfl) ?_
        refine ql_s (.bool (feq .f32 r1.2.1 1065353216)) (by kernel_rfl) ?_
        refine ql_s (.bool (feq .f32 r1.2.1 1065353216)) (by kernel_rfl) ?_
        refine ql_s (.bool (feq .f32 r1.2.1 1065353216)) (by kernel_rfl) ?_
        refine ql_nil (e_cutq ?_)
        exact ⟨(congrArg Value.bool (by first | rfl | (rw [hg1, hg2]; rfl) | simp [hg1, hg2])), trivial⟩
      · skip
        refine ql_s undef (by kernel_rfl) ?_
        refine ql_s undef (by kernel_rfl) ?_
        refine ql_s (.bool false) (by kernel_rfl) ?_
        refine ql_s (.bool false) (by kernel_rfl) ?_
        refine ql_nil (e_cutq ?_)
        exact ⟨(congrArg Value.bool (by first | rfl | (rw [hg1, hg2]; rfl) | simp [hg1, hg2])), trivial⟩
    · skip
      refine ql_s undef (by kernel_rfl) ?_
      refine ql_s undef (by kernel_rfl) ?_
      refine ql_s undef (by kernel_rfl) ?_
      refine ql_s (.bool false) (by kernel_rfl) ?_
      refine ql_s (.bool false) (by kernel_rfl) ?_
      refine ql_s undef (by kernel_rfl) ?_
      refine ql_s undef (by kernel_rfl) ?_
      refine ql_s (.bool false) (by kernel_rfl) ?_
      refine ql_s (.bool false) (by kernel_rfl) ?_
      refine ql_nil (e_cutq ?_)
      exact ⟨(congrArg Value.bool (by first | rfl | (rw [hg1]; rfl) | simp [hg1])), trivial⟩
  intro _
  refine e_then ?_
  refine c_ret ?_
  obtain rfl := Option.some.inj hp
  exact post_all (vs := [.bool ((r1.2.2 == 0) && (((r1.1.length : Int) == 2) && (feq .f32 r1.2.1 1065353216)))]) (.bool ((r1.2.2 == 0) && (((r1.1.length : Int) == 2) && (feq .f32 r1.2.1 1065353216)))) ⟨rfl, trivial⟩ rfl (.inl rfl) (fun w hS => ⟨rfl, (hS.lower (PH.le_trans hle3 hle4))⟩)

-- tarnfell/tarnref2.Step
set_option maxRecDepth 100000 in
set_option maxHeartbeats 2000000 in
theorem tarnref2_Step_s (d0 : Int) (D : PH)  (F : List Assert) (r : Int × Int) (hp : tarnref2_Step_p d0 = some r) : ∀ w : World, SInv D (F) w → Calls Tryz.prog 33 #[.int .i64 d0] w (fun e w' => e = .returned (.tuple #[.int .i64 r.1, .int .i64 r.2]) ∧ SInv D (F) w') := by
  intro w hS
  refine call_intro Tryz.func33 rfl Tryz.ntmps33 (Nat.le_of_ble_eq_true rfl) hS ?_
  clear hS w
  unfold tarnref2_Step_p at hp
  refine c_seq ?_
  refine c_quiet ?_
  refine ql_s (.int .i64 0) (by kernel_rfl) ?_
  refine ql_s (.int .i64 0) (by kernel_rfl) ?_
  refine ql_nil ?_
  refine e_then ?_
  refine c_seq ?_
  refine c_region ?_
  refine l_bslS (cs := [.int .i64 1, .int .i64 1, .int .i64 0, .int .i64 (-1), .int .i64 (-1), .int .i64 (-1), .int .i64 0, .int .i64 1]) (E := 3) (e := encI .i64) ([1, 1, 0, (-1), (-1), (-1), 0, 1] : List Int) rfl (by kernel_rfl) rfl rfl (Nat.le_of_ble_eq_true rfl) ⟨rfl, rfl, rfl, rfl, rfl, rfl, rfl, rfl, trivial⟩ (fun b2 cp2 => ?_)
  refine l_s (.slice (some ⟨b2, 0, none⟩) (([1, 1, 0, (-1), (-1), (-1), 0, 1] : List Int).length) cp2) (by kernel_rfl) ?_
  refine l_nil ?_
  refine e_then ?_
  refine c_seq ?_
  refine c_region ?_
  refine l_bslS (cs := [.int .i64 0, .int .i64 1, .int .i64 1, .int .i64 1, .int .i64 0, .int .i64 (-1), .int .i64 (-1), .int .i64 (-1)]) (E := 3) (e := encI .i64) ([0, 1, 1, 1, 0, (-1), (-1), (-1)] : List Int) rfl (by kernel_rfl) rfl rfl (Nat.le_of_ble_eq_true rfl) ⟨rfl, rfl, rfl, rfl, rfl, rfl, rfl, rfl, trivial⟩ (fun b4 cp4 => ?_)
  refine l_s (.slice (some ⟨b4, 0, none⟩) (([0, 1, 1, 1, 0, (-1), (-1), (-1)] : List Int).length) cp4) (by kernel_rfl) ?_
  refine l_nil ?_
  refine e_then ?_
  refine c_seq ?_
  obtain ⟨x1, hx1, hp⟩ := bnd_some hp
  obtain ⟨x2, hx2, hp⟩ := bnd_some hp
  refine c_quiet_draw hmix (by kernel_rfl) ?_
  refine ql_s (.slice (some ⟨b2, 0, none⟩) (([1, 1, 0, (-1), (-1), (-1), 0, 1] : List Int).length) cp2) (by kernel_rfl) ?_
  refine ql_s (.int .i64 d0) (by kernel_rfl) ?_
  refine ql_q rfl (qs_idx (IsIdx.beg (e := encI .i64) (Beg.of b2 _) rfl hx1) Tryz.underlying32 fit3 rfl rfl) ?_
  refine ql_q rfl (qs_ldS fit3 (Beg.of b2 _) rfl rfl 1 rfl (idx_some hx1).2.2 (v := .int .i64 x1) valI) ?_
  refine ql_s (.slice (some ⟨b4, 0, none⟩) (([0, 1, 1, 1, 0, (-1), (-1), (-1)] : List Int).length) cp4) (by kernel_rfl) ?_
  refine ql_s (.int .i64 d0) (by kernel_rfl) ?_
  refine ql_q rfl (qs_idx (IsIdx.beg (e := encI .i64) (Beg.of b4 _) rfl hx2) Tryz.underlying32 fit3 rfl rfl) ?_
  refine ql_q rfl (qs_ldS fit3 (Beg.of b4 _) rfl rfl 0 rfl (idx_some hx2).2.2 (v := .int .i64 x2) valI) ?_
  refine ql_s (.int .i64 x1) (by kernel_rfl) ?_
  refine ql_s (.int .i64 x2) (by kernel_rfl) ?_
  refine ql_nil ?_
  refine e_drop ?_
  refine e_drop ?_
  refine e_then ?_
  refine c_ret ?_
  obtain rfl := Option.some.inj hp
  exact post_all (vs := [.int .i64 x1, .int .i64 x2]) (.tuple #[.int .i64 x1, .int .i64 x2]) ⟨rfl, rfl, trivial⟩ rfl (.inl rfl) (fun w hS => ⟨rfl, hS⟩)

-- tarnfell/tarnref2.Leap
set_option maxRecDepth 100000 in
set_option maxHeartbeats 2000000 in
theorem tarnref2_Leap_s (a0 : S_api_Point) (b0 : S_api_Point) (D : PH)  (F : List Assert) (r : Int × Int) (hp : tarnref2_Leap_p a0 b0 = some r) : ∀ w : World, SInv D (F) w → Calls Tryz.prog 13 #[.agg #[.int .i64 a0.X, .int .i64 a0.Y], .agg #[.int .i64 b0.X, .int .i64 b0.Y]] w (fun e w' => e = .returned (.tuple #[.int .i64 r.1, .int .i64 r.2]) ∧ SInv D (F) w') := by
  intro w hS
  refine call_intro Tryz.func13 rfl Tryz.ntmps13 (Nat.le_of_ble_eq_true rfl) hS ?_
  clear hS w
  unfold tarnref2_Leap_p at hp
  refine c_seq ?_
  refine c_region ?_
  refine l_box (cs := [.int .i64 a0.X, .int .i64 a0.Y]) rfl rfl (fun b3 => ?_)
  refine l_box (cs := [.int .i64 b0.X, .int .i64 b0.Y]) rfl rfl (fun b4 => ?_)
  refine l_s (.int .i64 0) (by kernel_rfl) ?_
  refine l_s (.int .i64 0) (by kernel_rfl) ?_
  refine l_nil ?_
  refine e_then ?_
  refine c_seq ?_
  refine c_quiet_draw hmix (by kernel_rfl) ?_
  refine ql_s (.pointer (some ⟨b4, 0, none⟩)) (by kernel_rfl) ?_
  refine ql_q rfl (qs_ldpt encV fitv3 rfl 0 rfl (.int .i64 b0.X) (Nat.le_of_ble_eq_true rfl) rfl) ?_
  refine ql_s (.pointer (some ⟨b3, 0, none⟩)) (by kernel_rfl) ?_
  refine ql_q rfl (qs_ldpt encV fitv3 rfl 1 rfl (.int .i64 a0.X) (Nat.le_of_ble_eq_true rfl) rfl) ?_
  refine ql_s (.int .i64 (subI b0.X a0.X)) (by kernel_rfl) ?_
  refine ql_s (.pointer (some ⟨b4, 1, none⟩)) (by kernel_rfl) ?_
  refine ql_q rfl (qs_ldpt encV fitv3 rfl 0 rfl (.int .i64 b0.Y) (Nat.le_of_ble_eq_true rfl) rfl) ?_
  refine ql_s (.pointer (some ⟨b3, 1, none⟩)) (by kernel_rfl) ?_
  refine ql_q rfl (qs_ldpt encV fitv3 rfl 1 rfl (.int .i64 a0.Y) (Nat.le_of_ble_eq_true rfl) rfl) ?_
  refine ql_s (.int .i64 (subI b0.Y a0.Y)) (by kernel_rfl) ?_
  refine ql_s (.int .i64 (subI b0.X a0.X)) (by kernel_rfl) ?_
  refine ql_s (.int .i64 (subI b0.Y a0.Y)) (by kernel_rfl) ?_
  refine ql_nil ?_
  refine e_drop ?_
  refine e_drop ?_
  refine e_then ?_
  refine c_seq ?_
  refine c_seq ?_
  refine c_quiet ?_
  refine ql_s (.int .i64 0) (by kernel_rfl) ?_
  refine ql_nil ?_
  refine e_then ?_
  have hm0 : (8 : Nat) = ((8 : Int)).toNat := rfl
  have hb0 : ((8 : Int)) ≤ 4611686018427387904 := by decide
  have hm1 := hm0; have hb1 := hb0; clear hm0 hb0
  obtain ⟨x1, hs1, hp⟩ := bnd_some hp
  obtain ⟨body1, hbody1, hs1⟩ := forI_gen hs1
  refine c_cut_end (fun φ1 D1 As1 => ∃ (s1 : Unit), x1 = .go s1 ∧ Is φ1 [] ∧ PH.le D D1 ∧ As1 = F) ?_ ?_
  · skip
    refine c_block ?_
    refine c_loop (fun k φ1 D2 As1 => ∃ (j1 i1 : Nat) (s2 : Unit), k = j1 + 1 ∧ i1 + j1 = 8 ∧ Is φ1 [(6, .int .i64 (subI b0.X a0.X)), (7, .int .i64 (subI b0.Y a0.Y)), (22, .int .i64 (i1 : Int))] ∧ PH.le D D2 ∧ As1 = F ∧ forI body1 j1 i1 s2 = some x1) ⟨8 + 1, 8, 0, (), rfl, Nat.zero_add _, ⟨rfl, rfl, rfl, trivial⟩, (PH.le_refl _), rfl, hs1⟩ ?_ ?_
    · rintro _ _ _ ⟨_, _, _, h0, _⟩; omega
    intro k1
    rintro φ1 D2 As1 ⟨j1, i1, s2, hk1, hij1, hI1, hD1, hA1, hs2⟩
    subst As1
    refine c_frame _ hI1 ?_
    obtain rfl : k1 = j1 := by omega
    clear hk1
    rcases k1 with _ | j1
    · skip
      refine c_seq ?_
      refine c_quiet ?_
      refine ql_s (.bool (decide ((i1 : Int) < 8))) (by kernel_rfl) ?_
      refine ql_nil ?_
      refine e_then ?_
      refine c_seq ?_
      refine c_cond (decide ((i1 : Int) < 8)) rfl (fun ht1 => absurd ((dec_lt_f hm1 (by omega)).symm.trans ht1) (by simp)) (fun _ => ?_)
      refine c_exit ?_
      refine e_then_exit ?_
      refine e_then_exit ?_
      obtain rfl := Option.some.inj hs2
      refine e_blk_exit ?_
      exact e_cut ⟨(), rfl, trivial, hD1, rfl⟩
    · skip
      obtain ⟨y1, hx1, hs2⟩ := forI_some hs2
      replace hx1 := (congrFun (congrFun hbody1 i1) s2).trans hx1
      refine c_seq ?_
      refine c_quiet ?_
      refine ql_s (.bool (decide ((i1 : Int) < 8))) (by kernel_rfl) ?_
      refine ql_nil ?_
      refine e_then ?_
      refine c_seq ?_
      refine c_cond (decide ((i1 : Int) < 8)) rfl (fun _ => ?_) (fun ht2 => absurd ((dec_lt_t hm1 (by omega)).symm.trans ht2) (by simp))
      refine c_skip ?_
      refine e_then ?_
      refine c_seq ?_
      refine c_block ?_
      refine c_seq ?_
      refine c_quiet ?_
      refine ql_s (.int .i64 (i1 : Int)) (by kernel_rfl) ?_
      refine ql_s (.int .i64 (i1 : Int)) (by kernel_rfl) ?_
      refine ql_nil ?_
      refine e_then ?_
      refine c_seq ?_
      obtain ⟨r1, hr1, hx1⟩ := bnd_some hx1
      refine c_quiet ?_
      refine ql_s (.int .i64 (i1 : Int)) (by kernel_rfl) ?_
      refine ql_call (v := .tuple #[.int .i64 r1.1, .int .i64 r1.2]) rfl (run_call (vs := [.int .i64 (i1 : Int)]) rfl Tryz.call33 rfl) (fun w hS => (tarnref2_Step_s (i1 : Int) _  _ _ hr1 w (hS)).mono fun e w' h => ⟨h.1, h.2⟩) ?_
      refine ql_s (.tuple #[.int .i64 r1.1, .int .i64 r1.2]) (by kernel_rfl) ?_
      refine ql_s (.int .i64 r1.1) (by kernel_rfl) ?_
      refine ql_s (.int .i64 r1.2) (by kernel_rfl) ?_
      refine ql_s (.int .i64 r1.1) (by kernel_rfl) ?_
      refine ql_s (.int .i64 r1.2) (by kernel_rfl) ?_
      refine ql_nil ?_
      refine e_then ?_
      refine c_seq ?_
      obtain ⟨n_1, hn_1, hx1⟩ := bnd_some hx1
      replace hn_1 := Option.some.inj hn_1
      refine c_quiet ?_
      refine ql_s (.int .i64 (subI b0.X a0.X)) (by kernel_rfl) ?_
      refine ql_s (.int .i64 (subI b0.X a0.X)) (by kernel_rfl) ?_
      refine ql_s (.int .i64 (subI 0 (subI b0.X a0.X))) (by kernel_rfl) ?_
      refine ql_s (.int .i64 (subI b0.Y a0.Y)) (by kernel_rfl) ?_
      refine ql_s (.int .i64 (subI b0.Y a0.Y)) (by kernel_rfl) ?_
      refine ql_s (.int .i64 (subI 0 (subI b0.Y a0.Y))) (by kernel_rfl) ?_
      refine ql_q rfl (qs_max rfl) ?_
      refine ql_s (.int .i64 n_1) (congrArg (fun z => some (Value.int .i64 z)) hn_1) ?_
      refine ql_nil ?_
      refine e_then ?_
      refine c_seq ?_
      refine c_cutq_end [(6, .int .i64 (subI b0.X a0.X)), (7, .int .i64 (subI b0.Y a0.Y)), (8, .int .i64 (i1 : Int)), (11, .int .i64 n_1), (22, .int .i64 (i1 : Int)), (52, .bool ((decide (n_1 > 0)) && (((mulI r1.1 n_1) == (subI b0.X a0.X)) && ((mulI r1.2 n_1) == (subI b0.Y a0.Y)))))] ?_ ?_
      · skip
        refine c_quiet ?_
        refine ql_s (.int .i64 n_1) (by kernel_rfl) ?_
        refine ql_s (.bool (decide (n_1 > 0))) (by kernel_rfl) ?_
        refine ql_s (.bool (decide (n_1 > 0))) (by kernel_rfl) ?_
        refine ql_case 39 (decide (n_1 > 0)) rfl (fun hg1 => ?_) (fun hg1 => ?_)
        · skip
          refine ql_s (.int .i64 r1.1) (by kernel_rfl) ?_
          refine ql_s (.int .i64 n_1) (by kernel_rfl) ?_
          refine ql_s (.int .i64 (mulI r1.1 n_1)) (by kernel_rfl) ?_
          refine ql_s (.int .i64 (subI b0.X a0.X)) (by kernel_rfl) ?_
          refine ql_s (.bool ((mulI r1.1 n_1) == (subI b0.X a0.X))) (by kernel_rfl) ?_
          refine ql_s (.bool ((mulI r1.1 n_1) == (subI b0.X a0.X))) (by kernel_rfl) ?_
          refine ql_s (.bool ((mulI r1.1 n_1) == (subI b0.X a0.X))) (by kernel_rfl) ?_
          refine ql_case 46 (((mulI r1.1 n_1) == (subI b0.X a0.X))) rfl (fun hg2 => ?_) (fun hg2 => ?_)
          · skip
            refine ql_s (.int .i64 r1.2) (by kernel_rfl) ?_
            refine ql_s (.int .i64 n_1) (by kernel_rfl) ?_
            refine ql_s (.int .i64 (mulI r1.2 n_1)) (by kernel_rfl) ?_
            refine ql_s (.int .i64 (subI b0.Y a0.Y)) (by kernel_rfl) ?_
            refine ql_s (.bool ((mulI r1.2 n_1) == (subI b0.Y a0.Y))) (by kernel_rfl) ?_
            refine ql_s (.bool ((mulI r1.2 n_1) == (subI b0.Y a0.Y))) (by kernel_rfl) ?_
            refine ql_nil (e_cutq ?_)
            exact ⟨rfl, rfl, rfl, rfl, rfl, (congrArg Value.bool (by first | rfl | (rw [hg1, hg2]; rfl) | simp [hg1, hg2])), trivial⟩
          · skip
            refine ql_s undef (by kernel_rfl) ?_
            refine ql_s undef (by kernel_rfl) ?_
            refine ql_s undef (by kernel_rfl) ?_
            refine ql_s undef (by kernel_rfl) ?_
            refine ql_s undef (by kernel_rfl) ?_
            refine ql_s (.bool false) (by kernel_rfl) ?_
            refine ql_nil (e_cutq ?_)
            exact ⟨rfl, rfl, rfl, rfl, rfl, (congrArg Value.bool (by first | rfl | (rw [hg1, hg2]; rfl) | simp [hg1, hg2])), trivial⟩
        · skip
          refine ql_s undef (by kernel_rfl) ?_
          refine ql_s undef (by kernel_rfl) ?_
          refine ql_s undef (by kernel_rfl) ?_
          refine ql_s undef (by kernel_rfl) ?_
          refine ql_s undef (by kernel_rfl) ?_
          refine ql_s (.bool false) (by kernel_rfl) ?_
          refine ql_s (.bool false) (by kernel_rfl) ?_
          refine ql_s undef (by kernel_rfl) ?_
          refine ql_s undef (by kernel_rfl) ?_
          refine ql_s undef (by kernel_rfl) ?_
          refine ql_s undef (by kernel_rfl) ?_
          refine ql_s undef (by kernel_rfl) ?_
          refine ql_s (.bool false) (by kernel_rfl) ?_
          refine ql_nil (e_cutq ?_)
          exact ⟨rfl, rfl, rfl, rfl, rfl, (congrArg Value.bool (by first | rfl | (rw [hg1]; rfl) | simp [hg1])), trivial⟩
      intro _
      refine e_then ?_
      refine c_cond (((decide (n_1 > 0)) && (((mulI r1.1 n_1) == (subI b0.X a0.X)) && ((mulI r1.2 n_1) == (subI b0.Y a0.Y))))) rfl (fun ht3 => ?_) (fun ht3 => ?_)
      · skip
        replace hx1 := if_t ht3 hx1
        refine c_seq ?_
        refine c_quiet ?_
        refine ql_s (.int .i64 (i1 : Int)) (by kernel_rfl) ?_
        refine ql_s (.int .i64 n_1) (by kernel_rfl) ?_
        refine ql_s (.int .i64 (i1 : Int)) (by kernel_rfl) ?_
        refine ql_s (.int .i64 n_1) (by kernel_rfl) ?_
        refine ql_nil ?_
        refine e_then ?_
        refine c_ret ?_
        refine e_blk_ret ?_
        refine e_then_ret ?_
        refine e_then_ret ?_
        obtain rfl := Option.some.inj hx1
        obtain rfl := hs2
        refine e_blk_ret ?_
        refine e_then_ret ?_
        dsimp only at hp
        refine e_then_ret ?_
        obtain rfl := Option.some.inj hp
        exact post_all (vs := [.int .i64 (i1 : Int), .int .i64 n_1]) (.tuple #[.int .i64 (i1 : Int), .int .i64 n_1]) ⟨rfl, rfl, trivial⟩ rfl (.inl rfl) (fun w hS => ⟨rfl, (hS.lower hD1)⟩)
      · skip
        replace hx1 := if_f ht3 hx1
        refine c_skip ?_
        refine e_blk ?_
        refine e_then ?_
        refine c_quiet ?_
        refine ql_s (.int .i64 (addI (i1 : Int) 1)) (by kernel_rfl) ?_
        refine ql_s (.int .i64 (addI (i1 : Int) 1)) (by kernel_rfl) ?_
        refine ql_nil ?_
        obtain rfl := Option.some.inj hx1
        exact e_cut ⟨j1, i1 + 1, (), by omega, by omega, ⟨rfl, rfl, (congrArg (Value.int .i64) (addI_succ (by omega))), trivial⟩, hD1, rfl, hs2⟩
  · skip
    rintro φ2 D1 As2 ⟨s1, rfl, hI2, hD2, hA2⟩
    subst As2
    dsimp only at hp
    refine e_frame _ hI2 ?_
    refine e_then ?_
    refine c_seq ?_
    refine c_quiet ?_
    refine ql_s (.int .i64 0) (by kernel_rfl) ?_
    refine ql_s (.int .i64 0) (by kernel_rfl) ?_
    refine ql_nil ?_
    refine e_then ?_
    refine c_ret ?_
    obtain rfl := Option.some.inj hp
    exact post_all (vs := [.int .i64 0, .int .i64 0]) (.tuple #[.int .i64 0, .int .i64 0]) ⟨rfl, rfl, trivial⟩ rfl (.inl rfl) (fun w hS => ⟨rfl, (hS.lower hD2)⟩)

-- tarnfell/tarnref2.WayError
set_option maxRecDepth 100000 in
set_option maxHeartbeats 2000000 in
theorem tarnref2_WayError_s (way0 : List S_api_Point) (way0_v1a : Option Addr) (way0_v1c : Nat) (D : PH) (way0_h1 : RO encS_api_Point D (.slice way0_v1a way0.length way0_v1c) way0) (F : List Assert) (r : Int) (hp : tarnref2_WayError_p way0 = some r) : ∀ w : World, SInv D (F) w → Calls Tryz.prog 7 #[.pointer none, .slice way0_v1a way0.length way0_v1c] w (fun e w' => e = .returned (.int .i64 r) ∧ SInv D (F) w') := by
  intro w hS
  refine call_intro Tryz.func7 rfl Tryz.ntmps7 (Nat.le_of_ble_eq_true rfl) hS ?_
  clear hS w
  unfold tarnref2_WayError_p at hp
  refine c_seq ?_
  refine c_quiet ?_
  refine ql_s (.int .i64 0) (by kernel_rfl) ?_
  refine ql_nil ?_
  refine e_then ?_
  refine c_seq ?_
  refine c_seq ?_
  refine c_quiet ?_
  refine ql_s (.slice way0_v1a way0.length way0_v1c) (by kernel_rfl) ?_
  refine ql_s (.int .i64 (way0.length : Int)) (by kernel_rfl) ?_
  refine ql_s (.bool ((way0.length : Int) == 0)) (by kernel_rfl) ?_
  refine ql_nil ?_
  refine e_then ?_
  refine c_cond (((way0.length : Int) == 0)) rfl (fun ht1 => ?_) (fun ht1 => ?_)
  · skip
    replace hp := if_t ht1 hp
    refine c_seq ?_
    refine c_quiet ?_
    refine ql_s (.int .i64 10) (by kernel_rfl) ?_
    refine ql_nil ?_
    refine e_then ?_
    refine c_ret ?_
    refine e_then_ret ?_
    obtain rfl := Option.some.inj hp
    exact post_all (vs := [.int .i64 10]) (.int .i64 10) ⟨rfl, trivial⟩ rfl (.inl rfl) (fun w hS => ⟨rfl, hS⟩)
  · skip
    replace hp := if_f ht1 hp
    refine c_skip ?_
    refine e_then ?_
    refine c_seq ?_
    refine c_seq ?_
    refine c_quiet ?_
    refine ql_s (.slice way0_v1a way0.length way0_v1c) (by kernel_rfl) ?_
    refine ql_s (.int .i64 (way0.length : Int)) (by kernel_rfl) ?_
    refine ql_s (.bool (decide ((way0.length : Int) > 65536))) (by kernel_rfl) ?_
    refine ql_nil ?_
    refine e_then ?_
    refine c_cond (decide ((way0.length : Int) > 65536)) rfl (fun ht2 => ?_) (fun ht2 => ?_)
    · skip
      replace hp := if_t ht2 hp
      refine c_seq ?_
      refine c_quiet ?_
      refine ql_s (.int .i64 4) (by kernel_rfl) ?_
      refine ql_nil ?_
      refine e_then ?_
      refine c_ret ?_
      refine e_then_ret ?_
      obtain rfl := Option.some.inj hp
      exact post_all (vs := [.int .i64 4]) (.int .i64 4) ⟨rfl, trivial⟩ rfl (.inl rfl) (fun w hS => ⟨rfl, hS⟩)
    · skip
      replace hp := if_f ht2 hp
      refine c_skip ?_
      refine e_then ?_
      refine c_seq ?_
      refine c_seq ?_
      refine c_quiet ?_
      refine ql_s (.slice way0_v1a way0.length way0_v1c) (by kernel_rfl) ?_
      refine ql_s (.int .i64 (way0.length : Int)) (by kernel_rfl) ?_
      refine ql_s (.int .i64 0) (by kernel_rfl) ?_
      refine ql_nil ?_
      refine e_then ?_
      have hb0 : (way0.length : Int) ≤ 4611686018427387904 := by have := RO.bound way0_h1; omega
      have hm0 : way0.length = (way0.length : Int).toNat := by omega
      have hm1 := hm0; have hb1 := hb0; clear hm0 hb0
      obtain ⟨x1, hs1, hp⟩ := bnd_some hp
      obtain ⟨body1, hbody1, hs1⟩ := forI_gen hs1
      refine c_cut_end (fun φ1 D1 As1 => ∃ (s1 : Unit), x1 = .go s1 ∧ Is φ1 [] ∧ PH.le D D1 ∧ As1 = F) ?_ ?_
      · skip
        refine c_block ?_
        refine c_loop (fun k φ1 D2 As1 => ∃ (j1 i1 : Nat) (s2 : Unit), k = j1 + 1 ∧ i1 + j1 = way0.length ∧ Is φ1 [(0, .pointer none), (1, .slice way0_v1a way0.length way0_v1c), (15, .slice way0_v1a way0.length way0_v1c), (16, .int .i64 (way0.length : Int)), (17, .int .i64 (i1 : Int))] ∧ PH.le D D2 ∧ As1 = F ∧ forI body1 j1 i1 s2 = some x1) ⟨way0.length + 1, way0.length, 0, (), rfl, Nat.zero_add _, ⟨rfl, rfl, rfl, rfl, rfl, trivial⟩, (PH.le_refl _), rfl, hs1⟩ ?_ ?_
        · rintro _ _ _ ⟨_, _, _, h0, _⟩; omega
        intro k1
        rintro φ1 D2 As1 ⟨j1, i1, s2, hk1, hij1, hI1, hD1, hA1, hs2⟩
        subst As1
        replace way0_h1 := way0_h1.mono hD1
        refine c_frame _ hI1 ?_
        obtain rfl : k1 = j1 := by omega
        clear hk1
        rcases k1 with _ | j1
        · skip
          refine c_seq ?_
          refine c_quiet ?_
          refine ql_s (.bool (decide ((i1 : Int) < (way0.length : Int)))) (by kernel_rfl) ?_
          refine ql_nil ?_
          refine e_then ?_
          refine c_seq ?_
          refine c_cond (decide ((i1 : Int) < (way0.length : Int))) rfl (fun ht3 => absurd ((dec_lt_f hm1 (by omega)).symm.trans ht3) (by simp)) (fun _ => ?_)
          refine c_exit ?_
          refine e_then_exit ?_
          refine e_then_exit ?_
          obtain rfl := Option.some.inj hs2
          refine e_blk_exit ?_
          exact e_cut ⟨(), rfl, trivial, hD1, rfl⟩
        · skip
          obtain ⟨y1, hx1, hs2⟩ := forI_some hs2
          replace hx1 := (congrFun (congrFun hbody1 i1) s2).trans hx1
          refine c_seq ?_
          refine c_quiet ?_
          refine ql_s (.bool (decide ((i1 : Int) < (way0.length : Int)))) (by kernel_rfl) ?_
          refine ql_nil ?_
          refine e_then ?_
          refine c_seq ?_
          refine c_cond (decide ((i1 : Int) < (way0.length : Int))) rfl (fun _ => ?_) (fun ht4 => absurd ((dec_lt_t hm1 (by omega)).symm.trans ht4) (by simp))
          refine c_skip ?_
          refine e_then ?_
          refine c_seq ?_
          obtain ⟨x2, hs3, hx1⟩ := bnd_some hx1
          refine c_cut_end (fun φ1 D3 As1 => ∃ (s3 : Unit), x2 = .go s3 ∧ Is φ1 [(0, .pointer none), (1, .slice way0_v1a way0.length way0_v1c), (15, .slice way0_v1a way0.length way0_v1c), (16, .int .i64 (way0.length : Int)), (17, .int .i64 (i1 : Int))] ∧ PH.le D2 D3 ∧ As1 = F) ?_ ?_
          · skip
            refine c_block ?_
            refine c_seq ?_
            obtain ⟨x3, hx2, hs3⟩ := bnd_some hs3
            obtain ⟨b1, o1, h1, hq1⟩ := RO.at way0_h1 hx2
            obtain ⟨cs1, hc1, ha1⟩ := h1.cells
            obtain rfl := hc1
            refine c_region ?_
            refine l_s (.int .i64 (i1 : Int)) (by kernel_rfl) ?_
            refine l_q rfl (qs_idx hq1 Tryz.underlying22 fit43 rfl rfl) ?_
            refine l_q rfl (qs_ldC fit43 rfl ha1 rfl (.agg #[.int .i64 x3.X, .int .i64 x3.Y]) rfl) ?_
            refine l_alloc (zs := [.int .i64 0, .int .i64 0]) rfl (by kernel_rfl) (fun b3 => ?_)
            refine l_s (.int .i64 (i1 : Int)) (by kernel_rfl) ?_
            refine l_store (dd := none) (vs := [.int .i64 x3.X, .int .i64 x3.Y]) (cs' := [.int .i64 x3.X, .int .i64 x3.Y]) rfl (by kernel_rfl) (by kernel_rfl) rfl rfl (Nat.le_of_ble_eq_true rfl) rfl rfl ?_
            refine l_nil ?_
            refine e_then ?_
            refine c_seq ?_
            refine c_seq ?_
            refine c_cutq_end [(0, .pointer none), (1, .slice way0_v1a way0.length way0_v1c), (5, .int .i64 (i1 : Int)), (6, .pointer (some ⟨b3, 0, none⟩)), (15, .slice way0_v1a way0.length way0_v1c), (16, .int .i64 (way0.length : Int)), (17, .int .i64 (i1 : Int)), (55, .bool ((decide (x3.X < (-4194304))) || ((decide (x3.X > 4194304)) || ((decide (x3.Y < (-4194304))) || ((decide (x3.Y > 4194304)) && true)))))] ?_ ?_
            · skip
              refine c_quiet_draw hmix (by kernel_rfl) ?_
              refine ql_s (.pointer (some ⟨b3, 0, none⟩)) (by kernel_rfl) ?_
              refine ql_q rfl (qs_ldpt encV fitv3 rfl 0 rfl (.int .i64 x3.X) (Nat.le_of_ble_eq_true rfl) rfl) ?_
              refine ql_s (.bool (decide (x3.X < (-4194304)))) (by kernel_rfl) ?_
              refine ql_s (.bool (decide (x3.X < (-4194304)))) (by kernel_rfl) ?_
              refine ql_case 25 (decide (x3.X < (-4194304))) rfl (fun hg1 => ?_) (fun hg1 => ?_)
              · skip
                refine ql_s undef (by kernel_rfl) ?_
                refine ql_s undef (by kernel_rfl) ?_
                refine ql_s undef (by kernel_rfl) ?_
                refine ql_s (.bool true) (by kernel_rfl) ?_
                refine ql_s (.bool true) (by kernel_rfl) ?_
                refine ql_s undef (by kernel_rfl) ?_
                refine ql_s undef (by kernel_rfl) ?_
                refine ql_s undef (by kernel_rfl) ?_
                refine ql_s (.bool true) (by kernel_rfl) ?_
                refine ql_s (.bool true) (by kernel_rfl) ?_
                refine ql_s undef (by kernel_rfl) ?_
                refine ql_s undef (by kernel_rfl) ?_
                refine ql_s undef (by kernel_rfl) ?_
                refine ql_s (.bool true) (by kernel_rfl) ?_
                refine ql_s (.bool true) (by kernel_rfl) ?_
                refine ql_s undef (by kernel_rfl) ?_
                refine ql_s undef (by kernel_rfl) ?_
                refine ql_s undef (by kernel_rfl) ?_
                refine ql_s undef (by kernel_rfl) ?_
                refine ql_s undef (by kernel_rfl) ?_
                refine ql_s undef (by kernel_rfl) ?_
                refine ql_s undef (by kernel_rfl) ?_
                refine ql_s undef (by kernel_rfl) ?_
                refine ql_s undef (by kernel_rfl) ?_
                refine ql_s undef (by kernel_rfl) ?_
                refine ql_s undef (by kernel_rfl) ?_
                refine ql_s undef (by kernel_rfl) ?_
                refine ql_s undef (by kernel_rfl) ?_
                refine ql_s undef (by kernel_rfl) ?_
                refine ql_s (.bool true) (by kernel_rfl) ?_
                refine ql_nil (e_cutq ?_)
                exact ⟨rfl, rfl, rfl, rfl, rfl, rfl, rfl, (congrArg Value.bool (by first | rfl | (rw [hg1]; rfl) | simp [hg1])), trivial⟩
              · skip
                refine ql_s (.pointer (some ⟨b3, 0, none⟩)) (by kernel_rfl) ?_
                refine ql_q rfl (qs_ldpt encV fitv3 rfl 0 rfl (.int .i64 x3.X) (Nat.le_of_ble_eq_true rfl) rfl) ?_
                refine ql_s (.bool (decide (x3.X > 4194304))) (by kernel_rfl) ?_
                refine ql_s (.bool (decide (x3.X > 4194304))) (by kernel_rfl) ?_
                refine ql_s (.bool (decide (x3.X > 4194304))) (by kernel_rfl) ?_
                refine ql_case 30 (decide (x3.X > 4194304)) rfl (fun hg2 => ?_) (fun hg2 => ?_)
                · skip
                  refine ql_s undef (by kernel_rfl) ?_
                  refine ql_s undef (by kernel_rfl) ?_
                  refine ql_s undef (by kernel_rfl) ?_
                  refine ql_s (.bool true) (by kernel_rfl) ?_
                  refine ql_s (.bool true) (by kernel_rfl) ?_
                  refine ql_s undef (by kernel_rfl) ?_
                  refine ql_s undef (by kernel_rfl) ?_
                  refine ql_s undef (by kernel_rfl) ?_
                  refine ql_s (.bool true) (by kernel_rfl) ?_
                  refine ql_s (.bool true) (by kernel_rfl) ?_
                  refine ql_s undef (by kernel_rfl) ?_
                  refine ql_s undef (by kernel_rfl) ?_
                  refine ql_s undef (by kernel_rfl) ?_
                  refine ql_s undef (by kernel_rfl) ?_
                  refine ql_s undef (by kernel_rfl) ?_
                  refine ql_s undef (by kernel_rfl) ?_
                  refine ql_s undef (by kernel_rfl) ?_
                  refine ql_s undef (by kernel_rfl) ?_
                  refine ql_s undef (by kernel_rfl) ?_
                  refine ql_s undef (by kernel_rfl) ?_
                  refine ql_s undef (by kernel_rfl) ?_
                  refine ql_s undef (by kernel_rfl) ?_
                  refine ql_s undef (by kernel_rfl) ?_
                  refine ql_s undef (by kernel_rfl) ?_
                  refine ql_s (.bool true) (by kernel_rfl) ?_
                  refine ql_nil (e_cutq ?_)
                  exact ⟨rfl, rfl, rfl, rfl, rfl, rfl, rfl, (congrArg Value.bool (by first | rfl | (rw [hg1, hg2]; rfl) | simp [hg1, hg2])), trivial⟩
                · skip
                  refine ql_s (.pointer (some ⟨b3, 1, none⟩)) (by kernel_rfl) ?_
                  refine ql_q rfl (qs_ldpt encV fitv3 rfl 0 rfl (.int .i64 x3.Y) (Nat.le_of_ble_eq_true rfl) rfl) ?_
                  refine ql_s (.bool (decide (x3.Y < (-4194304)))) (by kernel_rfl) ?_
                  refine ql_s (.bool (decide (x3.Y < (-4194304)))) (by kernel_rfl) ?_
                  refine ql_s (.bool (decide (x3.Y < (-4194304)))) (by kernel_rfl) ?_
                  refine ql_case 35 (decide (x3.Y < (-4194304))) rfl (fun hg3 => ?_) (fun hg3 => ?_)
                  · skip
                    refine ql_s undef (by kernel_rfl) ?_
                    refine ql_s undef (by kernel_rfl) ?_
                    refine ql_s undef (by kernel_rfl) ?_
                    refine ql_s (.bool true) (by kernel_rfl) ?_
                    refine ql_s (.bool true) (by kernel_rfl) ?_
                    refine ql_s undef (by kernel_rfl) ?_
                    refine ql_s undef (by kernel_rfl) ?_
                    refine ql_s undef (by kernel_rfl) ?_
                    refine ql_s undef (by kernel_rfl) ?_
                    refine ql_s undef (by kernel_rfl) ?_
                    refine ql_s undef (by kernel_rfl) ?_
                    refine ql_s undef (by kernel_rfl) ?_
                    refine ql_s undef (by kernel_rfl) ?_
                    refine ql_s undef (by kernel_rfl) ?_
                    refine ql_s undef (by kernel_rfl) ?_
                    refine ql_s undef (by kernel_rfl) ?_
                    refine ql_s undef (by kernel_rfl) ?_
                    refine ql_s undef (by kernel_rfl) ?_
                    refine ql_s undef (by kernel_rfl) ?_
                    refine ql_s (.bool true) (by kernel_rfl) ?_
                    refine ql_nil (e_cutq ?_)
                    exact ⟨rfl, rfl, rfl, rfl, rfl, rfl, rfl, (congrArg Value.bool (by first | rfl | (rw [hg1, hg2, hg3]; rfl) | simp [hg1, hg2, hg3])), trivial⟩
                  · skip
                    refine ql_s (.pointer (some ⟨b3, 1, none⟩)) (by kernel_rfl) ?_
                    refine ql_q rfl (qs_ldpt encV fitv3 rfl 0 rfl (.int .i64 x3.Y) (Nat.le_of_ble_eq_true rfl) rfl) ?_
                    refine ql_s (.bool (decide (x3.Y > 4194304))) (by kernel_rfl) ?_
                    refine ql_s (.bool (decide (x3.Y > 4194304))) (by kernel_rfl) ?_
                    refine ql_s (.bool (decide (x3.Y > 4194304))) (by kernel_rfl) ?_
                    refine ql_case 40 (decide (x3.Y > 4194304)) rfl (fun hg4 => ?_) (fun hg4 => ?_)
                    · skip
                      refine ql_s undef (by kernel_rfl) ?_
                      refine ql_s undef (by kernel_rfl) ?_
                      refine ql_s undef (by kernel_rfl) ?_
                      refine ql_s undef (by kernel_rfl) ?_
                      refine ql_s undef (by kernel_rfl) ?_
                      refine ql_s undef (by kernel_rfl) ?_
                      refine ql_s undef (by kernel_rfl) ?_
                      refine ql_s undef (by kernel_rfl) ?_
                      refine ql_s undef (by kernel_rfl) ?_
                      refine ql_s undef (by kernel_rfl) ?_
                      refine ql_s undef (by kernel_rfl) ?_
                      refine ql_s undef (by kernel_rfl) ?_
                      refine ql_s undef (by kernel_rfl) ?_
                      refine ql_s undef (by kernel_rfl) ?_
                      refine ql_s (.bool true) (by kernel_rfl) ?_
                      refine ql_nil (e_cutq ?_)
                      exact ⟨rfl, rfl, rfl, rfl, rfl, rfl, rfl, (congrArg Value.bool (by first | rfl | (rw [hg1, hg2, hg3, hg4]; rfl) | simp [hg1, hg2, hg3, hg4])), trivial⟩
                    · skip
                      refine ql_s (.pointer none) (by kernel_rfl) ?_
                      refine ql_q rfl (qs_eqptr (op := .neq) Tryz.underlying67 rfl rfl (.inr rfl) (v := false) rfl) ?_
                      refine ql_s (.bool false) (by kernel_rfl) ?_
                      refine ql_s undef (by kernel_rfl) ?_
                      refine ql_s undef (by kernel_rfl) ?_
                      refine ql_s undef (by kernel_rfl) ?_
                      refine ql_s undef (by kernel_rfl) ?_
                      refine ql_s undef (by kernel_rfl) ?_
                      refine ql_s undef (by kernel_rfl) ?_
                      refine ql_s undef (by kernel_rfl) ?_
                      refine ql_s undef (by kernel_rfl) ?_
                      refine ql_s undef (by kernel_rfl) ?_
                      refine ql_s undef (by kernel_rfl) ?_
                      refine ql_s (.bool false) (by kernel_rfl) ?_
                      refine ql_s (.bool false) (by kernel_rfl) ?_
                      refine ql_nil (e_cutq ?_)
                      exact ⟨rfl, rfl, rfl, rfl, rfl, rfl, rfl, (congrArg Value.bool (by first | rfl | (rw [hg1, hg2, hg3, hg4]; rfl) | simp [hg1, hg2, hg3, hg4])), trivial⟩
            intro _
            refine e_then ?_
            refine c_cond (((decide (x3.X < (-4194304))) || ((decide (x3.X > 4194304)) || ((decide (x3.Y < (-4194304))) || ((decide (x3.Y > 4194304)) && true))))) rfl (fun ht5 => ?_) (fun ht5 => ?_)
            · skip
              replace hs3 := if_t ht5 hs3
              refine c_seq ?_
              refine c_quiet ?_
              refine ql_s (.int .i64 5) (by kernel_rfl) ?_
              refine ql_nil ?_
              refine e_drop ?_
              refine e_then ?_
              refine c_ret ?_
              refine e_then_ret ?_
              refine e_blk_ret ?_
              refine e_then_ret ?_
              obtain rfl := Option.some.inj hs3
              dsimp only at hx1
              refine e_then_ret ?_
              refine e_then_ret ?_
              obtain rfl := Option.some.inj hx1
              obtain rfl := hs2
              refine e_blk_ret ?_
              refine e_then_ret ?_
              dsimp only at hp
              refine e_then_ret ?_
              obtain rfl := Option.some.inj hp
              exact post_all (vs := [.int .i64 5]) (.int .i64 5) ⟨rfl, trivial⟩ rfl (.inl rfl) (fun w hS => ⟨rfl, (hS.lower hD1)⟩)
            · skip
              replace hs3 := if_f ht5 hs3
              refine c_skip ?_
              refine e_then ?_
              refine c_seq ?_
              refine c_quiet ?_
              refine ql_s (.int .i64 (i1 : Int)) (by kernel_rfl) ?_
              refine ql_s (.bool (decide ((i1 : Int) > 0))) (by kernel_rfl) ?_
              refine ql_nil ?_
              refine e_then ?_
              refine c_cond (decide ((i1 : Int) > 0)) rfl (fun ht6 => ?_) (fun ht6 => ?_)
              · skip
                replace hs3 := if_t ht6 hs3
                refine c_seq ?_
                obtain ⟨x4, hx3, hs3⟩ := bnd_some hs3
                obtain ⟨b4, o2, h2, hq2⟩ := RO.at way0_h1 hx3
                obtain ⟨cs2, hc2, ha2⟩ := h2.cells
                obtain rfl := hc2
                obtain ⟨r1, hr1, hs3⟩ := bnd_some hs3
                refine c_quiet_draw hmix (by kernel_rfl) ?_
                refine ql_s (.slice way0_v1a way0.length way0_v1c) (by kernel_rfl) ?_
                refine ql_s (.int .i64 (i1 : Int)) (by kernel_rfl) ?_
                refine ql_s (.int .i64 (subI (i1 : Int) 1)) (by kernel_rfl) ?_
                refine ql_q rfl (qs_idx hq2 Tryz.underlying22 fit43 rfl rfl) ?_
                refine ql_q rfl (qs_ldC fit43 rfl ha2 rfl (.agg #[.int .i64 x4.X, .int .i64 x4.Y]) rfl) ?_
                refine ql_q rfl (qs_ldpt (encW 2 (by decide)) fitv43 rfl 0 rfl (.agg #[.int .i64 x3.X, .int .i64 x3.Y]) (Nat.le_of_ble_eq_true rfl) rfl) ?_
                refine ql_call (v := .tuple #[.int .i64 r1.1, .int .i64 r1.2]) rfl (run_call (vs := [.agg #[.int .i64 x4.X, .int .i64 x4.Y], .agg #[.int .i64 x3.X, .int .i64 x3.Y]]) rfl Tryz.call13 rfl) (fun w hS => (tarnref2_Leap_s x4 x3 _  _ _ hr1 w (hS)).mono fun e w' h => ⟨h.1, h.2⟩) ?_
                refine ql_s (.tuple #[.int .i64 r1.1, .int .i64 r1.2]) (by kernel_rfl) ?_
                refine ql_s (.int .i64 r1.1) (by kernel_rfl) ?_
                refine ql_s (.int .i64 r1.2) (by kernel_rfl) ?_
                refine ql_s (.int .i64 r1.1) (by kernel_rfl) ?_
                refine ql_s (.int .i64 r1.2) (by kernel_rfl) ?_
                refine ql_nil ?_
                refine e_drop ?_
                refine e_then ?_
                refine c_seq ?_
                refine c_cutq_end [(0, .pointer none), (1, .slice way0_v1a way0.length way0_v1c), (15, .slice way0_v1a way0.length way0_v1c), (16, .int .i64 (way0.length : Int)), (17, .int .i64 (i1 : Int)), (73, .bool ((r1.2 == 0) || (decide (r1.2 > 12))))] ?_ ?_
                · skip
                  refine c_quiet ?_
                  refine ql_s (.int .i64 r1.2) (by kernel_rfl) ?_
                  refine ql_s (.bool (r1.2 == 0)) (by kernel_rfl) ?_
                  refine ql_s (.bool (r1.2 == 0)) (by kernel_rfl) ?_
                  refine ql_case 70 ((r1.2 == 0)) rfl (fun hg5 => ?_) (fun hg5 => ?_)
                  · skip
                    refine ql_s undef (by kernel_rfl) ?_
                    refine ql_s undef (by kernel_rfl) ?_
                    refine ql_s (.bool true) (by kernel_rfl) ?_
                    refine ql_nil (e_cutq ?_)
                    exact ⟨rfl, rfl, rfl, rfl, rfl, (congrArg Value.bool (by first | rfl | (rw [hg5]; rfl) | simp [hg5])), trivial⟩
                  · skip
                    refine ql_s (.int .i64 r1.2) (by kernel_rfl) ?_
                    refine ql_s (.bool (decide (r1.2 > 12))) (by kernel_rfl) ?_
                    refine ql_s (.bool (decide (r1.2 > 12))) (by kernel_rfl) ?_
                    refine ql_nil (e_cutq ?_)
                    exact ⟨rfl, rfl, rfl, rfl, rfl, (congrArg Value.bool (by first | rfl | (rw [hg5]; rfl) | simp [hg5])), trivial⟩
                intro _
                refine e_then ?_
                refine c_cond (((r1.2 == 0) || (decide (r1.2 > 12)))) rfl (fun ht7 => ?_) (fun ht7 => ?_)
                · skip
                  replace hs3 := if_t ht7 hs3
                  refine c_seq ?_
                  refine c_quiet ?_
                  refine ql_s (.int .i64 2) (by kernel_rfl) ?_
                  refine ql_nil ?_
                  refine e_then ?_
                  refine c_ret ?_
                  refine e_blk_ret ?_
                  refine e_then_ret ?_
                  obtain rfl := Option.some.inj hs3
                  dsimp only at hx1
                  refine e_then_ret ?_
                  refine e_then_ret ?_
                  obtain rfl := Option.some.inj hx1
                  obtain rfl := hs2
                  refine e_blk_ret ?_
                  refine e_then_ret ?_
                  dsimp only at hp
                  refine e_then_ret ?_
                  obtain rfl := Option.some.inj hp
                  exact post_all (vs := [.int .i64 2]) (.int .i64 2) ⟨rfl, trivial⟩ rfl (.inl rfl) (fun w hS => ⟨rfl, (hS.lower hD1)⟩)
                · skip
                  replace hs3 := if_f ht7 hs3
                  refine c_skip ?_
                  refine e_blk ?_
                  obtain rfl := Option.some.inj hs3
                  exact e_cut ⟨(), rfl, ⟨rfl, rfl, rfl, rfl, rfl, trivial⟩, (PH.le_refl _), rfl⟩
              · skip
                replace hs3 := if_f ht6 hs3
                refine c_skip ?_
                refine e_blk ?_
                refine e_drop ?_
                obtain rfl := Option.some.inj hs3
                exact e_cut ⟨(), rfl, ⟨rfl, rfl, rfl, rfl, rfl, trivial⟩, (PH.le_refl _), rfl⟩
          · skip
            rintro φ2 D3 As2 ⟨s3, rfl, hI2, hD2, hA2⟩
            subst As2
            replace way0_h1 := way0_h1.mono hD2
            dsimp only at hx1
            refine e_frame _ hI2 ?_
            refine e_then ?_
            refine c_quiet ?_
            refine ql_s (.int .i64 (addI (i1 : Int) 1)) (by kernel_rfl) ?_
            refine ql_s (.int .i64 (addI (i1 : Int) 1)) (by kernel_rfl) ?_
            refine ql_nil ?_
            obtain rfl := Option.some.inj hx1
            exact e_cut ⟨j1, i1 + 1, (), by omega, by omega, ⟨rfl, rfl, rfl, rfl, (congrArg (Value.int .i64) (addI_succ (by omega))), trivial⟩, (PH.le_trans hD1 hD2), rfl, hs2⟩
      · skip
        rintro φ3 D1 As3 ⟨s1, rfl, hI3, hD3, hA3⟩
        subst As3
        dsimp only at hp
        refine e_frame _ hI3 ?_
        refine e_then ?_
        refine c_seq ?_
        refine c_quiet ?_
        refine ql_s (.int .i64 0) (by kernel_rfl) ?_
        refine ql_nil ?_
        refine e_then ?_
        refine c_ret ?_
        obtain rfl := Option.some.inj hp
        exact post_all (vs := [.int .i64 0]) (.int .i64 0) ⟨rfl, trivial⟩ rfl (.inl rfl) (fun w hS => ⟨rfl, (hS.lower hD3)⟩)

-- strconv.Itoa
set_option maxRecDepth 100000 in
set_option maxHeartbeats 2000000 in
theorem strconv_Itoa_s (i0 : Int) (D : PH)  (F : List Assert) (r : ByteArray) (hp : itoaP i0 = some r) : ∀ w : World, SInv D (F) w → Calls Tryz.prog 26 #[.int .i64 i0] w (fun e w' => e = .returned (.string r) ∧ SInv D (F) w') := by
  exact given_itoa (P := Tryz.prog) (fun h => GV.pow10 h) (fun n h0 h1 w ht => Tryz.strconv_Itoa n h0 h1 w ht) hp

-- tarnfell/tarnlaw2.wayText
set_option maxRecDepth 100000 in
set_option maxHeartbeats 2000000 in
theorem tarnlaw2_wayText_s (way0 : List S_api_Point) (way0_v1a : Option Addr) (way0_v1c : Nat) (D : PH) (way0_h1 : RO encS_api_Point D (.slice way0_v1a way0.length way0_v1c) way0) (F : List Assert) (r : ByteArray) (hp : tarnlaw2_wayText_p way0 = some r) : ∀ w : World, SInv D (F) w → Calls Tryz.prog 8 #[.slice way0_v1a way0.length way0_v1c] w (fun e w' => e = .returned (.string r) ∧ SInv D (F) w') := by
  intro w hS
  refine call_intro Tryz.func8 rfl Tryz.ntmps8 (Nat.le_of_ble_eq_true rfl) hS ?_
  clear hS w
  unfold tarnlaw2_wayText_p at hp
  refine c_seq ?_
  refine c_quiet ?_
  refine ql_s (.string (⟨#[]⟩ : ByteArray)) (by kernel_rfl) ?_
  refine ql_nil ?_
  refine e_then ?_
  refine c_seq ?_
  obtain ⟨x1, hx1, hp⟩ := bnd_some hp
  obtain ⟨b1, o1, h1, hq1⟩ := RO.at way0_h1 hx1
  have h2 := AtB.field (e' := encI .i64) (u := x1.X) 0 (by decide) (by intro cs hcs; rw [show cs = _ from hcs]; rfl) h1
  obtain ⟨r1, hr1, hp⟩ := bnd_some hp
  obtain ⟨r2, hr2, hp⟩ := bnd_some hp
  have h3 := AtB.field (e' := encI .i64) (u := x1.Y) 1 (by decide) (by intro cs hcs; rw [show cs = _ from hcs]; rfl) h1
  obtain ⟨r3, hr3, hp⟩ := bnd_some hp
  obtain ⟨r4, hr4, hp⟩ := bnd_some hp
  refine c_quiet_draw hmix (by kernel_rfl) ?_
  refine ql_s (.slice way0_v1a way0.length way0_v1c) (by kernel_rfl) ?_
  refine ql_q rfl (qs_idx hq1 Tryz.underlying22 fit43 rfl rfl) ?_
  refine ql_s (.pointer (some ⟨b1, (o1 + 0), none⟩)) (by kernel_rfl) ?_
  refine ql_q rfl (qs_ldAtV fit3 rfl h2 valI) ?_
  refine ql_call (v := .string r1) rfl (run_call (vs := [.int .i64 x1.X]) rfl Tryz.call26 rfl) (fun w hS => (strconv_Itoa_s x1.X _  _ _ hr1 w (hS)).mono fun e w' h => ⟨h.1, h.2⟩) ?_
  refine ql_q rfl (qs_strAdd rfl rfl hr2) ?_
  refine ql_s (.slice way0_v1a way0.length way0_v1c) (by kernel_rfl) ?_
  refine ql_q rfl (qs_idx hq1 Tryz.underlying22 fit43 rfl rfl) ?_
  refine ql_s (.pointer (some ⟨b1, (o1 + 1), none⟩)) (by kernel_rfl) ?_
  refine ql_q rfl (qs_ldAtV fit3 rfl h3 valI) ?_
  refine ql_call (v := .string r3) rfl (run_call (vs := [.int .i64 x1.Y]) rfl Tryz.call26 rfl) (fun w hS => (strconv_Itoa_s x1.Y _  _ _ hr3 w (hS)).mono fun e w' h => ⟨h.1, h.2⟩) ?_
  refine ql_q rfl (qs_strAdd rfl rfl hr4) ?_
  refine ql_s (.string r4) (by kernel_rfl) ?_
  refine ql_nil ?_
  refine e_then ?_
  refine c_seq ?_
  refine c_seq ?_
  refine c_quiet ?_
  refine ql_s (.int .i64 1) (by kernel_rfl) ?_
  refine ql_nil ?_
  refine e_then ?_
  obtain ⟨x2, hs1, hp⟩ := bnd_some hp
  obtain ⟨body1, hbody1, hs1⟩ := loopP_gen hs1
  refine c_cut_end (fun φ1 D1 As1 => Is φ1 [(3, .string x2)] ∧ PH.le D D1 ∧ As1 = F) ?_ ?_
  · skip
    refine c_block ?_
    obtain ⟨kz1, hs1⟩ := loopP_ex hs1
    refine c_loop (fun k φ1 D2 As1 => ∃ (s1 : ByteArray × Int), Is φ1 [(0, .slice way0_v1a way0.length way0_v1c), (3, .string s1.1), (4, .int .i64 s1.2)] ∧ PH.le D D2 ∧ As1 = F ∧ iter body1 k s1 = some x2) ⟨kz1, (r4, 1), ⟨rfl, rfl, rfl, trivial⟩, (PH.le_refl _), rfl, hs1⟩ ?_ ?_
    · rintro _ _ _ ⟨_, _, _, _, h0⟩; cases h0
    intro k1
    rintro φ1 D2 As1 ⟨s1, hI1, hD1, hA1, hs2⟩
    subst As1
    replace way0_h1 := way0_h1.mono hD1
    refine c_frame _ hI1 ?_
    obtain ⟨y1, hx2, hs2⟩ := iter_some hs2
    replace hx2 := (congrFun hbody1 s1).trans hx2
    refine c_seq ?_
    refine c_seq ?_
    refine c_quiet ?_
    refine ql_s (.int .i64 s1.2) (by kernel_rfl) ?_
    refine ql_s (.slice way0_v1a way0.length way0_v1c) (by kernel_rfl) ?_
    refine ql_s (.int .i64 (way0.length : Int)) (by kernel_rfl) ?_
    refine ql_s (.bool (decide (s1.2 < (way0.length : Int)))) (by kernel_rfl) ?_
    refine ql_nil ?_
    refine e_then ?_
    refine c_cond (decide (s1.2 < (way0.length : Int))) rfl (fun ht1 => ?_) (fun ht1 => ?_)
    · skip
      replace hx2 := if_t ht1 hx2
      refine c_skip ?_
      refine e_then ?_
      refine c_seq ?_
      obtain ⟨s2, hs3, hx2⟩ := bnd_some hx2
      refine c_cut_end (fun φ1 D3 As1 => Is φ1 [(0, .slice way0_v1a way0.length way0_v1c), (3, .string s2), (4, .int .i64 s1.2)] ∧ PH.le D2 D3 ∧ As1 = F) ?_ ?_
      · skip
        refine c_block ?_
        refine c_seq ?_
        obtain ⟨x3, hx3, hs3⟩ := bnd_some hs3
        obtain ⟨b2, o2, h4, hq2⟩ := RO.at way0_h1 hx3
        obtain ⟨cs1, hc1, ha1⟩ := h4.cells
        obtain rfl := hc1
        obtain ⟨x4, hx4, hs3⟩ := bnd_some hs3
        obtain ⟨b3, o3, h5, hq3⟩ := RO.at way0_h1 hx4
        obtain ⟨cs2, hc2, ha2⟩ := h5.cells
        obtain rfl := hc2
        obtain ⟨r5, hr5, hs3⟩ := bnd_some hs3
        refine c_quiet_draw hmix (by kernel_rfl) ?_
        refine ql_s (.slice way0_v1a way0.length way0_v1c) (by kernel_rfl) ?_
        refine ql_s (.int .i64 s1.2) (by kernel_rfl) ?_
        refine ql_s (.int .i64 (subI s1.2 1)) (by kernel_rfl) ?_
        refine ql_q rfl (qs_idx hq2 Tryz.underlying22 fit43 rfl rfl) ?_
        refine ql_q rfl (qs_ldC fit43 rfl ha1 rfl (.agg #[.int .i64 x3.X, .int .i64 x3.Y]) rfl) ?_
        refine ql_s (.slice way0_v1a way0.length way0_v1c) (by kernel_rfl) ?_
        refine ql_s (.int .i64 s1.2) (by kernel_rfl) ?_
        refine ql_q rfl (qs_idx hq3 Tryz.underlying22 fit43 rfl rfl) ?_
        refine ql_q rfl (qs_ldC fit43 rfl ha2 rfl (.agg #[.int .i64 x4.X, .int .i64 x4.Y]) rfl) ?_
        refine ql_call (v := .tuple #[.int .i64 r5.1, .int .i64 r5.2]) rfl (run_call (vs := [.agg #[.int .i64 x3.X, .int .i64 x3.Y], .agg #[.int .i64 x4.X, .int .i64 x4.Y]]) rfl Tryz.call13 rfl) (fun w hS => (tarnref2_Leap_s x3 x4 _  _ _ hr5 w (hS)).mono fun e w' h => ⟨h.1, h.2⟩) ?_
        refine ql_s (.tuple #[.int .i64 r5.1, .int .i64 r5.2]) (by kernel_rfl) ?_
        refine ql_s (.int .i64 r5.1) (by kernel_rfl) ?_
        refine ql_s (.int .i64 r5.2) (by kernel_rfl) ?_
        refine ql_s (.int .i64 r5.1) (by kernel_rfl) ?_
        refine ql_s (.int .i64 r5.2) (by kernel_rfl) ?_
        refine ql_nil ?_
        refine e_then ?_
        refine c_seq ?_
        obtain ⟨r6, hr6, hs3⟩ := bnd_some hs3
        obtain ⟨r7, hr7, hs3⟩ := bnd_some hs3
        obtain ⟨r8, hr8, hs3⟩ := bnd_some hs3
        refine c_quiet ?_
        refine ql_s (.string s1.1) (by kernel_rfl) ?_
        refine ql_s (.int .i64 r5.1) (by kernel_rfl) ?_
        refine ql_call (v := .string r6) rfl (run_call (vs := [.int .i64 r5.1]) rfl Tryz.call26 rfl) (fun w hS => (strconv_Itoa_s r5.1 _  _ _ hr6 w (hS)).mono fun e w' h => ⟨h.1, h.2⟩) ?_
        refine ql_q rfl (qs_strAdd rfl rfl hr7) ?_
        refine ql_q rfl (qs_strAdd rfl rfl hr8) ?_
        refine ql_s (.string r8) (by kernel_rfl) ?_
        refine ql_nil ?_
        refine e_then ?_
        refine c_seq ?_
        refine c_quiet ?_
        refine ql_s (.int .i64 r5.2) (by kernel_rfl) ?_
        refine ql_s (.bool (decide (r5.2 > 1))) (by kernel_rfl) ?_
        refine ql_nil ?_
        refine e_then ?_
        refine c_cond (decide (r5.2 > 1)) rfl (fun ht2 => ?_) (fun ht2 => ?_)
        · skip
          replace hs3 := if_t ht2 hs3
          obtain ⟨r9, hr9, hs3⟩ := bnd_some hs3
          obtain ⟨r10, hr10, hs3⟩ := bnd_some hs3
          obtain ⟨r11, hr11, hs3⟩ := bnd_some hs3
          refine c_quiet ?_
          refine ql_s (.string r8) (by kernel_rfl) ?_
          refine ql_s (.int .i64 r5.2) (by kernel_rfl) ?_
          refine ql_call (v := .string r9) rfl (run_call (vs := [.int .i64 r5.2]) rfl Tryz.call26 rfl) (fun w hS => (strconv_Itoa_s r5.2 _  _ _ hr9 w (hS)).mono fun e w' h => ⟨h.1, h.2⟩) ?_
          refine ql_q rfl (qs_strAdd rfl rfl hr10) ?_
          refine ql_q rfl (qs_strAdd rfl rfl hr11) ?_
          refine ql_s (.string r11) (by kernel_rfl) ?_
          refine ql_nil ?_
          refine e_blk ?_
          obtain rfl := Option.some.inj hs3
          exact e_cut ⟨⟨rfl, rfl, rfl, trivial⟩, (PH.le_refl _), rfl⟩
        · skip
          replace hs3 := if_f ht2 hs3
          refine c_skip ?_
          refine e_blk ?_
          obtain rfl := Option.some.inj hs3
          exact e_cut ⟨⟨rfl, rfl, rfl, trivial⟩, (PH.le_refl _), rfl⟩
      · skip
        rintro φ2 D3 As2 ⟨hI2, hD2, hA2⟩
        subst As2
        replace way0_h1 := way0_h1.mono hD2
        refine e_frame _ hI2 ?_
        refine e_then ?_
        refine c_quiet ?_
        refine ql_s (.int .i64 s1.2) (by kernel_rfl) ?_
        refine ql_s (.int .i64 (addI s1.2 1)) (by kernel_rfl) ?_
        refine ql_s (.int .i64 (addI s1.2 1)) (by kernel_rfl) ?_
        refine ql_nil ?_
        obtain rfl := Option.some.inj hx2
        exact e_cut ⟨(s2, addI s1.2 1), ⟨rfl, rfl, rfl, trivial⟩, (PH.le_trans hD1 hD2), rfl, hs2⟩
    · skip
      replace hx2 := if_f ht1 hx2
      refine c_exit ?_
      refine e_then_exit ?_
      refine e_then_exit ?_
      obtain rfl := Option.some.inj hx2
      obtain rfl := hs2
      refine e_blk_exit ?_
      exact e_cut ⟨⟨rfl, trivial⟩, hD1, rfl⟩
  · skip
    rintro φ3 D1 As3 ⟨hI3, hD3, hA3⟩
    subst As3
    refine e_frame _ hI3 ?_
    refine e_then ?_
    refine c_seq ?_
    refine c_quiet ?_
    refine ql_s (.string x2) (by kernel_rfl) ?_
    refine ql_s (.string x2) (by kernel_rfl) ?_
    refine ql_nil ?_
    refine e_then ?_
    refine c_ret ?_
    obtain rfl := Option.some.inj hp
    exact post_all (vs := [.string x2]) (.string x2) ⟨rfl, trivial⟩ rfl (.inl rfl) (fun w hS => ⟨rfl, (hS.lower hD3)⟩)

-- tarnfell/tarnlaw2.WaysRead
set_option maxRecDepth 100000 in
set_option maxHeartbeats 2000000 in
theorem tarnlaw2_WaysRead_s (text0 : ByteArray) (D : PH)  (F : List Assert) (r : Bool) (hp : tarnlaw2_WaysRead_p text0 = some r) : ∀ w : World, SInv D (F) w → Calls Tryz.prog 3 #[.string text0] w (fun e w' => e = .returned (.bool r) ∧ SInv D (F) w') := by
  intro w hS
  refine call_intro Tryz.func3 rfl Tryz.ntmps3 (Nat.le_of_ble_eq_true rfl) hS ?_
  clear hS w
  unfold tarnlaw2_WaysRead_p at hp
  refine c_seq ?_
  refine c_quiet ?_
  refine ql_s (.bool false) (by kernel_rfl) ?_
  refine ql_nil ?_
  refine e_then ?_
  refine c_seq ?_
  obtain ⟨r1, hr1, hp⟩ := bnd_some hp
  refine c_region ?_
  refine l_s (.string text0) (by kernel_rfl) ?_
  refine l_call rfl rfl Tryz.call5 (vs := [.string text0]) rfl (fun v D2 As2 => ∃ (a2 : Option Addr) (cp2 : Nat), PH.le D D2 ∧ v = .tuple #[.slice a2 r1.1.length cp2, .int .i64 r1.2] ∧ RO encS_api_Point D2 (.slice a2 r1.1.length cp2) r1.1 ∧ As2 = F) (fun w hS => (road_Parse_s text0 _  _ _ hr1 w (hS)).mono fun e w' ⟨D2, a2, cp2, hle2, he, h2, hS2⟩ => ⟨_, D2, _, he, ⟨a2, cp2, hle2, rfl, h2, rfl⟩, hS2⟩) ?_
  rintro _ D2 As2 ⟨a2, cp2, hle2, rfl, h2, hA2⟩
  subst As2
  refine l_s (.tuple #[.slice a2 r1.1.length cp2, .int .i64 r1.2]) (by kernel_rfl) ?_
  refine l_s (.slice a2 r1.1.length cp2) (by kernel_rfl) ?_
  refine l_s (.int .i64 r1.2) (by kernel_rfl) ?_
  refine l_s (.slice a2 r1.1.length cp2) (by kernel_rfl) ?_
  refine l_s (.int .i64 r1.2) (by kernel_rfl) ?_
  refine l_nil ?_
  refine e_then ?_
  refine c_seq ?_
  refine c_seq ?_
  obtain ⟨c1, hc1, hp⟩ := bnd_some hp
  refine c_cutq_end [(0, .string text0), (3, .slice a2 r1.1.length cp2), (4, .int .i64 r1.2), (16, .bool c1)] ?_ ?_
  · skip
    refine c_quiet ?_
    obtain ⟨r2, hr2, hc1⟩ := bnd_some hc1
    refine ql_call (v := .bool r2) rfl (run_call (vs := []) rfl Tryz.call6 rfl) (fun w hS => (tarnlaw2_leads_s  _  _ _ hr2 w (hS)).mono fun e w' h => ⟨h.1, h.2⟩) ?_
    refine ql_s (.bool (!r2)) (by kernel_rfl) ?_
    refine ql_s (.bool (!r2)) (by kernel_rfl) ?_
    refine ql_case 12 (!r2) rfl (fun hg1 => ?_) (fun hg1 => ?_)
    · skip
      replace hc1 := if_t hg1 hc1
      refine ql_s undef (by kernel_rfl) ?_
      refine ql_s undef (by kernel_rfl) ?_
      refine ql_s undef (by kernel_rfl) ?_
      refine ql_s (.bool true) (by kernel_rfl) ?_
      refine ql_nil (e_cutq ?_)
      obtain rfl := Option.some.inj hc1
      exact ⟨rfl, rfl, rfl, rfl, trivial⟩
    · skip
      replace hc1 := if_f hg1 hc1
      refine ql_s (.string text0) (by kernel_rfl) ?_
      refine ql_q rfl (qs_strLen Tryz.underlying9 rfl) ?_
      refine ql_s (.bool (decide ((text0.size : Int) > 10000))) (by kernel_rfl) ?_
      refine ql_s (.bool (decide ((text0.size : Int) > 10000))) (by kernel_rfl) ?_
      refine ql_nil (e_cutq ?_)
      obtain rfl := Option.some.inj hc1
      exact ⟨rfl, rfl, rfl, rfl, trivial⟩
  intro _
  refine e_then ?_
  refine c_cond (c1) rfl (fun ht1 => ?_) (fun ht1 => ?_)
  · skip
    replace hp := if_t ht1 hp
    refine c_seq ?_
    obtain ⟨r3, hr3, hp⟩ := bnd_some hp
    refine c_quiet ?_
    refine ql_call (v := .bool r3) rfl (run_call (vs := []) rfl Tryz.call6 rfl) (fun w hS => (tarnlaw2_leads_s  _  _ _ hr3 w (hS)).mono fun e w' h => ⟨h.1, h.2⟩) ?_
    refine ql_s (.bool r3) (by kernel_rfl) ?_
    refine ql_nil ?_
    refine e_then ?_
    refine c_ret ?_
    refine e_then_ret ?_
    obtain rfl := Option.some.inj hp
    exact post_all (vs := [.bool r3]) (.bool r3) ⟨rfl, trivial⟩ rfl (.inl rfl) (fun w hS => ⟨rfl, (hS.lower hle2)⟩)
  · skip
    replace hp := if_f ht1 hp
    refine c_skip ?_
    refine e_then ?_
    refine c_seq ?_
    refine c_seq ?_
    refine c_quiet ?_
    refine ql_s (.int .i64 r1.2) (by kernel_rfl) ?_
    refine ql_s (.bool (r1.2 == 0)) (by kernel_rfl) ?_
    refine ql_nil ?_
    refine e_then ?_
    refine c_cond ((r1.2 == 0)) rfl (fun ht2 => ?_) (fun ht2 => ?_)
    · skip
      replace hp := if_t ht2 hp
      refine c_seq ?_
      obtain ⟨c2, hc2, hp⟩ := bnd_some hp
      refine c_cutq_end [(2, .bool c2)] ?_ ?_
      · skip
        refine c_quiet ?_
        refine ql_s (.slice a2 r1.1.length cp2) (by kernel_rfl) ?_
        obtain ⟨r4, hr4, hc2⟩ := bnd_some hc2
        refine ql_call (v := .int .i64 r4) rfl (run_call (vs := [.pointer none, .slice a2 r1.1.length cp2]) rfl Tryz.call7 rfl) (fun w hS => (tarnref2_WayError_s r1.1 a2 cp2 _ h2 _ _ hr4 w (hS)).mono fun e w' h => ⟨h.1, h.2⟩) ?_
        refine ql_s (.bool (r4 == 0)) (by kernel_rfl) ?_
        refine ql_s (.bool (r4 == 0)) (by kernel_rfl) ?_
        refine ql_case 23 ((r4 == 0)) rfl (fun hg2 => ?_) (fun hg2 => ?_)
        · skip
          replace hc2 := if_t hg2 hc2
          refine ql_s (.slice a2 r1.1.length cp2) (by kernel_rfl) ?_
          obtain ⟨r5, hr5, hc2⟩ := bnd_some hc2
          refine ql_call (v := .string r5) rfl (run_call (vs := [.slice a2 r1.1.length cp2]) rfl Tryz.call8 rfl) (fun w hS => (tarnlaw2_wayText_s r1.1 a2 cp2 _ h2 _ _ hr5 w (hS)).mono fun e w' h => ⟨h.1, h.2⟩) ?_
          refine ql_s (.string text0) (by kernel_rfl) ?_
          refine ql_q rfl (qs_strCmp (op := .eql) (v := strEq r5 text0) rfl rfl rfl rfl) ?_
          refine ql_s (.bool (strEq r5 text0)) (by kernel_rfl) ?_
          refine ql_s (.bool (strEq r5 text0)) (by kernel_rfl) ?_
          refine ql_nil (e_cutq ?_)
          obtain rfl := Option.some.inj hc2
          exact ⟨rfl, trivial⟩
        · skip
          replace hc2 := if_f hg2 hc2
          refine ql_s undef (by kernel_rfl) ?_
          refine ql_s undef (by kernel_rfl) ?_
          refine ql_s undef (by kernel_rfl) ?_
          refine ql_s undef (by kernel_rfl) ?_
          refine ql_s (.bool false) (by kernel_rfl) ?_
          refine ql_s (.bool false) (by kernel_rfl) ?_
          refine ql_nil (e_cutq ?_)
          obtain rfl := Option.some.inj hc2
          exact ⟨rfl, trivial⟩
      intro _
      refine e_then ?_
      refine c_ret ?_
      refine e_then_ret ?_
      obtain rfl := Option.some.inj hp
      exact post_all (vs := [.bool c2]) (.bool c2) ⟨rfl, trivial⟩ rfl (.inl rfl) (fun w hS => ⟨rfl, (hS.lower hle2)⟩)
    · skip
      replace hp := if_f ht2 hp
      refine c_skip ?_
      refine e_then ?_
      refine c_seq ?_
      refine c_cutq_end [(2, .bool (((r1.1.length : Int) == 0) && ((r1.2 == 9) || (r1.2 == 5))))] ?_ ?_
      · skip
        refine c_quiet ?_
        refine ql_s (.slice a2 r1.1.length cp2) (by kernel_rfl) ?_
        refine ql_s (.int .i64 (r1.1.length : Int)) (by kernel_rfl) ?_
        refine ql_s (.bool ((r1.1.length : Int) == 0)) (by kernel_rfl) ?_
        refine ql_s (.bool ((r1.1.length : Int) == 0)) (by kernel_rfl) ?_
        refine ql_case 32 (((r1.1.length : Int) == 0)) rfl (fun hg3 => ?_) (fun hg3 => ?_)
        · skip
          refine ql_s (.int .i64 r1.2) (by kernel_rfl) ?_
          refine ql_s (.bool (r1.2 == 9)) (by kernel_rfl) ?_
          refine ql_s (.bool (r1.2 == 9)) (by kernel_rfl) ?_
          refine ql_case 35 ((r1.2 == 9)) rfl (fun hg4 => ?_) (fun hg4 => ?_)
          · skip
            refine ql_s undef (by kernel_rfl) ?_
            refine ql_s undef (by kernel_rfl) ?_
            refine ql_s (.bool true) (by kernel_rfl) ?_
            refine ql_s (.bool true) (by kernel_rfl) ?_
            refine ql_s (.bool true) (by kernel_rfl) ?_
            refine ql_nil (e_cutq ?_)
            exact ⟨(congrArg Value.bool (by first | rfl | (rw [hg3, hg4]; rfl) | simp [hg3, hg4])), trivial⟩
          · skip
            refine ql_s (.int .i64 r1.2) (by kernel_rfl) ?_
            refine ql_s (.bool (r1.2 == 5)) (by kernel_rfl) ?_
            refine ql_s (.bool (r1.2 == 5)) (by kernel_rfl) ?_
            refine ql_s (.bool (r1.2 == 5)) (by kernel_rfl) ?_
            refine ql_s (.bool (r1.2 == 5)) (by kernel_rfl) ?_
            refine ql_nil (e_cutq ?_)
            exact ⟨(congrArg Value.bool (by first | rfl | (rw [hg3, hg4]; rfl) | simp [hg3, hg4])), trivial⟩
        · skip
          refine ql_s undef (by kernel_rfl) ?_
          refine ql_s undef (by kernel_rfl) ?_
          refine ql_s undef (by kernel_rfl) ?_
          refine ql_s undef (by kernel_rfl) ?_
          refine ql_s undef (by kernel_rfl) ?_
          refine ql_s undef (by kernel_rfl) ?_
          refine ql_s (.bool false) (by kernel_rfl) ?_
          refine ql_s (.bool false) (by kernel_rfl) ?_
          refine ql_nil (e_cutq ?_)
          exact ⟨(congrArg Value.bool (by first | rfl | (rw [hg3]; rfl) | simp [hg3])), trivial⟩
      intro _
      refine e_then ?_
      refine c_ret ?_
      obtain rfl := Option.some.inj hp
      exact post_all (vs := [.bool (((r1.1.length : Int) == 0) && ((r1.2 == 9) || (r1.2 == 5)))]) (.bool (((r1.1.length : Int) == 0) && ((r1.2 == 9) || (r1.2 == 5)))) ⟨rfl, trivial⟩ rfl (.inl rfl) (fun w hS => ⟨rfl, (hS.lower hle2)⟩)

end Go.Proofs.YtlngccfplnbeiaaGreatDoor
