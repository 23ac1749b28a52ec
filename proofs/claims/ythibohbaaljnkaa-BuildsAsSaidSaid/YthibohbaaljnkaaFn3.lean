/- Own text, by program: that the code computes the pure functions. -/
import Derived.Test.YthibohbaaljnkaaFn2
namespace Go.Proofs.Ythibohbaaljnkaa
open Sx
set_option linter.all false
variable [WB]

-- tarnfell/tarnlaw2.leads
set_option maxRecDepth 100000 in
set_option maxHeartbeats 4000000 in
theorem tarnlaw2_leads_s  (D : PH)  (F : List Assert) (r : Bool) (hp : tarnlaw2_leads_p  = some r) : ∀ w : World, SInv D (F) w → Calls Try.prog 13 #[] w (fun e w' => e = .returned (.bool r) ∧ SInv D (F) w') := by
  intro w hS
  refine call_intro Try.func13 rfl Try.ntmps13 (Nat.le_of_ble_eq_true rfl) hS ?_
  clear hS w
  unfold tarnlaw2_leads_p at hp
  refine c_seq ?_
  refine c_quiet ?_
  refine ql_s (.bool false) (by kernel_rfl) ?_
  refine ql_nil ?_
  refine e_then ?_
  refine c_seq ?_
  refine c_region ?_
  refine l_s (.agg #[.int .i64 0, .int .i64 0, .int .i64 2, .int .i64 1]) (by kernel_rfl) ?_
  refine l_bslS (cs := [.float .f32 0, .float .f32 0]) (E := 40) (e := encF .f32) ([0, 0] : List Nat) rfl (by kernel_rfl) rfl rfl (Nat.le_of_ble_eq_true rfl) ⟨rfl, rfl, trivial⟩ (fun b3 cp2 => ?_)
  refine l_s (.agg #[.int .i64 0, .int .i64 0, .int .i64 2, .int .i64 1, .slice (some ⟨b3, 0, none⟩) (([0, 0] : List Nat).length) cp2]) (by kernel_rfl) ?_
  refine l_alloc (zs := [.int .i64 0, .int .i64 0, .int .i64 0, .int .i64 0, .slice none 0 0]) rfl (by kernel_rfl) (fun b4 => ?_)
  refine l_store (dd := none) (vs := [.int .i64 0, .int .i64 0, .int .i64 2, .int .i64 1, .slice (some ⟨b3, 0, none⟩) (([0, 0] : List Nat).length) cp2]) (cs' := [.int .i64 0, .int .i64 0, .int .i64 2, .int .i64 1, .slice (some ⟨b3, 0, none⟩) (([0, 0] : List Nat).length) cp2]) rfl (by kernel_rfl) (by kernel_rfl) rfl rfl (Nat.le_of_ble_eq_true rfl) rfl rfl ?_
  refine l_nil ?_
  refine e_then ?_
  refine c_seq ?_
  obtain ⟨r1, hr1, hp⟩ := bnd_some hp
  refine c_region ?_
  refine l_q rfl (qs_ldpt (encW 5 (by decide)) fitv26 rfl 0 rfl (.agg #[.int .i64 0, .int .i64 0, .int .i64 2, .int .i64 1, .slice (some ⟨b3, 0, none⟩) (([0, 0] : List Nat).length) cp2]) (Nat.le_of_ble_eq_true rfl) rfl) ?_
  refine l_s (.agg #[.float .f32 0, .float .f32 0, .float .f32 1065353216, .float .f32 0, .int .i64 0, .slice none 0 0]) (by kernel_rfl) ?_
  refine l_s (.agg #[.int .i64 0, .int .i64 0]) (by kernel_rfl) ?_
  refine l_s (.agg #[.int .i64 1, .int .i64 0]) (by kernel_rfl) ?_
  refine l_perm (fr1_perm 1 _) ?_
  refine l_layS (PH.le_refl _) (fun D3 hle3 h3 => ?_)
  refine l_call rfl rfl Try.call31 (vs := [.agg #[.int .i64 0, .int .i64 0, .int .i64 2, .int .i64 1, .slice (some ⟨b3, 0, none⟩) ([0, 0] : List Nat).length cp2], .agg #[.float .f32 0, .float .f32 0, .float .f32 1065353216, .float .f32 0, .int .i64 0, .slice none 0 0], .agg #[.int .i64 0, .int .i64 0], .agg #[.int .i64 1, .int .i64 0]]) rfl (fun v D4 As2 => ∃ (a2 : Option Addr) (cp4 : Nat), PH.le D3 D4 ∧ v = .tuple #[.slice a2 r1.1.length cp4, .float .f32 r1.2.1, .int .i64 r1.2.2] ∧ RO encS_api_Point D4 (.slice a2 r1.1.length cp4) r1.1 ∧ As2 = pt b4 [.int .i64 0, .int .i64 0, .int .i64 2, .int .i64 1, .slice (some ⟨b3, 0, none⟩) ([0, 0] : List Nat).length cp2] 26 :: F) (fun w hS => (road_Way_s (⟨(⟨0, 0, 2, 1⟩ : S_api_Region), ([0, 0] : List Nat)⟩ : S_api_Field) (some ⟨b3, 0, none⟩) cp2 (⟨0, 0, 1065353216, 0, 0, []⟩ : S_api_RoadRules) none 0 (⟨0, 0⟩ : S_api_Point) (⟨1, 0⟩ : S_api_Point) _ h3 (RO.nil _ _) _ _ hr1 w (hS)).mono fun e w' ⟨D4, a2, cp4, hle4, he, h4, hS2⟩ => ⟨_, D4, _, he, ⟨a2, cp4, hle4, rfl, h4, rfl⟩, hS2⟩) ?_
  rintro _ D4 As2 ⟨a2, cp4, hle4, rfl, h4, hA2⟩
  subst As2
  replace h3 := h3.mono hle4
  refine l_s (.tuple #[.slice a2 r1.1.length cp4, .float .f32 r1.2.1, .int .i64 r1.2.2]) (by kernel_rfl) ?_
  refine l_s (.slice a2 r1.1.length cp4) (by kernel_rfl) ?_
  refine l_s (.float .f32 r1.2.1) (by kernel_rfl) ?_
  refine l_s (.int .i64 r1.2.2) (by kernel_rfl) ?_
  refine l_s (.slice a2 r1.1.length cp4) (by kernel_rfl) ?_
  refine l_s (.float .f32 r1.2.1) (by kernel_rfl) ?_
  refine l_s (.int .i64 r1.2.2) (by kernel_rfl) ?_
  refine l_nil ?_
  refine e_drop ?_
  refine e_then ?_
  refine c_seq ?_
  refine c_cutq_end [(0, .bool ((r1.2.2 == 0) && (((r1.1.length : Int) == 2) && (feq .f32 r1.2.1 1065353216))))] ?_ ?_
  · skip
    refine c_quiet ?_
    refine ql_s (.int .i64 r1.2.2) (by kernel_rfl) ?_
    refine ql_s (.bool (r1.2.2 == 0)) (by kernel_rfl) ?_
    refine ql_s (.bool (r1.2.2 == 0)) (by kernel_rfl) ?_
    refine ql_case 19 ((r1.2.2 == 0)) rfl (fun hg1 => ?_) (fun hg1 => ?_)
    · skip
      refine ql_s (.slice a2 r1.1.length cp4) (by kernel_rfl) ?_
      refine ql_s (.int .i64 (r1.1.length : Int)) (by kernel_rfl) ?_
      refine ql_s (.bool ((r1.1.length : Int) == 2)) (by kernel_rfl) ?_
      refine ql_s (.bool ((r1.1.length : Int) == 2)) (by kernel_rfl) ?_
      refine ql_s (.bool ((r1.1.length : Int) == 2)) (by kernel_rfl) ?_
      refine ql_case 24 (((r1.1.length : Int) == 2)) rfl (fun hg2 => ?_) (fun hg2 => ?_)
      · skip
        refine ql_s (.float .f32 r1.2.1) (by kernel_rfl) ?_
        refine ql_s (.bool (feq .f32 r1.2.1 1065353216)) (by kernel_rfl) ?_
        refine ql_s (.bool (feq .f32 r1.2.1 1065353216)) (by kernel_rfl) ?_
        refine ql_s (.bool (feq .f32 r1.2.1 1065353216)) (by kernel_rfl) ?_
        refine ql_nil (e_cutq ?_)
        exact ⟨(congrArg Value.bool (by first | rfl | (rw [hg1, hg2]; rfl) | simp [hg1, hg2])), trivial⟩
      · skip
        refine ql_s undef (by kernel_rfl) ?_
        refine ql_s undef (by kernel_rfl) ?_
        refine ql_s (.bool false) (by kernel_rfl) ?_
        refine ql_s (.bool false) (by kernel_rfl) ?_
        refine ql_nil (e_cutq ?_)
        exact ⟨(congrArg Value.bool (by first | rfl | (rw [hg1, hg2]; rfl) | simp [hg1, hg2])), trivial⟩
    · skip
      refine ql_s undef (by kernel_rfl) ?_
      refine ql_s undef (by kernel_rfl) ?_
      refine ql_s undef (by kernel_rfl) ?_
      refine ql_s (.bool false) (by kernel_rfl) ?_
      refine ql_s (.bool false) (by kernel_rfl) ?_
      refine ql_s undef (by kernel_rfl) ?_
      refine ql_s undef (by kernel_rfl) ?_
      refine ql_s (.bool false) (by kernel_rfl) ?_
      refine ql_s (.bool false) (by kernel_rfl) ?_
      refine ql_nil (e_cutq ?_)
      exact ⟨(congrArg Value.bool (by first | rfl | (rw [hg1]; rfl) | simp [hg1])), trivial⟩
  intro _
  refine e_then ?_
  refine c_ret ?_
  obtain rfl := Option.some.inj hp
  exact post_all (vs := [.bool ((r1.2.2 == 0) && (((r1.1.length : Int) == 2) && (feq .f32 r1.2.1 1065353216)))]) (.bool ((r1.2.2 == 0) && (((r1.1.length : Int) == 2) && (feq .f32 r1.2.1 1065353216)))) ⟨rfl, trivial⟩ rfl (.inl rfl) (fun w hS => ⟨rfl, (hS.lower (PH.le_trans hle3 hle4))⟩)

-- tarnfell/tarnlaw2.empty
set_option maxRecDepth 100000 in
set_option maxHeartbeats 4000000 in
theorem tarnlaw2_empty_s (f0 : S_api_Field) (f0_v1a : Option Addr) (f0_v1c : Nat) (D : PH) (f0_h1 : RO (encF .f32) D (.slice f0_v1a f0.V.length f0_v1c) f0.V) (F : List Assert) (r : Bool) (hp : tarnlaw2_empty_p f0 = some r) : ∀ w : World, SInv D (F) w → Calls Try.prog 14 #[.agg #[.int .i64 f0.Region.X, .int .i64 f0.Region.Y, .int .i64 f0.Region.W, .int .i64 f0.Region.H, .slice f0_v1a f0.V.length f0_v1c]] w (fun e w' => e = .returned (.bool r) ∧ SInv D (F) w') := by
  intro w hS
  refine call_intro Try.func14 rfl Try.ntmps14 (Nat.le_of_ble_eq_true rfl) hS ?_
  clear hS w
  unfold tarnlaw2_empty_p at hp
  refine c_seq ?_
  refine c_region ?_
  refine l_box (cs := [.int .i64 f0.Region.X, .int .i64 f0.Region.Y, .int .i64 f0.Region.W, .int .i64 f0.Region.H, .slice f0_v1a f0.V.length f0_v1c]) rfl rfl (fun b2 => ?_)
  refine l_s (.bool false) (by kernel_rfl) ?_
  refine l_nil ?_
  refine e_then ?_
  refine c_seq ?_
  refine c_cutq_end [(2, .bool (((f0.Region.X == 0) && ((f0.Region.Y == 0) && ((f0.Region.W == 0) && ((f0.Region.H == 0) && true)))) && ((f0.V.length : Int) == 0)))] ?_ ?_
  · skip
    refine c_quiet ?_
    refine ql_s (.pointer (some ⟨b2, 0, none⟩)) (by kernel_rfl) ?_
    refine ql_q rfl (qs_ldpt (encW 4 (by decide)) fitv23 rfl 0 rfl (.agg #[.int .i64 f0.Region.X, .int .i64 f0.Region.Y, .int .i64 f0.Region.W, .int .i64 f0.Region.H]) (Nat.le_of_ble_eq_true rfl) rfl) ?_
    refine ql_s (.agg #[.int .i64 0, .int .i64 0, .int .i64 0, .int .i64 0]) (by kernel_rfl) ?_
    refine ql_q rfl (qs_eqS (r := ((f0.Region.X == 0) && ((f0.Region.Y == 0) && ((f0.Region.W == 0) && ((f0.Region.H == 0) && true))))) (v := ((f0.Region.X == 0) && ((f0.Region.Y == 0) && ((f0.Region.W == 0) && ((f0.Region.H == 0) && true))))) rfl rfl (by kernel_rfl) (.inl rfl) rfl) ?_
    refine ql_s (.bool ((f0.Region.X == 0) && ((f0.Region.Y == 0) && ((f0.Region.W == 0) && ((f0.Region.H == 0) && true))))) (by kernel_rfl) ?_
    refine ql_case 7 (((f0.Region.X == 0) && ((f0.Region.Y == 0) && ((f0.Region.W == 0) && ((f0.Region.H == 0) && true))))) rfl (fun hg1 => ?_) (fun hg1 => ?_)
    · skip
      refine ql_s (.pointer (some ⟨b2, 4, none⟩)) (by kernel_rfl) ?_
      refine ql_q rfl (qs_ldpt encV fitv24 rfl 0 rfl (.slice f0_v1a f0.V.length f0_v1c) (Nat.le_of_ble_eq_true rfl) rfl) ?_
      refine ql_s (.int .i64 (f0.V.length : Int)) (by kernel_rfl) ?_
      refine ql_s (.bool ((f0.V.length : Int) == 0)) (by kernel_rfl) ?_
      refine ql_s (.bool ((f0.V.length : Int) == 0)) (by kernel_rfl) ?_
      refine ql_s (.bool ((f0.V.length : Int) == 0)) (by kernel_rfl) ?_
      refine ql_nil (e_cutq ?_)
      exact ⟨(congrArg Value.bool (by first | rfl | (rw [hg1]; rfl) | simp [hg1])), trivial⟩
    · skip
      refine ql_s undef (by kernel_rfl) ?_
      refine ql_s undef (by kernel_rfl) ?_
      refine ql_s undef (by kernel_rfl) ?_
      refine ql_s undef (by kernel_rfl) ?_
      refine ql_s (.bool false) (by kernel_rfl) ?_
      refine ql_s (.bool false) (by kernel_rfl) ?_
      refine ql_nil (e_cutq ?_)
      exact ⟨(congrArg Value.bool (by first | rfl | (rw [hg1]; rfl) | simp [hg1])), trivial⟩
  intro _
  refine e_then ?_
  refine c_ret ?_
  obtain rfl := Option.some.inj hp
  exact post_all (vs := [.bool (((f0.Region.X == 0) && ((f0.Region.Y == 0) && ((f0.Region.W == 0) && ((f0.Region.H == 0) && true)))) && ((f0.V.length : Int) == 0))]) (.bool (((f0.Region.X == 0) && ((f0.Region.Y == 0) && ((f0.Region.W == 0) && ((f0.Region.H == 0) && true)))) && ((f0.V.length : Int) == 0))) ⟨rfl, trivial⟩ rfl (.inl rfl) (fun w hS => ⟨rfl, hS.tail⟩)

-- tarnfell/tarnref2.Place
set_option maxRecDepth 100000 in
set_option maxHeartbeats 4000000 in
theorem tarnref2_Place_s (r0 : S_api_Region) (k0 : Int) (D : PH)  (F : List Assert) (r : Int × Int) (hp : tarnref2_Place_p r0 k0 = some r) : ∀ w : World, SInv D (F) w → Calls Try.prog 44 #[.agg #[.int .i64 r0.X, .int .i64 r0.Y, .int .i64 r0.W, .int .i64 r0.H], .int .i64 k0] w (fun e w' => e = .returned (.tuple #[.int .i64 r.1, .int .i64 r.2]) ∧ SInv D (F) w') := by
  intro w hS
  refine call_intro Try.func44 rfl Try.ntmps44 (Nat.le_of_ble_eq_true rfl) hS ?_
  clear hS w
  unfold tarnref2_Place_p at hp
  refine c_seq ?_
  refine c_region ?_
  refine l_box (cs := [.int .i64 r0.X, .int .i64 r0.Y, .int .i64 r0.W, .int .i64 r0.H]) rfl rfl (fun b2 => ?_)
  refine l_s (.int .i64 0) (by kernel_rfl) ?_
  refine l_s (.int .i64 0) (by kernel_rfl) ?_
  refine l_nil ?_
  refine e_then ?_
  refine c_seq ?_
  obtain ⟨u1, hu1, hp⟩ := bnd_some hp
  replace hu1 := guardP_some hu1
  refine c_quiet_draw hmix (by kernel_rfl) ?_
  refine ql_s (.pointer (some ⟨b2, 0, none⟩)) (by kernel_rfl) ?_
  refine ql_q rfl (qs_ldpt encV fitv3 rfl 0 rfl (.int .i64 r0.X) (Nat.le_of_ble_eq_true rfl) rfl) ?_
  refine ql_s (.int .i64 k0) (by kernel_rfl) ?_
  refine ql_s (.pointer (some ⟨b2, 2, none⟩)) (by kernel_rfl) ?_
  refine ql_q rfl (qs_ldpt encV fitv3 rfl 0 rfl (.int .i64 r0.W) (Nat.le_of_ble_eq_true rfl) rfl) ?_
  refine ql_q rfl (qs_idiv (r := remI k0 r0.W) (by simpa using hu1) rfl rfl rfl) ?_
  refine ql_s (.int .i64 (addI r0.X (remI k0 r0.W))) (by kernel_rfl) ?_
  refine ql_s (.pointer (some ⟨b2, 1, none⟩)) (by kernel_rfl) ?_
  refine ql_q rfl (qs_ldpt encV fitv3 rfl 0 rfl (.int .i64 r0.Y) (Nat.le_of_ble_eq_true rfl) rfl) ?_
  refine ql_s (.int .i64 k0) (by kernel_rfl) ?_
  refine ql_s (.pointer (some ⟨b2, 2, none⟩)) (by kernel_rfl) ?_
  refine ql_q rfl (qs_ldpt encV fitv3 rfl 0 rfl (.int .i64 r0.W) (Nat.le_of_ble_eq_true rfl) rfl) ?_
  refine ql_q rfl (qs_idiv (r := quoI k0 r0.W) (by simpa using hu1) rfl rfl rfl) ?_
  refine ql_s (.int .i64 (addI r0.Y (quoI k0 r0.W))) (by kernel_rfl) ?_
  refine ql_s (.int .i64 (addI r0.X (remI k0 r0.W))) (by kernel_rfl) ?_
  refine ql_s (.int .i64 (addI r0.Y (quoI k0 r0.W))) (by kernel_rfl) ?_
  refine ql_nil ?_
  refine e_drop ?_
  refine e_then ?_
  refine c_ret ?_
  obtain rfl := Option.some.inj hp
  exact post_all (vs := [.int .i64 (addI r0.X (remI k0 r0.W)), .int .i64 (addI r0.Y (quoI k0 r0.W))]) (.tuple #[.int .i64 (addI r0.X (remI k0 r0.W)), .int .i64 (addI r0.Y (quoI k0 r0.W))]) ⟨rfl, rfl, trivial⟩ rfl (.inl rfl) (fun w hS => ⟨rfl, hS⟩)

-- tarnfell/tarnref2.Root
set_option maxRecDepth 100000 in
set_option maxHeartbeats 4000000 in
theorem tarnref2_Root_s (v0 : Nat) (D : PH)  (F : List Assert) (r : Nat) (hp : tarnref2_Root_p v0 = some r) : ∀ w : World, SInv D (F) w → Calls Try.prog 45 #[.float .f32 v0] w (fun e w' => e = .returned (.float .f32 r) ∧ SInv D (F) w') := by
  intro w hS
  refine call_intro Try.func45 rfl Try.ntmps45 (Nat.le_of_ble_eq_true rfl) hS ?_
  clear hS w
  unfold tarnref2_Root_p at hp
  refine c_seq ?_
  refine c_quiet ?_
  refine ql_s (.float .f32 0) (by kernel_rfl) ?_
  refine ql_nil ?_
  refine e_then ?_
  refine c_seq ?_
  obtain ⟨r1, hr1, hp⟩ := bnd_some hp
  obtain ⟨r2, hr2, hp⟩ := bnd_some hp
  obtain ⟨r3, hr3, hp⟩ := bnd_some hp
  refine c_quiet ?_
  refine ql_s (.float .f32 v0) (by kernel_rfl) ?_
  refine ql_q rfl (qs_fconv Try.underlying40 Try.underlying125 rfl hr1) ?_
  refine ql_call (v := .float .f64 r2) rfl (run_call (vs := [.float .f64 r1]) rfl Try.call81 rfl) (fun w hS => (math_Sqrt_s r1 _  _ _ hr2 w (hS)).mono fun e w' h => ⟨h.1, h.2⟩) ?_
  refine ql_q rfl (qs_fconv Try.underlying125 Try.underlying40 rfl hr3) ?_
  refine ql_s (.float .f32 r3) (by kernel_rfl) ?_
  refine ql_nil ?_
  refine e_then ?_
  refine c_ret ?_
  obtain rfl := Option.some.inj hp
  exact post_all (vs := [.float .f32 r3]) (.float .f32 r3) ⟨rfl, trivial⟩ rfl (.inl rfl) (fun w hS => ⟨rfl, hS⟩)

-- tarnfell/tarnref2.EaseOf
set_option maxRecDepth 100000 in
set_option maxHeartbeats 4000000 in
theorem tarnref2_EaseOf_s (t0 : Nat) (D : PH)  (F : List Assert) (r : Nat) (hp : tarnref2_EaseOf_p t0 = some r) : ∀ w : World, SInv D (F) w → Calls Try.prog 46 #[.float .f32 t0] w (fun e w' => e = .returned (.float .f32 r) ∧ SInv D (F) w') := by
  intro w hS
  refine call_intro Try.func46 rfl Try.ntmps46 (Nat.le_of_ble_eq_true rfl) hS ?_
  clear hS w
  unfold tarnref2_EaseOf_p at hp
  refine c_seq ?_
  refine c_quiet ?_
  refine ql_s (.float .f32 0) (by kernel_rfl) ?_
  refine ql_nil ?_
  refine e_then ?_
  refine c_seq ?_
  obtain ⟨r1, hr1, hp⟩ := bnd_some hp
  obtain ⟨r2, hr2, hp⟩ := bnd_some hp
  refine c_quiet ?_
  refine ql_s (.float .f32 t0) (by kernel_rfl) ?_
  refine ql_q rfl (qs_fop hr1 rfl rfl) ?_
  refine ql_q rfl (qs_fop hr2 rfl rfl) ?_
  refine ql_s (.float .f32 r2) (by kernel_rfl) ?_
  refine ql_nil ?_
  refine e_then ?_
  refine c_seq ?_
  obtain ⟨r3, hr3, hp⟩ := bnd_some hp
  obtain ⟨r4, hr4, hp⟩ := bnd_some hp
  refine c_quiet ?_
  refine ql_s (.float .f32 t0) (by kernel_rfl) ?_
  refine ql_s (.float .f32 t0) (by kernel_rfl) ?_
  refine ql_q rfl (qs_fop hr3 rfl rfl) ?_
  refine ql_s (.float .f32 r2) (by kernel_rfl) ?_
  refine ql_q rfl (qs_fop hr4 rfl rfl) ?_
  refine ql_s (.float .f32 r4) (by kernel_rfl) ?_
  refine ql_nil ?_
  refine e_then ?_
  refine c_ret ?_
  obtain rfl := Option.some.inj hp
  exact post_all (vs := [.float .f32 r4]) (.float .f32 r4) ⟨rfl, trivial⟩ rfl (.inl rfl) (fun w hS => ⟨rfl, hS⟩)

-- tarnfell/tarnref2.BuiltOf
set_option maxRecDepth 100000 in
set_option maxHeartbeats 4000000 in
theorem tarnref2_BuiltOf_s (f0 : S_api_Field) (f0_v1a : Option Addr) (f0_v1c : Nat) (way0 : List S_api_Point) (way0_v1a : Option Addr) (way0_v1c : Nat) (bed0 : List Nat) (bed0_v1a : Option Addr) (bed0_v1c : Nat) (wide0 : Int) (soft0 : Int) (k0 : Int) (D : PH) (f0_h1 : RO (encF .f32) D (.slice f0_v1a f0.V.length f0_v1c) f0.V) (way0_h1 : RO encS_api_Point D (.slice way0_v1a way0.length way0_v1c) way0) (bed0_h1 : RO (encF .f32) D (.slice bed0_v1a bed0.length bed0_v1c) bed0) (F : List Assert) (r : Nat) (hp : tarnref2_BuiltOf_p f0 way0 bed0 wide0 soft0 k0 = some r) : ∀ w : World, SInv D (F) w → Calls Try.prog 15 #[.agg #[.int .i64 f0.Region.X, .int .i64 f0.Region.Y, .int .i64 f0.Region.W, .int .i64 f0.Region.H, .slice f0_v1a f0.V.length f0_v1c], .slice way0_v1a way0.length way0_v1c, .slice bed0_v1a bed0.length bed0_v1c, .int .i64 wide0, .int .i64 soft0, .int .i64 k0] w (fun e w' => e = .returned (.float .f32 r) ∧ SInv D (F) w') := by
  intro w hS
  refine call_intro Try.func15 rfl Try.ntmps15 (Nat.le_of_ble_eq_true rfl) hS ?_
  clear hS w
  unfold tarnref2_BuiltOf_p at hp
  refine c_seq ?_
  refine c_region ?_
  refine l_box (cs := [.int .i64 f0.Region.X, .int .i64 f0.Region.Y, .int .i64 f0.Region.W, .int .i64 f0.Region.H, .slice f0_v1a f0.V.length f0_v1c]) rfl rfl (fun b2 => ?_)
  refine l_s (.float .f32 0) (by kernel_rfl) ?_
  refine l_nil ?_
  refine e_then ?_
  refine c_seq ?_
  obtain ⟨r1, hr1, hp⟩ := bnd_some hp
  refine c_quiet ?_
  refine ql_s (.pointer (some ⟨b2, 0, none⟩)) (by kernel_rfl) ?_
  refine ql_q rfl (qs_ldpt (encW 4 (by decide)) fitv23 rfl 0 rfl (.agg #[.int .i64 f0.Region.X, .int .i64 f0.Region.Y, .int .i64 f0.Region.W, .int .i64 f0.Region.H]) (Nat.le_of_ble_eq_true rfl) rfl) ?_
  refine ql_s (.int .i64 k0) (by kernel_rfl) ?_
  refine ql_call (v := .tuple #[.int .i64 r1.1, .int .i64 r1.2]) rfl (run_call (vs := [.agg #[.int .i64 f0.Region.X, .int .i64 f0.Region.Y, .int .i64 f0.Region.W, .int .i64 f0.Region.H], .int .i64 k0]) rfl Try.call44 rfl) (fun w hS => (tarnref2_Place_s f0.Region k0 _  _ _ hr1 w (hS)).mono fun e w' h => ⟨h.1, h.2⟩) ?_
  refine ql_s (.tuple #[.int .i64 r1.1, .int .i64 r1.2]) (by kernel_rfl) ?_
  refine ql_s (.int .i64 r1.1) (by kernel_rfl) ?_
  refine ql_s (.int .i64 r1.2) (by kernel_rfl) ?_
  refine ql_s (.int .i64 r1.1) (by kernel_rfl) ?_
  refine ql_s (.int .i64 r1.2) (by kernel_rfl) ?_
  refine ql_nil ?_
  refine e_then ?_
  refine c_seq ?_
  refine c_quiet ?_
  refine ql_s (.int .i64 0) (by kernel_rfl) ?_
  refine ql_s (.int .i64 (-1)) (by kernel_rfl) ?_
  refine ql_nil ?_
  refine e_then ?_
  refine c_seq ?_
  refine c_seq ?_
  refine c_quiet ?_
  refine ql_s (.slice way0_v1a way0.length way0_v1c) (by kernel_rfl) ?_
  refine ql_s (.int .i64 (way0.length : Int)) (by kernel_rfl) ?_
  refine ql_s (.int .i64 0) (by kernel_rfl) ?_
  refine ql_nil ?_
  refine e_then ?_
  have hb0 : (way0.length : Int) ≤ 4611686018427387904 := by have := RO.bound way0_h1; omega
  have hm0 : way0.length = (way0.length : Int).toNat := by omega
  have hm1 := hm0; have hb1 := hb0; clear hm0 hb0
  obtain ⟨x1, hs1, hp⟩ := bnd_some hp
  obtain ⟨body1, hbody1, hs1⟩ := forS_gen hs1
  refine c_cut_end (fun φ1 D1 As1 => Is φ1 [(2, .slice bed0_v1a bed0.length bed0_v1c), (3, .int .i64 wide0), (4, .int .i64 soft0), (5, .int .i64 k0), (6, .pointer (some ⟨b2, 0, none⟩)), (15, .int .i64 x1.1), (16, .int .i64 x1.2)] ∧ PH.le D D1 ∧ As1 = pt b2 [.int .i64 f0.Region.X, .int .i64 f0.Region.Y, .int .i64 f0.Region.W, .int .i64 f0.Region.H, .slice f0_v1a f0.V.length f0_v1c] 26 :: F) ?_ ?_
  · skip
    refine c_block ?_
    refine c_loop (fun k φ1 D2 As1 => ∃ (j1 i1 : Nat) (s1 : Int × Int), k = j1 + 1 ∧ i1 + j1 = way0.length ∧ Is φ1 [(2, .slice bed0_v1a bed0.length bed0_v1c), (3, .int .i64 wide0), (4, .int .i64 soft0), (5, .int .i64 k0), (6, .pointer (some ⟨b2, 0, none⟩)), (13, .int .i64 r1.1), (14, .int .i64 r1.2), (15, .int .i64 s1.1), (16, .int .i64 s1.2), (28, .slice way0_v1a way0.length way0_v1c), (29, .int .i64 (way0.length : Int)), (30, .int .i64 (i1 : Int))] ∧ PH.le D D2 ∧ As1 = pt b2 [.int .i64 f0.Region.X, .int .i64 f0.Region.Y, .int .i64 f0.Region.W, .int .i64 f0.Region.H, .slice f0_v1a f0.V.length f0_v1c] 26 :: F ∧ forS body1 j1 i1 s1 = some x1) ⟨way0.length + 1, way0.length, 0, (0, (-1)), rfl, Nat.zero_add _, ⟨rfl, rfl, rfl, rfl, rfl, rfl, rfl, rfl, rfl, rfl, rfl, rfl, trivial⟩, (PH.le_refl _), rfl, hs1⟩ ?_ ?_
    · rintro _ _ _ ⟨_, _, _, h0, _⟩; omega
    intro k1
    rintro φ1 D2 As1 ⟨j1, i1, s1, hk1, hij1, hI1, hD1, hA1, hs2⟩
    subst As1
    replace bed0_h1 := bed0_h1.mono hD1
    replace way0_h1 := way0_h1.mono hD1
    replace f0_h1 := f0_h1.mono hD1
    refine c_frame _ hI1 ?_
    obtain rfl : k1 = j1 := by omega
    clear hk1
    rcases k1 with _ | j1
    · skip
      refine c_seq ?_
      refine c_quiet ?_
      refine ql_s (.bool (decide ((i1 : Int) < (way0.length : Int)))) (by kernel_rfl) ?_
      refine ql_nil ?_
      refine e_then ?_
      refine c_seq ?_
      refine c_cond (decide ((i1 : Int) < (way0.length : Int))) rfl (fun ht1 => absurd ((dec_lt_f hm1 (by omega)).symm.trans ht1) (by simp)) (fun _ => ?_)
      refine c_exit ?_
      refine e_then_exit ?_
      refine e_then_exit ?_
      obtain rfl := Option.some.inj hs2
      refine e_blk_exit ?_
      exact e_cut ⟨⟨rfl, rfl, rfl, rfl, rfl, rfl, rfl, trivial⟩, hD1, rfl⟩
    · skip
      obtain ⟨y1, hx1, hs2⟩ := forS_some hs2
      replace hx1 := (congrFun (congrFun hbody1 i1) s1).trans hx1
      refine c_seq ?_
      refine c_quiet ?_
      refine ql_s (.bool (decide ((i1 : Int) < (way0.length : Int)))) (by kernel_rfl) ?_
      refine ql_nil ?_
      refine e_then ?_
      refine c_seq ?_
      refine c_cond (decide ((i1 : Int) < (way0.length : Int))) rfl (fun _ => ?_) (fun ht2 => absurd ((dec_lt_t hm1 (by omega)).symm.trans ht2) (by simp))
      refine c_skip ?_
      refine e_then ?_
      refine c_seq ?_
      obtain ⟨s2, hs3, hx1⟩ := bnd_some hx1
      refine c_cut_end (fun φ1 D3 As1 => Is φ1 [(2, .slice bed0_v1a bed0.length bed0_v1c), (3, .int .i64 wide0), (4, .int .i64 soft0), (5, .int .i64 k0), (6, .pointer (some ⟨b2, 0, none⟩)), (13, .int .i64 r1.1), (14, .int .i64 r1.2), (15, .int .i64 s2.1), (16, .int .i64 s2.2), (28, .slice way0_v1a way0.length way0_v1c), (29, .int .i64 (way0.length : Int)), (30, .int .i64 (i1 : Int))] ∧ PH.le D2 D3 ∧ As1 = pt b2 [.int .i64 f0.Region.X, .int .i64 f0.Region.Y, .int .i64 f0.Region.W, .int .i64 f0.Region.H, .slice f0_v1a f0.V.length f0_v1c] 26 :: F) ?_ ?_
      · skip
        refine c_block ?_
        refine c_seq ?_
        obtain ⟨x2, hx2, hs3⟩ := bnd_some hs3
        obtain ⟨b3, o1, h1, hq1⟩ := RO.at way0_h1 hx2
        obtain ⟨cs1, hc1, ha1⟩ := h1.cells
        obtain rfl := hc1
        refine c_region ?_
        refine l_s (.int .i64 (i1 : Int)) (by kernel_rfl) ?_
        refine l_q rfl (qs_idx hq1 Try.underlying27 fit71 rfl rfl) ?_
        refine l_q rfl (qs_ldC fit71 rfl ha1 rfl (.agg #[.int .i64 x2.X, .int .i64 x2.Y]) rfl) ?_
        refine l_alloc (zs := [.int .i64 0, .int .i64 0]) rfl (by kernel_rfl) (fun b5 => ?_)
        refine l_s (.int .i64 (i1 : Int)) (by kernel_rfl) ?_
        refine l_store (dd := none) (vs := [.int .i64 x2.X, .int .i64 x2.Y]) (cs' := [.int .i64 x2.X, .int .i64 x2.Y]) rfl (by kernel_rfl) (by kernel_rfl) rfl rfl (Nat.le_of_ble_eq_true rfl) rfl rfl ?_
        refine l_nil ?_
        refine e_then ?_
        refine c_seq ?_
        obtain ⟨d_1, hd_1, hs3⟩ := bnd_some hs3
        replace hd_1 := Option.some.inj hd_1
        refine c_quiet ?_
        refine ql_s (.pointer (some ⟨b5, 0, none⟩)) (by kernel_rfl) ?_
        refine ql_q rfl (qs_ldpt encV fitv3 rfl 0 rfl (.int .i64 x2.X) (Nat.le_of_ble_eq_true rfl) rfl) ?_
        refine ql_s (.int .i64 r1.1) (by kernel_rfl) ?_
        refine ql_s (.int .i64 (subI x2.X r1.1)) (by kernel_rfl) ?_
        refine ql_s (.pointer (some ⟨b5, 0, none⟩)) (by kernel_rfl) ?_
        refine ql_q rfl (qs_ldpt encV fitv3 rfl 0 rfl (.int .i64 x2.X) (Nat.le_of_ble_eq_true rfl) rfl) ?_
        refine ql_s (.int .i64 r1.1) (by kernel_rfl) ?_
        refine ql_s (.int .i64 (subI x2.X r1.1)) (by kernel_rfl) ?_
        refine ql_s (.int .i64 (mulI (subI x2.X r1.1) (subI x2.X r1.1))) (by kernel_rfl) ?_
        refine ql_s (.pointer (some ⟨b5, 1, none⟩)) (by kernel_rfl) ?_
        refine ql_q rfl (qs_ldpt encV fitv3 rfl 0 rfl (.int .i64 x2.Y) (Nat.le_of_ble_eq_true rfl) rfl) ?_
        refine ql_s (.int .i64 r1.2) (by kernel_rfl) ?_
        refine ql_s (.int .i64 (subI x2.Y r1.2)) (by kernel_rfl) ?_
        refine ql_s (.pointer (some ⟨b5, 1, none⟩)) (by kernel_rfl) ?_
        refine ql_q rfl (qs_ldpt encV fitv3 rfl 0 rfl (.int .i64 x2.Y) (Nat.le_of_ble_eq_true rfl) rfl) ?_
        refine ql_s (.int .i64 r1.2) (by kernel_rfl) ?_
        refine ql_s (.int .i64 (subI x2.Y r1.2)) (by kernel_rfl) ?_
        refine ql_s (.int .i64 (mulI (subI x2.Y r1.2) (subI x2.Y r1.2))) (by kernel_rfl) ?_
        refine ql_s (.int .i64 (addI (mulI (subI x2.X r1.1) (subI x2.X r1.1)) (mulI (subI x2.Y r1.2) (subI x2.Y r1.2)))) (by kernel_rfl) ?_
        refine ql_s (.int .i64 d_1) (congrArg (fun z => some (Value.int .i64 z)) hd_1) ?_
        refine ql_nil ?_
        refine e_drop ?_
        refine e_then ?_
        refine c_seq ?_
        refine c_cutq_end [(2, .slice bed0_v1a bed0.length bed0_v1c), (3, .int .i64 wide0), (4, .int .i64 soft0), (5, .int .i64 k0), (6, .pointer (some ⟨b2, 0, none⟩)), (13, .int .i64 r1.1), (14, .int .i64 r1.2), (15, .int .i64 s1.1), (16, .int .i64 s1.2), (17, .int .i64 (i1 : Int)), (19, .int .i64 d_1), (28, .slice way0_v1a way0.length way0_v1c), (29, .int .i64 (way0.length : Int)), (30, .int .i64 (i1 : Int)), (60, .bool ((decide (s1.2 < 0)) || (decide (d_1 < s1.2))))] ?_ ?_
        · skip
          refine c_quiet ?_
          refine ql_s (.int .i64 s1.2) (by kernel_rfl) ?_
          refine ql_s (.bool (decide (s1.2 < 0))) (by kernel_rfl) ?_
          refine ql_s (.bool (decide (s1.2 < 0))) (by kernel_rfl) ?_
          refine ql_case 56 (decide (s1.2 < 0)) rfl (fun hg1 => ?_) (fun hg1 => ?_)
          · skip
            refine ql_s undef (by kernel_rfl) ?_
            refine ql_s undef (by kernel_rfl) ?_
            refine ql_s undef (by kernel_rfl) ?_
            refine ql_s (.bool true) (by kernel_rfl) ?_
            refine ql_nil (e_cutq ?_)
            exact ⟨rfl, rfl, rfl, rfl, rfl, rfl, rfl, rfl, rfl, rfl, rfl, rfl, rfl, rfl, (congrArg Value.bool (by first | rfl | (rw [hg1]; rfl) | simp [hg1])), trivial⟩
          · skip
            refine ql_s (.int .i64 d_1) (by kernel_rfl) ?_
            refine ql_s (.int .i64 s1.2) (by kernel_rfl) ?_
            refine ql_s (.bool (decide (d_1 < s1.2))) (by kernel_rfl) ?_
            refine ql_s (.bool (decide (d_1 < s1.2))) (by kernel_rfl) ?_
            refine ql_nil (e_cutq ?_)
            exact ⟨rfl, rfl, rfl, rfl, rfl, rfl, rfl, rfl, rfl, rfl, rfl, rfl, rfl, rfl, (congrArg Value.bool (by first | rfl | (rw [hg1]; rfl) | simp [hg1])), trivial⟩
        intro _
        refine e_then ?_
        refine c_cond (((decide (s1.2 < 0)) || (decide (d_1 < s1.2)))) rfl (fun ht3 => ?_) (fun ht3 => ?_)
        · skip
          replace hs3 := if_t ht3 hs3
          refine c_quiet ?_
          refine ql_s (.int .i64 (i1 : Int)) (by kernel_rfl) ?_
          refine ql_s (.int .i64 d_1) (by kernel_rfl) ?_
          refine ql_s (.int .i64 (i1 : Int)) (by kernel_rfl) ?_
          refine ql_s (.int .i64 d_1) (by kernel_rfl) ?_
          refine ql_nil ?_
          refine e_blk ?_
          obtain rfl := Option.some.inj hs3
          exact e_cut ⟨⟨rfl, rfl, rfl, rfl, rfl, rfl, rfl, rfl, rfl, rfl, rfl, rfl, trivial⟩, (PH.le_refl _), rfl⟩
        · skip
          replace hs3 := if_f ht3 hs3
          refine c_skip ?_
          refine e_blk ?_
          obtain rfl := Option.some.inj hs3
          exact e_cut ⟨⟨rfl, rfl, rfl, rfl, rfl, rfl, rfl, rfl, rfl, rfl, rfl, rfl, trivial⟩, (PH.le_refl _), rfl⟩
      · skip
        rintro φ2 D3 As2 ⟨hI2, hD2, hA2⟩
        subst As2
        replace bed0_h1 := bed0_h1.mono hD2
        replace way0_h1 := way0_h1.mono hD2
        replace f0_h1 := f0_h1.mono hD2
        refine e_frame _ hI2 ?_
        refine e_then ?_
        refine c_quiet ?_
        refine ql_s (.int .i64 (addI (i1 : Int) 1)) (by kernel_rfl) ?_
        refine ql_s (.int .i64 (addI (i1 : Int) 1)) (by kernel_rfl) ?_
        refine ql_nil ?_
        obtain rfl := Option.some.inj hx1
        exact e_cut ⟨j1, i1 + 1, (s2.1, s2.2), by omega, by omega, ⟨rfl, rfl, rfl, rfl, rfl, rfl, rfl, rfl, rfl, rfl, rfl, (congrArg (Value.int .i64) (addI_succ (by omega))), trivial⟩, (PH.le_trans hD1 hD2), rfl, hs2⟩
  · skip
    rintro φ3 D1 As3 ⟨hI3, hD3, hA3⟩
    subst As3
    replace bed0_h1 := bed0_h1.mono hD3
    replace f0_h1 := f0_h1.mono hD3
    refine e_frame _ hI3 ?_
    refine e_then ?_
    refine c_seq ?_
    refine c_seq ?_
    refine c_quiet ?_
    refine ql_s (.int .i64 x1.2) (by kernel_rfl) ?_
    refine ql_s (.int .i64 wide0) (by kernel_rfl) ?_
    refine ql_s (.int .i64 wide0) (by kernel_rfl) ?_
    refine ql_s (.int .i64 (mulI wide0 wide0)) (by kernel_rfl) ?_
    refine ql_s (.bool (decide (x1.2 ≤ (mulI wide0 wide0)))) (by kernel_rfl) ?_
    refine ql_nil ?_
    refine e_then ?_
    refine c_cond (decide (x1.2 ≤ (mulI wide0 wide0))) rfl (fun ht4 => ?_) (fun ht4 => ?_)
    · skip
      replace hp := if_t ht4 hp
      refine c_seq ?_
      obtain ⟨x3, hx3, hp⟩ := bnd_some hp
      obtain ⟨b6, o2, h2, hq2⟩ := RO.at bed0_h1 hx3
      refine c_quiet ?_
      refine ql_s (.slice bed0_v1a bed0.length bed0_v1c) (by kernel_rfl) ?_
      refine ql_s (.int .i64 x1.1) (by kernel_rfl) ?_
      refine ql_q rfl (qs_idx hq2 Try.underlying24 fit40 rfl rfl) ?_
      refine ql_q rfl (qs_ldAtV fit40 rfl h2 valF) ?_
      refine ql_s (.float .f32 x3) (by kernel_rfl) ?_
      refine ql_nil ?_
      refine e_drop ?_
      refine e_then ?_
      refine c_ret ?_
      refine e_then_ret ?_
      obtain rfl := Option.some.inj hp
      exact post_all (vs := [.float .f32 x3]) (.float .f32 x3) ⟨rfl, trivial⟩ rfl (.inl rfl) (fun w hS => ⟨rfl, (hS.lower hD3)⟩)
    · skip
      replace hp := if_f ht4 hp
      refine c_skip ?_
      refine e_then ?_
      refine c_seq ?_
      obtain ⟨r2, hr2, hp⟩ := bnd_some hp
      obtain ⟨r3, hr3, hp⟩ := bnd_some hp
      obtain ⟨r4, hr4, hp⟩ := bnd_some hp
      refine c_quiet ?_
      refine ql_s (.int .i64 x1.2) (by kernel_rfl) ?_
      refine ql_s (.float .f32 (fofI .f32 x1.2)) (by kernel_rfl) ?_
      refine ql_call (v := .float .f32 r2) rfl (run_call (vs := [.float .f32 (fofI .f32 x1.2)]) rfl Try.call45 rfl) (fun w hS => (tarnref2_Root_s (fofI .f32 x1.2) _  _ _ hr2 w (hS)).mono fun e w' h => ⟨h.1, h.2⟩) ?_
      refine ql_s (.int .i64 wide0) (by kernel_rfl) ?_
      refine ql_s (.float .f32 (fofI .f32 wide0)) (by kernel_rfl) ?_
      refine ql_q rfl (qs_fop hr3 rfl rfl) ?_
      refine ql_s (.int .i64 soft0) (by kernel_rfl) ?_
      refine ql_s (.float .f32 (fofI .f32 soft0)) (by kernel_rfl) ?_
      refine ql_q rfl (qs_fop hr4 rfl rfl) ?_
      refine ql_s (.float .f32 r4) (by kernel_rfl) ?_
      refine ql_nil ?_
      refine e_then ?_
      refine c_seq ?_
      refine c_seq ?_
      refine c_quiet ?_
      refine ql_s (.float .f32 r4) (by kernel_rfl) ?_
      refine ql_s (.bool (flt .f32 r4 1065353216)) (by kernel_rfl) ?_
      refine ql_nil ?_
      refine e_then ?_
      refine c_cond (flt .f32 r4 1065353216) rfl (fun ht5 => ?_) (fun ht5 => ?_)
      · skip
        replace hp := if_t ht5 hp
        refine c_seq ?_
        obtain ⟨x4, hx4, hp⟩ := bnd_some hp
        obtain ⟨b7, o3, h3, hq3⟩ := RO.at bed0_h1 hx4
        obtain ⟨x5, hx5, hp⟩ := bnd_some hp
        obtain ⟨b8, o4, h4, hq4⟩ := RO.at f0_h1 hx5
        obtain ⟨r5, hr5, hp⟩ := bnd_some hp
        obtain ⟨r6, hr6, hp⟩ := bnd_some hp
        obtain ⟨r7, hr7, hp⟩ := bnd_some hp
        obtain ⟨r8, hr8, hp⟩ := bnd_some hp
        refine c_quiet_draw hmix (by kernel_rfl) ?_
        refine ql_s (.slice bed0_v1a bed0.length bed0_v1c) (by kernel_rfl) ?_
        refine ql_s (.int .i64 x1.1) (by kernel_rfl) ?_
        refine ql_q rfl (qs_idx hq3 Try.underlying24 fit40 rfl rfl) ?_
        refine ql_q rfl (qs_ldAtV fit40 rfl h3 valF) ?_
        refine ql_s (.pointer (some ⟨b2, 4, none⟩)) (by kernel_rfl) ?_
        refine ql_q rfl (qs_ldpt encV fitv24 rfl 0 rfl (.slice f0_v1a f0.V.length f0_v1c) (Nat.le_of_ble_eq_true rfl) rfl) ?_
        refine ql_s (.int .i64 k0) (by kernel_rfl) ?_
        refine ql_q rfl (qs_idx hq4 Try.underlying24 fit40 rfl rfl) ?_
        refine ql_q rfl (qs_ldAtV fit40 rfl h4 valF) ?_
        refine ql_s (.slice bed0_v1a bed0.length bed0_v1c) (by kernel_rfl) ?_
        refine ql_s (.int .i64 x1.1) (by kernel_rfl) ?_
        refine ql_q rfl (qs_idx hq3 Try.underlying24 fit40 rfl rfl) ?_
        refine ql_q rfl (qs_ldAtV fit40 rfl h3 valF) ?_
        refine ql_q rfl (qs_fop hr5 rfl rfl) ?_
        refine ql_s (.float .f32 r4) (by kernel_rfl) ?_
        refine ql_call (v := .float .f32 r6) rfl (run_call (vs := [.float .f32 r4]) rfl Try.call46 rfl) (fun w hS => (tarnref2_EaseOf_s r4 _  _ _ hr6 w (hS)).mono fun e w' h => ⟨h.1, h.2⟩) ?_
        refine ql_q rfl (qs_fop hr7 rfl rfl) ?_
        refine ql_q rfl (qs_fop hr8 rfl rfl) ?_
        refine ql_s (.float .f32 r8) (by kernel_rfl) ?_
        refine ql_nil ?_
        refine e_drop ?_
        refine e_then ?_
        refine c_ret ?_
        refine e_then_ret ?_
        obtain rfl := Option.some.inj hp
        exact post_all (vs := [.float .f32 r8]) (.float .f32 r8) ⟨rfl, trivial⟩ rfl (.inl rfl) (fun w hS => ⟨rfl, (hS.lower hD3)⟩)
      · skip
        replace hp := if_f ht5 hp
        refine c_skip ?_
        refine e_then ?_
        refine c_seq ?_
        obtain ⟨x6, hx6, hp⟩ := bnd_some hp
        obtain ⟨b9, o5, h5, hq5⟩ := RO.at f0_h1 hx6
        refine c_quiet ?_
        refine ql_s (.pointer (some ⟨b2, 4, none⟩)) (by kernel_rfl) ?_
        refine ql_q rfl (qs_ldpt encV fitv24 rfl 0 rfl (.slice f0_v1a f0.V.length f0_v1c) (Nat.le_of_ble_eq_true rfl) rfl) ?_
        refine ql_s (.int .i64 k0) (by kernel_rfl) ?_
        refine ql_q rfl (qs_idx hq5 Try.underlying24 fit40 rfl rfl) ?_
        refine ql_q rfl (qs_ldAtV fit40 rfl h5 valF) ?_
        refine ql_s (.float .f32 x6) (by kernel_rfl) ?_
        refine ql_nil ?_
        refine e_drop ?_
        refine e_then ?_
        refine c_ret ?_
        obtain rfl := Option.some.inj hp
        exact post_all (vs := [.float .f32 x6]) (.float .f32 x6) ⟨rfl, trivial⟩ rfl (.inl rfl) (fun w hS => ⟨rfl, (hS.lower hD3)⟩)

-- tarnfell/tarnlaw2.bits$1
set_option maxRecDepth 100000 in
set_option maxHeartbeats 4000000 in
theorem tarnlaw2_bits_1_s (x0 : Nat) (y0 : Nat) (D : PH)  (F : List Assert) (r : Bool) (hp : tarnlaw2_bits_1_p x0 y0 = some r) : ∀ w : World, SInv D (F) w → Calls Try.prog 60 #[.float .f32 x0, .float .f32 y0] w (fun e w' => e = .returned (.bool r) ∧ SInv D (F) w') := by
  intro w hS
  refine call_intro Try.func60 rfl Try.ntmps60 (Nat.le_of_ble_eq_true rfl) hS ?_
  clear hS w
  unfold tarnlaw2_bits_1_p at hp
  refine c_seq ?_
  refine c_quiet ?_
  refine ql_s (.bool false) (by kernel_rfl) ?_
  refine ql_nil ?_
  refine e_then ?_
  refine c_seq ?_
  refine c_quiet ?_
  refine ql_s (.float .f32 x0) (by kernel_rfl) ?_
  refine ql_q rfl (qs_extern Try.func57 rfl rfl (by kernel_rfl) ext57 (vs := [.float .f32 x0]) rfl (fun w => rfl)) ?_
  refine ql_s (.float .f32 y0) (by kernel_rfl) ?_
  refine ql_q rfl (qs_extern Try.func57 rfl rfl (by kernel_rfl) ext57 (vs := [.float .f32 y0]) rfl (fun w => rfl)) ?_
  refine ql_s (.bool ((x0 : Int) == (y0 : Int))) (by kernel_rfl) ?_
  refine ql_s (.bool ((x0 : Int) == (y0 : Int))) (by kernel_rfl) ?_
  refine ql_nil ?_
  refine e_then ?_
  refine c_ret ?_
  obtain rfl := Option.some.inj hp
  exact post_all (vs := [.bool ((x0 : Int) == (y0 : Int))]) (.bool ((x0 : Int) == (y0 : Int))) ⟨rfl, trivial⟩ rfl (.inl rfl) (fun w hS => ⟨rfl, hS⟩)

-- slices.EqualFunc[[]float32,[]float32,float32,float32]
set_option maxRecDepth 100000 in
set_option maxHeartbeats 4000000 in
theorem slices_EqualFunc_float32_float32_float32_float32_s (s10 : List Nat) (s10_v1a : Option Addr) (s10_v1c : Nat) (s20 : List Nat) (s20_v1a : Option Addr) (s20_v1c : Nat) (D : PH) (s10_h1 : RO (encF .f32) D (.slice s10_v1a s10.length s10_v1c) s10) (s20_h1 : RO (encF .f32) D (.slice s20_v1a s20.length s20_v1c) s20) (F : List Assert) (r : Bool) (hp : slices_EqualFunc_float32_float32_float32_float32_p s10 s20 = some r) : ∀ w : World, SInv D (F) w → Calls Try.prog 59 #[.slice s10_v1a s10.length s10_v1c, .slice s20_v1a s20.length s20_v1c, .func (.func 60) #[] #[]] w (fun e w' => e = .returned (.bool r) ∧ SInv D (F) w') := by
  intro w hS
  refine call_intro Try.func59 rfl Try.ntmps59 (Nat.le_of_ble_eq_true rfl) hS ?_
  clear hS w
  unfold slices_EqualFunc_float32_float32_float32_float32_p at hp
  refine c_seq ?_
  refine c_quiet ?_
  refine ql_s (.bool false) (by kernel_rfl) ?_
  refine ql_nil ?_
  refine e_then ?_
  refine c_seq ?_
  refine c_seq ?_
  refine c_quiet ?_
  refine ql_s (.slice s10_v1a s10.length s10_v1c) (by kernel_rfl) ?_
  refine ql_s (.int .i64 (s10.length : Int)) (by kernel_rfl) ?_
  refine ql_s (.slice s20_v1a s20.length s20_v1c) (by kernel_rfl) ?_
  refine ql_s (.int .i64 (s20.length : Int)) (by kernel_rfl) ?_
  refine ql_s (.bool ((s10.length : Int) != (s20.length : Int))) (by kernel_rfl) ?_
  refine ql_nil ?_
  refine e_then ?_
  refine c_cond (((s10.length : Int) != (s20.length : Int))) rfl (fun ht1 => ?_) (fun ht1 => ?_)
  · skip
    replace hp := if_t ht1 hp
    refine c_seq ?_
    refine c_quiet ?_
    refine ql_s (.bool false) (by kernel_rfl) ?_
    refine ql_nil ?_
    refine e_then ?_
    refine c_ret ?_
    refine e_then_ret ?_
    obtain rfl := Option.some.inj hp
    exact post_all (vs := [.bool false]) (.bool false) ⟨rfl, trivial⟩ rfl (.inl rfl) (fun w hS => ⟨rfl, hS⟩)
  · skip
    replace hp := if_f ht1 hp
    refine c_skip ?_
    refine e_then ?_
    refine c_seq ?_
    refine c_seq ?_
    refine c_quiet ?_
    refine ql_s (.slice s10_v1a s10.length s10_v1c) (by kernel_rfl) ?_
    refine ql_s (.int .i64 (s10.length : Int)) (by kernel_rfl) ?_
    refine ql_s (.int .i64 0) (by kernel_rfl) ?_
    refine ql_nil ?_
    refine e_then ?_
    have hb0 : (s10.length : Int) ≤ 4611686018427387904 := by have := RO.bound s10_h1; omega
    have hm0 : s10.length = (s10.length : Int).toNat := by omega
    have hm1 := hm0; have hb1 := hb0; clear hm0 hb0
    obtain ⟨x1, hs1, hp⟩ := bnd_some hp
    obtain ⟨body1, hbody1, hs1⟩ := forI_gen hs1
    refine c_cut_end (fun φ1 D1 As1 => ∃ (s1 : Unit), x1 = .go s1 ∧ Is φ1 [] ∧ PH.le D D1 ∧ As1 = F) ?_ ?_
    · skip
      refine c_block ?_
      refine c_loop (fun k φ1 D2 As1 => ∃ (j1 i1 : Nat) (s2 : Unit), k = j1 + 1 ∧ i1 + j1 = s10.length ∧ Is φ1 [(1, .slice s20_v1a s20.length s20_v1c), (2, .func (.func 60) #[] #[]), (15, .slice s10_v1a s10.length s10_v1c), (16, .int .i64 (s10.length : Int)), (17, .int .i64 (i1 : Int))] ∧ PH.le D D2 ∧ As1 = F ∧ forI body1 j1 i1 s2 = some x1) ⟨s10.length + 1, s10.length, 0, (), rfl, Nat.zero_add _, ⟨rfl, rfl, rfl, rfl, rfl, trivial⟩, (PH.le_refl _), rfl, hs1⟩ ?_ ?_
      · rintro _ _ _ ⟨_, _, _, h0, _⟩; omega
      intro k1
      rintro φ1 D2 As1 ⟨j1, i1, s2, hk1, hij1, hI1, hD1, hA1, hs2⟩
      subst As1
      replace s20_h1 := s20_h1.mono hD1
      replace s10_h1 := s10_h1.mono hD1
      refine c_frame _ hI1 ?_
      obtain rfl : k1 = j1 := by omega
      clear hk1
      rcases k1 with _ | j1
      · skip
        refine c_seq ?_
        refine c_quiet ?_
        refine ql_s (.bool (decide ((i1 : Int) < (s10.length : Int)))) (by kernel_rfl) ?_
        refine ql_nil ?_
        refine e_then ?_
        refine c_seq ?_
        refine c_cond (decide ((i1 : Int) < (s10.length : Int))) rfl (fun ht2 => absurd ((dec_lt_f hm1 (by omega)).symm.trans ht2) (by simp)) (fun _ => ?_)
        refine c_exit ?_
        refine e_then_exit ?_
        refine e_then_exit ?_
        obtain rfl := Option.some.inj hs2
        refine e_blk_exit ?_
        exact e_cut ⟨(), rfl, trivial, hD1, rfl⟩
      · skip
        obtain ⟨y1, hx1, hs2⟩ := forI_some hs2
        replace hx1 := (congrFun (congrFun hbody1 i1) s2).trans hx1
        refine c_seq ?_
        refine c_quiet ?_
        refine ql_s (.bool (decide ((i1 : Int) < (s10.length : Int)))) (by kernel_rfl) ?_
        refine ql_nil ?_
        refine e_then ?_
        refine c_seq ?_
        refine c_cond (decide ((i1 : Int) < (s10.length : Int))) rfl (fun _ => ?_) (fun ht3 => absurd ((dec_lt_t hm1 (by omega)).symm.trans ht3) (by simp))
        refine c_skip ?_
        refine e_then ?_
        refine c_seq ?_
        refine c_block ?_
        refine c_seq ?_
        obtain ⟨x2, hx2, hx1⟩ := bnd_some hx1
        obtain ⟨b1, o1, h1, hq1⟩ := RO.at s10_h1 hx2
        refine c_quiet ?_
        refine ql_s (.int .i64 (i1 : Int)) (by kernel_rfl) ?_
        refine ql_q rfl (qs_idx hq1 Try.underlying24 fit40 rfl rfl) ?_
        refine ql_q rfl (qs_ldAtV fit40 rfl h1 valF) ?_
        refine ql_s (.int .i64 (i1 : Int)) (by kernel_rfl) ?_
        refine ql_s (.float .f32 x2) (by kernel_rfl) ?_
        refine ql_nil ?_
        refine e_then ?_
        refine c_seq ?_
        obtain ⟨x3, hx3, hx1⟩ := bnd_some hx1
        obtain ⟨b2, o2, h2, hq2⟩ := RO.at s20_h1 hx3
        refine c_quiet ?_
        refine ql_s (.slice s20_v1a s20.length s20_v1c) (by kernel_rfl) ?_
        refine ql_s (.int .i64 (i1 : Int)) (by kernel_rfl) ?_
        refine ql_q rfl (qs_idx hq2 Try.underlying24 fit40 rfl rfl) ?_
        refine ql_q rfl (qs_ldAtV fit40 rfl h2 valF) ?_
        refine ql_s (.float .f32 x3) (by kernel_rfl) ?_
        refine ql_nil ?_
        refine e_then ?_
        refine c_seq ?_
        obtain ⟨r1, hr1, hx1⟩ := bnd_some hx1
        refine c_quiet ?_
        refine ql_s (.func (.func 60) #[] #[]) (by kernel_rfl) ?_
        refine ql_s (.float .f32 x2) (by kernel_rfl) ?_
        refine ql_s (.float .f32 x3) (by kernel_rfl) ?_
        refine ql_call (v := .bool r1) rfl (run_call (vs := [.float .f32 x2, .float .f32 x3]) rfl Try.call60 rfl) (fun w hS => (tarnlaw2_bits_1_s x2 x3 _  _ _ hr1 w (hS)).mono fun e w' h => ⟨h.1, h.2⟩) ?_
        refine ql_s (.bool (!r1)) (by kernel_rfl) ?_
        refine ql_nil ?_
        refine e_then ?_
        refine c_cond (!r1) rfl (fun ht4 => ?_) (fun ht4 => ?_)
        · skip
          replace hx1 := if_t ht4 hx1
          refine c_seq ?_
          refine c_quiet ?_
          refine ql_s (.bool false) (by kernel_rfl) ?_
          refine ql_nil ?_
          refine e_then ?_
          refine c_ret ?_
          refine e_blk_ret ?_
          refine e_then_ret ?_
          refine e_then_ret ?_
          obtain rfl := Option.some.inj hx1
          obtain rfl := hs2
          refine e_blk_ret ?_
          refine e_then_ret ?_
          dsimp only at hp
          refine e_then_ret ?_
          obtain rfl := Option.some.inj hp
          exact post_all (vs := [.bool false]) (.bool false) ⟨rfl, trivial⟩ rfl (.inl rfl) (fun w hS => ⟨rfl, (hS.lower hD1)⟩)
        · skip
          replace hx1 := if_f ht4 hx1
          refine c_skip ?_
          refine e_blk ?_
          refine e_then ?_
          refine c_quiet ?_
          refine ql_s (.int .i64 (addI (i1 : Int) 1)) (by kernel_rfl) ?_
          refine ql_s (.int .i64 (addI (i1 : Int) 1)) (by kernel_rfl) ?_
          refine ql_nil ?_
          obtain rfl := Option.some.inj hx1
          exact e_cut ⟨j1, i1 + 1, (), by omega, by omega, ⟨rfl, rfl, rfl, rfl, (congrArg (Value.int .i64) (addI_succ (by omega))), trivial⟩, hD1, rfl, hs2⟩
    · skip
      rintro φ2 D1 As2 ⟨s1, rfl, hI2, hD2, hA2⟩
      subst As2
      dsimp only at hp
      refine e_frame _ hI2 ?_
      refine e_then ?_
      refine c_seq ?_
      refine c_quiet ?_
      refine ql_s (.bool true) (by kernel_rfl) ?_
      refine ql_nil ?_
      refine e_then ?_
      refine c_ret ?_
      obtain rfl := Option.some.inj hp
      exact post_all (vs := [.bool true]) (.bool true) ⟨rfl, trivial⟩ rfl (.inl rfl) (fun w hS => ⟨rfl, (hS.lower hD2)⟩)

-- tarnfell/tarnlaw2.bits
set_option maxRecDepth 100000 in
set_option maxHeartbeats 4000000 in
theorem tarnlaw2_bits_s (a0 : List Nat) (a0_v1a : Option Addr) (a0_v1c : Nat) (b0 : List Nat) (b0_v1a : Option Addr) (b0_v1c : Nat) (D : PH) (a0_h1 : RO (encF .f32) D (.slice a0_v1a a0.length a0_v1c) a0) (b0_h1 : RO (encF .f32) D (.slice b0_v1a b0.length b0_v1c) b0) (F : List Assert) (r : Bool) (hp : tarnlaw2_bits_p a0 b0 = some r) : ∀ w : World, SInv D (F) w → Calls Try.prog 25 #[.slice a0_v1a a0.length a0_v1c, .slice b0_v1a b0.length b0_v1c] w (fun e w' => e = .returned (.bool r) ∧ SInv D (F) w') := by
  intro w hS
  refine call_intro Try.func25 rfl Try.ntmps25 (Nat.le_of_ble_eq_true rfl) hS ?_
  clear hS w
  unfold tarnlaw2_bits_p at hp
  refine c_seq ?_
  refine c_quiet ?_
  refine ql_s (.bool false) (by kernel_rfl) ?_
  refine ql_nil ?_
  refine e_then ?_
  refine c_seq ?_
  obtain ⟨r1, hr1, hp⟩ := bnd_some hp
  refine c_quiet ?_
  refine ql_s (.slice a0_v1a a0.length a0_v1c) (by kernel_rfl) ?_
  refine ql_s (.slice b0_v1a b0.length b0_v1c) (by kernel_rfl) ?_
  refine ql_call (v := .bool r1) rfl (run_call (vs := [.slice a0_v1a a0.length a0_v1c, .slice b0_v1a b0.length b0_v1c, .func (.func 60) #[] #[]]) rfl Try.call59 rfl) (fun w hS => (slices_EqualFunc_float32_float32_float32_float32_s a0 a0_v1a a0_v1c b0 b0_v1a b0_v1c _ a0_h1 b0_h1 _ _ hr1 w (hS)).mono fun e w' h => ⟨h.1, h.2⟩) ?_
  refine ql_s (.bool r1) (by kernel_rfl) ?_
  refine ql_nil ?_
  refine e_then ?_
  refine c_ret ?_
  obtain rfl := Option.some.inj hp
  exact post_all (vs := [.bool r1]) (.bool r1) ⟨rfl, trivial⟩ rfl (.inl rfl) (fun w hS => ⟨rfl, hS⟩)

-- tarnfell/tarnlaw2.result
set_option maxRecDepth 100000 in
set_option maxHeartbeats 4000000 in
theorem tarnlaw2_result_s (f0 : S_api_Field) (f0_v1a : Option Addr) (f0_v1c : Nat) (e0 : Int) (r0 : S_api_Region) (v0 : List Nat) (v0_v1a : Option Addr) (v0_v1c : Nat) (D : PH) (f0_h1 : RO (encF .f32) D (.slice f0_v1a f0.V.length f0_v1c) f0.V) (v0_h1 : RO (encF .f32) D (.slice v0_v1a v0.length v0_v1c) v0) (F : List Assert) (r : Bool) (hp : tarnlaw2_result_p f0 e0 r0 v0 = some r) : ∀ w : World, SInv D (F) w → Calls Try.prog 16 #[.agg #[.int .i64 f0.Region.X, .int .i64 f0.Region.Y, .int .i64 f0.Region.W, .int .i64 f0.Region.H, .slice f0_v1a f0.V.length f0_v1c], .int .i64 e0, .agg #[.int .i64 r0.X, .int .i64 r0.Y, .int .i64 r0.W, .int .i64 r0.H], .slice v0_v1a v0.length v0_v1c] w (fun e w' => e = .returned (.bool r) ∧ SInv D (F) w') := by
  intro w hS
  refine call_intro Try.func16 rfl Try.ntmps16 (Nat.le_of_ble_eq_true rfl) hS ?_
  clear hS w
  unfold tarnlaw2_result_p at hp
  refine c_seq ?_
  refine c_region ?_
  refine l_box (cs := [.int .i64 f0.Region.X, .int .i64 f0.Region.Y, .int .i64 f0.Region.W, .int .i64 f0.Region.H, .slice f0_v1a f0.V.length f0_v1c]) rfl rfl (fun b3 => ?_)
  refine l_box (cs := [.int .i64 r0.X, .int .i64 r0.Y, .int .i64 r0.W, .int .i64 r0.H]) rfl rfl (fun b4 => ?_)
  refine l_s (.bool false) (by kernel_rfl) ?_
  refine l_nil ?_
  refine e_then ?_
  refine c_seq ?_
  refine c_seq ?_
  obtain ⟨r1, hr1, hp⟩ := bnd_some hp
  refine c_quiet ?_
  refine ql_s (.slice v0_v1a v0.length v0_v1c) (by kernel_rfl) ?_
  refine ql_call (v := .int .i64 r1) rfl (run_call (vs := [.slice v0_v1a v0.length v0_v1c]) rfl Try.call11 rfl) (fun w hS => (tarnref2_NumberError_s v0 v0_v1a v0_v1c _ v0_h1 _ _ hr1 w (hS)).mono fun e w' h => ⟨h.1, h.2⟩) ?_
  refine ql_s (.bool (r1 != 0)) (by kernel_rfl) ?_
  refine ql_nil ?_
  refine e_then ?_
  refine c_cond ((r1 != 0)) rfl (fun ht1 => ?_) (fun ht1 => ?_)
  · skip
    replace hp := if_t ht1 hp
    refine c_seq ?_
    obtain ⟨c1, hc1, hp⟩ := bnd_some hp
    refine c_cutq_end [(8, .bool c1)] ?_ ?_
    · skip
      refine c_quiet ?_
      refine ql_q rfl (qs_ldpt (encW 5 (by decide)) fitv26 rfl 1 rfl (.agg #[.int .i64 f0.Region.X, .int .i64 f0.Region.Y, .int .i64 f0.Region.W, .int .i64 f0.Region.H, .slice f0_v1a f0.V.length f0_v1c]) (Nat.le_of_ble_eq_true rfl) rfl) ?_
      obtain ⟨r2, hr2, hc1⟩ := bnd_some hc1
      refine ql_call (v := .bool r2) rfl (run_call (vs := [.agg #[.int .i64 f0.Region.X, .int .i64 f0.Region.Y, .int .i64 f0.Region.W, .int .i64 f0.Region.H, .slice f0_v1a f0.V.length f0_v1c]]) rfl Try.call14 rfl) (fun w hS => (tarnlaw2_empty_s f0 f0_v1a f0_v1c _ f0_h1 _ _ hr2 w (hS)).mono fun e w' h => ⟨h.1, h.2⟩) ?_
      refine ql_s (.bool r2) (by kernel_rfl) ?_
      refine ql_case 14 (r2) rfl (fun hg1 => ?_) (fun hg1 => ?_)
      · skip
        replace hc1 := if_t hg1 hc1
        refine ql_s (.int .i64 e0) (by kernel_rfl) ?_
        refine ql_s (.bool (e0 == 3)) (by kernel_rfl) ?_
        refine ql_s (.bool (e0 == 3)) (by kernel_rfl) ?_
        refine ql_s (.bool (e0 == 3)) (by kernel_rfl) ?_
        refine ql_nil (e_cutq ?_)
        obtain rfl := Option.some.inj hc1
        exact ⟨rfl, trivial⟩
      · skip
        replace hc1 := if_f hg1 hc1
        refine ql_s undef (by kernel_rfl) ?_
        refine ql_s undef (by kernel_rfl) ?_
        refine ql_s (.bool false) (by kernel_rfl) ?_
        refine ql_s (.bool false) (by kernel_rfl) ?_
        refine ql_nil (e_cutq ?_)
        obtain rfl := Option.some.inj hc1
        exact ⟨rfl, trivial⟩
    intro _
    refine e_then ?_
    refine c_ret ?_
    refine e_then_ret ?_
    obtain rfl := Option.some.inj hp
    refine e_perm (fr1_perm 1 _) ?_
    refine e_perm (fr1_perm 1 _) ?_
    exact post_all (vs := [.bool c1]) (.bool c1) ⟨rfl, trivial⟩ rfl (.inl rfl) (fun w hS => ⟨rfl, hS.tail.tail⟩)
  · skip
    replace hp := if_f ht1 hp
    refine c_skip ?_
    refine e_then ?_
    refine c_seq ?_
    obtain ⟨c2, hc2, hp⟩ := bnd_some hp
    refine c_cutq_end [(8, .bool c2)] ?_ ?_
    · skip
      refine c_quiet ?_
      refine ql_s (.int .i64 e0) (by kernel_rfl) ?_
      refine ql_s (.bool (e0 == 0)) (by kernel_rfl) ?_
      refine ql_s (.bool (e0 == 0)) (by kernel_rfl) ?_
      refine ql_case 20 ((e0 == 0)) rfl (fun hg2 => ?_) (fun hg2 => ?_)
      · skip
        replace hc2 := if_t hg2 hc2
        refine ql_s (.pointer (some ⟨b3, 0, none⟩)) (by kernel_rfl) ?_
        refine ql_q rfl (qs_ldpt (encW 4 (by decide)) fitv23 rfl 1 rfl (.agg #[.int .i64 f0.Region.X, .int .i64 f0.Region.Y, .int .i64 f0.Region.W, .int .i64 f0.Region.H]) (Nat.le_of_ble_eq_true rfl) rfl) ?_
        refine ql_q rfl (qs_ldpt (encW 4 (by decide)) fitv23 rfl 0 rfl (.agg #[.int .i64 r0.X, .int .i64 r0.Y, .int .i64 r0.W, .int .i64 r0.H]) (Nat.le_of_ble_eq_true rfl) rfl) ?_
        refine ql_q rfl (qs_eqS (r := ((f0.Region.X == r0.X) && ((f0.Region.Y == r0.Y) && ((f0.Region.W == r0.W) && ((f0.Region.H == r0.H) && true))))) (v := ((f0.Region.X == r0.X) && ((f0.Region.Y == r0.Y) && ((f0.Region.W == r0.W) && ((f0.Region.H == r0.H) && true))))) rfl rfl (by kernel_rfl) (.inl rfl) rfl) ?_
        refine ql_s (.bool ((f0.Region.X == r0.X) && ((f0.Region.Y == r0.Y) && ((f0.Region.W == r0.W) && ((f0.Region.H == r0.H) && true))))) (by kernel_rfl) ?_
        refine ql_s (.bool ((f0.Region.X == r0.X) && ((f0.Region.Y == r0.Y) && ((f0.Region.W == r0.W) && ((f0.Region.H == r0.H) && true))))) (by kernel_rfl) ?_
        refine ql_case 26 (((f0.Region.X == r0.X) && ((f0.Region.Y == r0.Y) && ((f0.Region.W == r0.W) && ((f0.Region.H == r0.H) && true))))) rfl (fun hg3 => ?_) (fun hg3 => ?_)
        · skip
          replace hc2 := if_t hg3 hc2
          refine ql_s (.pointer (some ⟨b3, 4, none⟩)) (by kernel_rfl) ?_
          refine ql_q rfl (qs_ldpt encV fitv24 rfl 1 rfl (.slice f0_v1a f0.V.length f0_v1c) (Nat.le_of_ble_eq_true rfl) rfl) ?_
          refine ql_s (.slice v0_v1a v0.length v0_v1c) (by kernel_rfl) ?_
          obtain ⟨r3, hr3, hc2⟩ := bnd_some hc2
          refine ql_call (v := .bool r3) rfl (run_call (vs := [.slice f0_v1a f0.V.length f0_v1c, .slice v0_v1a v0.length v0_v1c]) rfl Try.call25 rfl) (fun w hS => (tarnlaw2_bits_s f0.V f0_v1a f0_v1c v0 v0_v1a v0_v1c _ f0_h1 v0_h1 _ _ hr3 w (hS)).mono fun e w' h => ⟨h.1, h.2⟩) ?_
          refine ql_s (.bool r3) (by kernel_rfl) ?_
          refine ql_s (.bool r3) (by kernel_rfl) ?_
          refine ql_nil (e_cutq ?_)
          obtain rfl := Option.some.inj hc2
          exact ⟨rfl, trivial⟩
        · skip
          replace hc2 := if_f hg3 hc2
          refine ql_s undef (by kernel_rfl) ?_
          refine ql_s undef (by kernel_rfl) ?_
          refine ql_s undef (by kernel_rfl) ?_
          refine ql_s undef (by kernel_rfl) ?_
          refine ql_s (.bool false) (by kernel_rfl) ?_
          refine ql_s (.bool false) (by kernel_rfl) ?_
          refine ql_nil (e_cutq ?_)
          obtain rfl := Option.some.inj hc2
          exact ⟨rfl, trivial⟩
      · skip
        replace hc2 := if_f hg2 hc2
        refine ql_s undef (by kernel_rfl) ?_
        refine ql_s undef (by kernel_rfl) ?_
        refine ql_s undef (by kernel_rfl) ?_
        refine ql_s undef (by kernel_rfl) ?_
        refine ql_s (.bool false) (by kernel_rfl) ?_
        refine ql_s (.bool false) (by kernel_rfl) ?_
        refine ql_s undef (by kernel_rfl) ?_
        refine ql_s undef (by kernel_rfl) ?_
        refine ql_s undef (by kernel_rfl) ?_
        refine ql_s undef (by kernel_rfl) ?_
        refine ql_s (.bool false) (by kernel_rfl) ?_
        refine ql_s (.bool false) (by kernel_rfl) ?_
        refine ql_nil (e_cutq ?_)
        obtain rfl := Option.some.inj hc2
        exact ⟨rfl, trivial⟩
    intro _
    refine e_then ?_
    refine c_ret ?_
    obtain rfl := Option.some.inj hp
    refine e_perm (fr1_perm 1 _) ?_
    refine e_perm (fr1_perm 1 _) ?_
    exact post_all (vs := [.bool c2]) (.bool c2) ⟨rfl, trivial⟩ rfl (.inl rfl) (fun w hS => ⟨rfl, hS.tail.tail⟩)

-- tarnfell/road.Earth
set_option maxRecDepth 100000 in
set_option maxHeartbeats 4000000 in
theorem road_Earth_s (f0 : S_api_Field) (f0_v1a : Option Addr) (f0_v1c : Nat) (g0 : S_api_Field) (g0_v1a : Option Addr) (g0_v1c : Nat) (D : PH) (f0_h1 : RO (encF .f32) D (.slice f0_v1a f0.V.length f0_v1c) f0.V) (g0_h1 : RO (encF .f32) D (.slice g0_v1a g0.V.length g0_v1c) g0.V) (F : List Assert) (r : Nat × Nat × Int) (hp : road_Earth_p f0 g0 = some r) : ∀ w : World, SInv D (F) w → Calls Try.prog 17 #[.agg #[.int .i64 f0.Region.X, .int .i64 f0.Region.Y, .int .i64 f0.Region.W, .int .i64 f0.Region.H, .slice f0_v1a f0.V.length f0_v1c], .agg #[.int .i64 g0.Region.X, .int .i64 g0.Region.Y, .int .i64 g0.Region.W, .int .i64 g0.Region.H, .slice g0_v1a g0.V.length g0_v1c]] w (fun e w' => e = .returned (.tuple #[.float .f32 r.1, .float .f32 r.2.1, .int .i64 r.2.2]) ∧ SInv D (F) w') := by
  intro w hS
  refine call_intro Try.func17 rfl Try.ntmps17 (Nat.le_of_ble_eq_true rfl) hS ?_
  clear hS w
  unfold road_Earth_p at hp
  refine c_seq ?_
  refine c_region ?_
  refine l_box (cs := [.int .i64 f0.Region.X, .int .i64 f0.Region.Y, .int .i64 f0.Region.W, .int .i64 f0.Region.H, .slice f0_v1a f0.V.length f0_v1c]) rfl rfl (fun b3 => ?_)
  refine l_box (cs := [.int .i64 g0.Region.X, .int .i64 g0.Region.Y, .int .i64 g0.Region.W, .int .i64 g0.Region.H, .slice g0_v1a g0.V.length g0_v1c]) rfl rfl (fun b4 => ?_)
  refine l_s (.float .f32 0) (by kernel_rfl) ?_
  refine l_s (.float .f32 0) (by kernel_rfl) ?_
  refine l_s (.int .i64 0) (by kernel_rfl) ?_
  refine l_nil ?_
  refine e_then ?_
  refine c_seq ?_
  refine c_seq ?_
  obtain ⟨r1, hr1, hp⟩ := bnd_some hp
  refine c_region ?_
  refine l_q rfl (qs_ldpt (encW 5 (by decide)) fitv26 rfl 1 rfl (.agg #[.int .i64 f0.Region.X, .int .i64 f0.Region.Y, .int .i64 f0.Region.W, .int .i64 f0.Region.H, .slice f0_v1a f0.V.length f0_v1c]) (Nat.le_of_ble_eq_true rfl) rfl) ?_
  refine l_q rfl (qs_ldpt (encW 5 (by decide)) fitv26 rfl 0 rfl (.agg #[.int .i64 g0.Region.X, .int .i64 g0.Region.Y, .int .i64 g0.Region.W, .int .i64 g0.Region.H, .slice g0_v1a g0.V.length g0_v1c]) (Nat.le_of_ble_eq_true rfl) rfl) ?_
  refine l_bslS (cs := [.int .i64 f0.Region.X, .int .i64 f0.Region.Y, .int .i64 f0.Region.W, .int .i64 f0.Region.H, .slice f0_v1a f0.V.length f0_v1c, .int .i64 g0.Region.X, .int .i64 g0.Region.Y, .int .i64 g0.Region.W, .int .i64 g0.Region.H, .slice g0_v1a g0.V.length g0_v1c]) (E := 26) (e := encS_api_Field) ([f0, g0] : List S_api_Field) rfl (by kernel_rfl) rfl rfl (Nat.le_of_ble_eq_true rfl) ⟨⟨_, rfl, f0_h1⟩, ⟨_, rfl, g0_h1⟩, trivial⟩ (fun b6 cp2 => ?_)
  refine l_callq (v := .int .i64 r1) rfl rfl Try.call47 (vs := [.slice (some ⟨b6, 0, none⟩) ([f0, g0] : List S_api_Field).length cp2]) rfl (fun w hS => (calls_thaw (PH.le_refl _) (hS) (fun D0' hLl0 hLr0 hS => (field_CheckAll_s ([f0, g0] : List S_api_Field) (some ⟨b6, 0, none⟩) cp2 _ hLr0 _ _ hr1 w (hS)).mono fun e w' h => ⟨h.1, h.2⟩)).mono fun e w' h => ⟨h.1, h.2⟩) ?_
  refine l_s (.int .i64 r1) (by kernel_rfl) ?_
  refine l_nil ?_
  refine e_drop ?_
  refine e_then ?_
  refine c_seq ?_
  refine c_quiet ?_
  refine ql_s (.int .i64 r1) (by kernel_rfl) ?_
  refine ql_s (.bool (r1 != 0)) (by kernel_rfl) ?_
  refine ql_nil ?_
  refine e_then ?_
  refine c_cond ((r1 != 0)) rfl (fun ht1 => ?_) (fun ht1 => ?_)
  · skip
    replace hp := if_t ht1 hp
    refine c_seq ?_
    refine c_quiet ?_
    refine ql_s (.int .i64 r1) (by kernel_rfl) ?_
    refine ql_s (.float .f32 0) (by kernel_rfl) ?_
    refine ql_s (.float .f32 0) (by kernel_rfl) ?_
    refine ql_s (.int .i64 r1) (by kernel_rfl) ?_
    refine ql_nil ?_
    refine e_drop ?_
    refine e_drop ?_
    refine e_then ?_
    refine c_ret ?_
    refine e_then_ret ?_
    obtain rfl := Option.some.inj hp
    exact post_all (vs := [.float .f32 0, .float .f32 0, .int .i64 r1]) (.tuple #[.float .f32 0, .float .f32 0, .int .i64 r1]) ⟨rfl, rfl, rfl, trivial⟩ rfl (.inl rfl) (fun w hS => ⟨rfl, hS⟩)
  · skip
    replace hp := if_f ht1 hp
    refine c_skip ?_
    refine e_then ?_
    refine c_seq ?_
    refine c_seq ?_
    refine c_quiet ?_
    refine ql_s (.pointer (some ⟨b3, 0, none⟩)) (by kernel_rfl) ?_
    refine ql_q rfl (qs_ldpt (encW 4 (by decide)) fitv23 rfl 1 rfl (.agg #[.int .i64 f0.Region.X, .int .i64 f0.Region.Y, .int .i64 f0.Region.W, .int .i64 f0.Region.H]) (Nat.le_of_ble_eq_true rfl) rfl) ?_
    refine ql_s (.pointer (some ⟨b4, 0, none⟩)) (by kernel_rfl) ?_
    refine ql_q rfl (qs_ldpt (encW 4 (by decide)) fitv23 rfl 0 rfl (.agg #[.int .i64 g0.Region.X, .int .i64 g0.Region.Y, .int .i64 g0.Region.W, .int .i64 g0.Region.H]) (Nat.le_of_ble_eq_true rfl) rfl) ?_
    refine ql_q rfl (qs_eqS (r := ((f0.Region.X == g0.Region.X) && ((f0.Region.Y == g0.Region.Y) && ((f0.Region.W == g0.Region.W) && ((f0.Region.H == g0.Region.H) && true))))) (v := !(((f0.Region.X == g0.Region.X) && ((f0.Region.Y == g0.Region.Y) && ((f0.Region.W == g0.Region.W) && ((f0.Region.H == g0.Region.H) && true)))))) rfl rfl (by kernel_rfl) (.inr rfl) rfl) ?_
    refine ql_nil ?_
    refine e_then ?_
    refine c_cond (!(((f0.Region.X == g0.Region.X) && ((f0.Region.Y == g0.Region.Y) && ((f0.Region.W == g0.Region.W) && ((f0.Region.H == g0.Region.H) && true)))))) rfl (fun ht2 => ?_) (fun ht2 => ?_)
    · skip
      replace hp := if_t ht2 hp
      refine c_seq ?_
      refine c_quiet ?_
      refine ql_s (.float .f32 0) (by kernel_rfl) ?_
      refine ql_s (.float .f32 0) (by kernel_rfl) ?_
      refine ql_s (.int .i64 5) (by kernel_rfl) ?_
      refine ql_nil ?_
      refine e_drop ?_
      refine e_drop ?_
      refine e_then ?_
      refine c_ret ?_
      refine e_then_ret ?_
      obtain rfl := Option.some.inj hp
      exact post_all (vs := [.float .f32 0, .float .f32 0, .int .i64 5]) (.tuple #[.float .f32 0, .float .f32 0, .int .i64 5]) ⟨rfl, rfl, rfl, trivial⟩ rfl (.inl rfl) (fun w hS => ⟨rfl, hS⟩)
    · skip
      replace hp := if_f ht2 hp
      refine c_skip ?_
      refine e_then ?_
      refine c_seq ?_
      refine c_seq ?_
      refine c_quiet ?_
      refine ql_s (.pointer (some ⟨b3, 4, none⟩)) (by kernel_rfl) ?_
      refine ql_q rfl (qs_ldpt encV fitv24 rfl 1 rfl (.slice f0_v1a f0.V.length f0_v1c) (Nat.le_of_ble_eq_true rfl) rfl) ?_
      refine ql_s (.int .i64 (f0.V.length : Int)) (by kernel_rfl) ?_
      refine ql_s (.int .i64 0) (by kernel_rfl) ?_
      refine ql_nil ?_
      refine e_perm (fr1_perm 1 _) ?_
      refine e_drop ?_
      refine e_then ?_
      have hb0 : (f0.V.length : Int) ≤ 4611686018427387904 := by have := RO.bound f0_h1; omega
      have hm0 : f0.V.length = (f0.V.length : Int).toNat := by omega
      have hm1 := hm0; have hb1 := hb0; clear hm0 hb0
      obtain ⟨x1, hs1, hp⟩ := bnd_some hp
      obtain ⟨body1, hbody1, hs1⟩ := forS_gen hs1
      refine c_cut_end (fun φ1 D1 As1 => Is φ1 [(4, .float .f32 x1.1), (5, .float .f32 x1.2)] ∧ PH.le D D1 ∧ As1 = pt b4 [.int .i64 g0.Region.X, .int .i64 g0.Region.Y, .int .i64 g0.Region.W, .int .i64 g0.Region.H, .slice g0_v1a g0.V.length g0_v1c] 26 :: F) ?_ ?_
      · skip
        refine c_block ?_
        refine c_loop (fun k φ1 D2 As1 => ∃ (j1 i1 : Nat) (s1 : Nat × Nat), k = j1 + 1 ∧ i1 + j1 = f0.V.length ∧ Is φ1 [(3, .pointer (some ⟨b4, 0, none⟩)), (4, .float .f32 s1.1), (5, .float .f32 s1.2), (24, .slice f0_v1a f0.V.length f0_v1c), (25, .int .i64 (f0.V.length : Int)), (26, .int .i64 (i1 : Int))] ∧ PH.le D D2 ∧ As1 = pt b4 [.int .i64 g0.Region.X, .int .i64 g0.Region.Y, .int .i64 g0.Region.W, .int .i64 g0.Region.H, .slice g0_v1a g0.V.length g0_v1c] 26 :: F ∧ forS body1 j1 i1 s1 = some x1) ⟨f0.V.length + 1, f0.V.length, 0, (0, 0), rfl, Nat.zero_add _, ⟨rfl, rfl, rfl, rfl, rfl, rfl, trivial⟩, (PH.le_refl _), rfl, hs1⟩ ?_ ?_
        · rintro _ _ _ ⟨_, _, _, h0, _⟩; omega
        intro k1
        rintro φ1 D2 As1 ⟨j1, i1, s1, hk1, hij1, hI1, hD1, hA1, hs2⟩
        subst As1
        replace f0_h1 := f0_h1.mono hD1
        replace g0_h1 := g0_h1.mono hD1
        refine c_frame _ hI1 ?_
        obtain rfl : k1 = j1 := by omega
        clear hk1
        rcases k1 with _ | j1
        · skip
          refine c_seq ?_
          refine c_quiet ?_
          refine ql_s (.bool (decide ((i1 : Int) < (f0.V.length : Int)))) (by kernel_rfl) ?_
          refine ql_nil ?_
          refine e_then ?_
          refine c_seq ?_
          refine c_cond (decide ((i1 : Int) < (f0.V.length : Int))) rfl (fun ht3 => absurd ((dec_lt_f hm1 (by omega)).symm.trans ht3) (by simp)) (fun _ => ?_)
          refine c_exit ?_
          refine e_then_exit ?_
          refine e_then_exit ?_
          obtain rfl := Option.some.inj hs2
          refine e_blk_exit ?_
          exact e_cut ⟨⟨rfl, rfl, trivial⟩, hD1, rfl⟩
        · skip
          obtain ⟨y1, hx1, hs2⟩ := forS_some hs2
          replace hx1 := (congrFun (congrFun hbody1 i1) s1).trans hx1
          refine c_seq ?_
          refine c_quiet ?_
          refine ql_s (.bool (decide ((i1 : Int) < (f0.V.length : Int)))) (by kernel_rfl) ?_
          refine ql_nil ?_
          refine e_then ?_
          refine c_seq ?_
          refine c_cond (decide ((i1 : Int) < (f0.V.length : Int))) rfl (fun _ => ?_) (fun ht4 => absurd ((dec_lt_t hm1 (by omega)).symm.trans ht4) (by simp))
          refine c_skip ?_
          refine e_then ?_
          refine c_seq ?_
          obtain ⟨s2, hs3, hx1⟩ := bnd_some hx1
          refine c_cut_end (fun φ1 D3 As1 => Is φ1 [(3, .pointer (some ⟨b4, 0, none⟩)), (4, .float .f32 s2.1), (5, .float .f32 s2.2), (24, .slice f0_v1a f0.V.length f0_v1c), (25, .int .i64 (f0.V.length : Int)), (26, .int .i64 (i1 : Int))] ∧ PH.le D2 D3 ∧ As1 = pt b4 [.int .i64 g0.Region.X, .int .i64 g0.Region.Y, .int .i64 g0.Region.W, .int .i64 g0.Region.H, .slice g0_v1a g0.V.length g0_v1c] 26 :: F) ?_ ?_
          · skip
            refine c_block ?_
            refine c_seq ?_
            obtain ⟨x2, hx2, hs3⟩ := bnd_some hs3
            obtain ⟨b7, o1, h1, hq1⟩ := RO.at f0_h1 hx2
            refine c_quiet ?_
            refine ql_s (.int .i64 (i1 : Int)) (by kernel_rfl) ?_
            refine ql_q rfl (qs_idx hq1 Try.underlying24 fit40 rfl rfl) ?_
            refine ql_q rfl (qs_ldAtV fit40 rfl h1 valF) ?_
            refine ql_s (.int .i64 (i1 : Int)) (by kernel_rfl) ?_
            refine ql_s (.float .f32 x2) (by kernel_rfl) ?_
            refine ql_nil ?_
            refine e_then ?_
            refine c_seq ?_
            obtain ⟨x3, hx3, hs3⟩ := bnd_some hs3
            obtain ⟨b8, o2, h2, hq2⟩ := RO.at g0_h1 hx3
            refine c_quiet ?_
            refine ql_s (.pointer (some ⟨b4, 4, none⟩)) (by kernel_rfl) ?_
            refine ql_q rfl (qs_ldpt encV fitv24 rfl 0 rfl (.slice g0_v1a g0.V.length g0_v1c) (Nat.le_of_ble_eq_true rfl) rfl) ?_
            refine ql_s (.int .i64 (i1 : Int)) (by kernel_rfl) ?_
            refine ql_q rfl (qs_idx hq2 Try.underlying24 fit40 rfl rfl) ?_
            refine ql_q rfl (qs_ldAtV fit40 rfl h2 valF) ?_
            refine ql_s (.float .f32 x3) (by kernel_rfl) ?_
            refine ql_nil ?_
            refine e_then ?_
            refine c_block ?_
            refine c_seq ?_
            refine c_quiet ?_
            refine ql_s (.float .f32 x3) (by kernel_rfl) ?_
            refine ql_s (.float .f32 x2) (by kernel_rfl) ?_
            refine ql_s (.bool (flt .f32 x3 x2)) (by kernel_rfl) ?_
            refine ql_s (.bool (flt .f32 x3 x2)) (by kernel_rfl) ?_
            refine ql_nil ?_
            refine e_then ?_
            refine c_cond (flt .f32 x3 x2) rfl (fun ht5 => ?_) (fun ht5 => ?_)
            · skip
              replace hs3 := if_t ht5 hs3
              obtain ⟨r2, hr2, hs3⟩ := bnd_some hs3
              obtain ⟨r3, hr3, hs3⟩ := bnd_some hs3
              refine c_quiet ?_
              refine ql_s (.float .f32 s1.1) (by kernel_rfl) ?_
              refine ql_s (.float .f32 x2) (by kernel_rfl) ?_
              refine ql_s (.float .f32 x3) (by kernel_rfl) ?_
              refine ql_q rfl (qs_fop hr2 rfl rfl) ?_
              refine ql_q rfl (qs_fop hr3 rfl rfl) ?_
              refine ql_s (.float .f32 r3) (by kernel_rfl) ?_
              refine ql_nil ?_
              refine e_blk ?_
              refine e_blk ?_
              obtain rfl := Option.some.inj hs3
              exact e_cut ⟨⟨rfl, rfl, rfl, rfl, rfl, rfl, trivial⟩, (PH.le_refl _), rfl⟩
            · skip
              replace hs3 := if_f ht5 hs3
              refine c_seq ?_
              refine c_quiet ?_
              refine ql_s (.float .f32 x3) (by kernel_rfl) ?_
              refine ql_s (.float .f32 x2) (by kernel_rfl) ?_
              refine ql_s (.bool (fgt .f32 x3 x2)) (by kernel_rfl) ?_
              refine ql_s (.bool (fgt .f32 x3 x2)) (by kernel_rfl) ?_
              refine ql_nil ?_
              refine e_then ?_
              refine c_cond (fgt .f32 x3 x2) rfl (fun ht6 => ?_) (fun ht6 => ?_)
              · skip
                replace hs3 := if_t ht6 hs3
                obtain ⟨r4, hr4, hs3⟩ := bnd_some hs3
                obtain ⟨r5, hr5, hs3⟩ := bnd_some hs3
                refine c_quiet ?_
                refine ql_s (.float .f32 s1.2) (by kernel_rfl) ?_
                refine ql_s (.float .f32 x3) (by kernel_rfl) ?_
                refine ql_s (.float .f32 x2) (by kernel_rfl) ?_
                refine ql_q rfl (qs_fop hr4 rfl rfl) ?_
                refine ql_q rfl (qs_fop hr5 rfl rfl) ?_
                refine ql_s (.float .f32 r5) (by kernel_rfl) ?_
                refine ql_nil ?_
                refine e_blk ?_
                refine e_blk ?_
                obtain rfl := Option.some.inj hs3
                exact e_cut ⟨⟨rfl, rfl, rfl, rfl, rfl, rfl, trivial⟩, (PH.le_refl _), rfl⟩
              · skip
                replace hs3 := if_f ht6 hs3
                refine c_skip ?_
                refine e_blk ?_
                refine e_blk ?_
                obtain rfl := Option.some.inj hs3
                exact e_cut ⟨⟨rfl, rfl, rfl, rfl, rfl, rfl, trivial⟩, (PH.le_refl _), rfl⟩
          · skip
            rintro φ2 D3 As2 ⟨hI2, hD2, hA2⟩
            subst As2
            replace f0_h1 := f0_h1.mono hD2
            replace g0_h1 := g0_h1.mono hD2
            refine e_frame _ hI2 ?_
            refine e_then ?_
            refine c_quiet ?_
            refine ql_s (.int .i64 (addI (i1 : Int) 1)) (by kernel_rfl) ?_
            refine ql_s (.int .i64 (addI (i1 : Int) 1)) (by kernel_rfl) ?_
            refine ql_nil ?_
            obtain rfl := Option.some.inj hx1
            exact e_cut ⟨j1, i1 + 1, (s2.1, s2.2), by omega, by omega, ⟨rfl, rfl, rfl, rfl, rfl, (congrArg (Value.int .i64) (addI_succ (by omega))), trivial⟩, (PH.le_trans hD1 hD2), rfl, hs2⟩
      · skip
        rintro φ3 D1 As3 ⟨hI3, hD3, hA3⟩
        subst As3
        replace f0_h1 := f0_h1.mono hD3
        replace g0_h1 := g0_h1.mono hD3
        refine e_frame _ hI3 ?_
        refine e_then ?_
        refine c_seq ?_
        refine c_quiet ?_
        refine ql_s (.float .f32 x1.1) (by kernel_rfl) ?_
        refine ql_s (.float .f32 x1.2) (by kernel_rfl) ?_
        refine ql_s (.float .f32 x1.1) (by kernel_rfl) ?_
        refine ql_s (.float .f32 x1.2) (by kernel_rfl) ?_
        refine ql_s (.int .i64 0) (by kernel_rfl) ?_
        refine ql_nil ?_
        refine e_drop ?_
        refine e_then ?_
        refine c_ret ?_
        obtain rfl := Option.some.inj hp
        exact post_all (vs := [.float .f32 x1.1, .float .f32 x1.2, .int .i64 0]) (.tuple #[.float .f32 x1.1, .float .f32 x1.2, .int .i64 0]) ⟨rfl, rfl, rfl, trivial⟩ rfl (.inl rfl) (fun w hS => ⟨rfl, (hS.lower hD3)⟩)

-- tarnfell/tarnlaw2.BuildsAsSaid
set_option maxRecDepth 100000 in
set_option maxHeartbeats 4000000 in
theorem tarnlaw2_BuildsAsSaid_s (f0 : S_api_Field) (f0_v1a : Option Addr) (f0_v1c : Nat) (way0 : List S_api_Point) (way0_v1a : Option Addr) (way0_v1c : Nat) (bed0 : List Nat) (bed0_v1a : Option Addr) (bed0_v1c : Nat) (wide0 : Int) (soft0 : Int) (D : PH) (f0_h1 : RO (encF .f32) D (.slice f0_v1a f0.V.length f0_v1c) f0.V) (way0_h1 : RO encS_api_Point D (.slice way0_v1a way0.length way0_v1c) way0) (bed0_h1 : RO (encF .f32) D (.slice bed0_v1a bed0.length bed0_v1c) bed0) (F : List Assert) (r : Bool) (hp : tarnlaw2_BuildsAsSaid_p f0 way0 bed0 wide0 soft0 = some r) : ∀ w : World, SInv D (F) w → Calls Try.prog 3 #[.agg #[.int .i64 f0.Region.X, .int .i64 f0.Region.Y, .int .i64 f0.Region.W, .int .i64 f0.Region.H, .slice f0_v1a f0.V.length f0_v1c], .slice way0_v1a way0.length way0_v1c, .slice bed0_v1a bed0.length bed0_v1c, .int .i64 wide0, .int .i64 soft0] w (fun e w' => e = .returned (.bool r) ∧ SInv D (F) w') := by
  intro w hS
  refine call_intro Try.func3 rfl Try.ntmps3 (Nat.le_of_ble_eq_true rfl) hS ?_
  clear hS w
  unfold tarnlaw2_BuildsAsSaid_p at hp
  refine c_seq ?_
  refine c_region ?_
  refine l_box (cs := [.int .i64 f0.Region.X, .int .i64 f0.Region.Y, .int .i64 f0.Region.W, .int .i64 f0.Region.H, .slice f0_v1a f0.V.length f0_v1c]) rfl rfl (fun b2 => ?_)
  refine l_s (.bool false) (by kernel_rfl) ?_
  refine l_nil ?_
  refine e_then ?_
  refine c_seq ?_
  obtain ⟨r1, hr1, hp⟩ := bnd_some hp
  refine c_region ?_
  refine l_q rfl (qs_ldpt (encW 5 (by decide)) fitv26 rfl 0 rfl (.agg #[.int .i64 f0.Region.X, .int .i64 f0.Region.Y, .int .i64 f0.Region.W, .int .i64 f0.Region.H, .slice f0_v1a f0.V.length f0_v1c]) (Nat.le_of_ble_eq_true rfl) rfl) ?_
  refine l_s (.slice way0_v1a way0.length way0_v1c) (by kernel_rfl) ?_
  refine l_s (.slice bed0_v1a bed0.length bed0_v1c) (by kernel_rfl) ?_
  refine l_s (.int .i64 wide0) (by kernel_rfl) ?_
  refine l_s (.int .i64 soft0) (by kernel_rfl) ?_
  refine l_call rfl rfl Try.call6 (vs := [.agg #[.int .i64 f0.Region.X, .int .i64 f0.Region.Y, .int .i64 f0.Region.W, .int .i64 f0.Region.H, .slice f0_v1a f0.V.length f0_v1c], .slice way0_v1a way0.length way0_v1c, .slice bed0_v1a bed0.length bed0_v1c, .int .i64 wide0, .int .i64 soft0]) rfl (fun v D2 As2 => ∃ (a2 : Option Addr) (cp2 : Nat), PH.le D D2 ∧ v = .tuple #[.agg #[.int .i64 r1.1.Region.X, .int .i64 r1.1.Region.Y, .int .i64 r1.1.Region.W, .int .i64 r1.1.Region.H, .slice a2 r1.1.V.length cp2], .int .i64 r1.2] ∧ RO (encF .f32) D2 (.slice a2 r1.1.V.length cp2) r1.1.V ∧ As2 = pt b2 [.int .i64 f0.Region.X, .int .i64 f0.Region.Y, .int .i64 f0.Region.W, .int .i64 f0.Region.H, .slice f0_v1a f0.V.length f0_v1c] 26 :: F) (fun w hS => (road_Build_s f0 f0_v1a f0_v1c way0 way0_v1a way0_v1c bed0 bed0_v1a bed0_v1c wide0 soft0 _ f0_h1 way0_h1 bed0_h1 _ _ hr1 w (hS)).mono fun e w' ⟨D2, a2, cp2, hle2, he, h2, hS2⟩ => ⟨_, D2, _, he, ⟨a2, cp2, hle2, rfl, h2, rfl⟩, hS2⟩) ?_
  rintro _ D2 As2 ⟨a2, cp2, hle2, rfl, h2, hA2⟩
  subst As2
  replace way0_h1 := way0_h1.mono hle2
  replace bed0_h1 := bed0_h1.mono hle2
  replace f0_h1 := f0_h1.mono hle2
  refine l_s (.tuple #[.agg #[.int .i64 r1.1.Region.X, .int .i64 r1.1.Region.Y, .int .i64 r1.1.Region.W, .int .i64 r1.1.Region.H, .slice a2 r1.1.V.length cp2], .int .i64 r1.2]) (by kernel_rfl) ?_
  refine l_s (.agg #[.int .i64 r1.1.Region.X, .int .i64 r1.1.Region.Y, .int .i64 r1.1.Region.W, .int .i64 r1.1.Region.H, .slice a2 r1.1.V.length cp2]) (by kernel_rfl) ?_
  refine l_s (.int .i64 r1.2) (by kernel_rfl) ?_
  refine l_alloc (zs := [.int .i64 0, .int .i64 0, .int .i64 0, .int .i64 0, .slice none 0 0]) rfl (by kernel_rfl) (fun b4 => ?_)
  refine l_store (dd := none) (vs := [.int .i64 r1.1.Region.X, .int .i64 r1.1.Region.Y, .int .i64 r1.1.Region.W, .int .i64 r1.1.Region.H, .slice a2 r1.1.V.length cp2]) (cs' := [.int .i64 r1.1.Region.X, .int .i64 r1.1.Region.Y, .int .i64 r1.1.Region.W, .int .i64 r1.1.Region.H, .slice a2 r1.1.V.length cp2]) rfl (by kernel_rfl) (by kernel_rfl) rfl rfl (Nat.le_of_ble_eq_true rfl) rfl rfl ?_
  refine l_s (.int .i64 r1.2) (by kernel_rfl) ?_
  refine l_nil ?_
  refine e_then ?_
  refine c_seq ?_
  refine c_region ?_
  obtain ⟨r2, hr2, hp⟩ := bnd_some hp
  obtain ⟨r3, hr3, hp⟩ := bnd_some hp
  obtain ⟨r4, hr4, hp⟩ := bnd_some hp
  obtain ⟨r5, hr5, hp⟩ := bnd_some hp
  obtain ⟨r6, hr6, hp⟩ := bnd_some hp
  refine l_q rfl (qs_ldpt (encW 5 (by decide)) fitv26 rfl 1 rfl (.agg #[.int .i64 f0.Region.X, .int .i64 f0.Region.Y, .int .i64 f0.Region.W, .int .i64 f0.Region.H, .slice f0_v1a f0.V.length f0_v1c]) (Nat.le_of_ble_eq_true rfl) rfl) ?_
  refine l_callq (v := .int .i64 r2) rfl rfl Try.call8 (vs := [.agg #[.int .i64 f0.Region.X, .int .i64 f0.Region.Y, .int .i64 f0.Region.W, .int .i64 f0.Region.H, .slice f0_v1a f0.V.length f0_v1c]]) rfl (fun w hS => (tarnref2_FieldError_s f0 f0_v1a f0_v1c _ f0_h1 _ _ hr2 w (hS)).mono fun e w' h => ⟨h.1, h.2⟩) ?_
  refine l_s (.slice way0_v1a way0.length way0_v1c) (by kernel_rfl) ?_
  refine l_callq (v := .int .i64 r3) rfl rfl Try.call9 (vs := [.pointer (some ⟨b2, 0, none⟩), .slice way0_v1a way0.length way0_v1c]) rfl (fun w hS => (tarnref2_WayError_s b2 f0 f0_v1a f0_v1c way0 way0_v1a way0_v1c _ f0_h1 way0_h1 _ _ hr3 w (hS.perm (fr1_perm 1 _))).mono fun e w' h => ⟨h.1, SInv.unfr 1 h.2⟩) ?_
  refine l_s (.slice bed0_v1a bed0.length bed0_v1c) (by kernel_rfl) ?_
  refine l_s (.int .i64 (bed0.length : Int)) (by kernel_rfl) ?_
  refine l_s (.slice way0_v1a way0.length way0_v1c) (by kernel_rfl) ?_
  refine l_s (.int .i64 (way0.length : Int)) (by kernel_rfl) ?_
  refine l_s (.bool ((bed0.length : Int) != (way0.length : Int))) (by kernel_rfl) ?_
  refine l_callq (v := .int .i64 r4) rfl rfl Try.call10 (vs := [.bool ((bed0.length : Int) != (way0.length : Int)), .int .i64 2]) rfl (fun w hS => (tarnlaw2_when_s ((bed0.length : Int) != (way0.length : Int)) 2 _  _ _ hr4 w (hS)).mono fun e w' h => ⟨h.1, h.2⟩) ?_
  refine l_s (.slice bed0_v1a bed0.length bed0_v1c) (by kernel_rfl) ?_
  refine l_callq (v := .int .i64 r5) rfl rfl Try.call11 (vs := [.slice bed0_v1a bed0.length bed0_v1c]) rfl (fun w hS => (tarnref2_NumberError_s bed0 bed0_v1a bed0_v1c _ bed0_h1 _ _ hr5 w (hS)).mono fun e w' h => ⟨h.1, h.2⟩) ?_
  refine l_s (.int .i64 wide0) (by kernel_rfl) ?_
  refine l_callq (v := .bool r6) rfl rfl Try.call12 (vs := [.int .i64 wide0, .int .i64 0, .int .i64 20]) rfl (fun w hS => (tarnlaw2_within_s wide0 0 20 _  _ _ hr6 w (hS)).mono fun e w' h => ⟨h.1, h.2⟩) ?_
  refine l_s (.bool (!r6)) (by kernel_rfl) ?_
  refine l_s (.bool (!r6)) (by kernel_rfl) ?_
  obtain ⟨c1, hc1, hp⟩ := bnd_some hp
  refine l_seg 4 [(1, .slice way0_v1a way0.length way0_v1c), (2, .slice bed0_v1a bed0.length bed0_v1c), (3, .int .i64 wide0), (4, .int .i64 soft0), (5, .pointer (some ⟨b2, 0, none⟩)), (11, .pointer (some ⟨b4, 0, none⟩)), (12, .int .i64 r1.2), (32, .int .i64 r2), (34, .int .i64 r3), (40, .int .i64 r4), (42, .int .i64 r5), (50, .bool c1)] ?_ ?_
  · skip
    refine ql_case 46 (!r6) rfl (fun hg1 => ?_) (fun hg1 => ?_)
    · skip
      replace hc1 := if_t hg1 hc1
      refine ql_s undef (by kernel_rfl) ?_
      refine ql_s undef (by kernel_rfl) ?_
      refine ql_s undef (by kernel_rfl) ?_
      refine ql_s (.bool true) (by kernel_rfl) ?_
      refine ql_nil ?_
      obtain rfl := Option.some.inj hc1
      exact ⟨rfl, rfl, rfl, rfl, rfl, rfl, rfl, rfl, rfl, rfl, rfl, rfl, trivial⟩
    · skip
      replace hc1 := if_f hg1 hc1
      refine ql_s (.int .i64 soft0) (by kernel_rfl) ?_
      obtain ⟨r7, hr7, hc1⟩ := bnd_some hc1
      refine ql_call (v := .bool r7) rfl (run_call (vs := [.int .i64 soft0, .int .i64 1, .int .i64 20]) rfl Try.call12 rfl) (fun w hS => (tarnlaw2_within_s soft0 1 20 _  _ _ hr7 w (hS)).mono fun e w' h => ⟨h.1, h.2⟩) ?_
      refine ql_s (.bool (!r7)) (by kernel_rfl) ?_
      refine ql_s (.bool (!r7)) (by kernel_rfl) ?_
      refine ql_nil ?_
      obtain rfl := Option.some.inj hc1
      exact ⟨rfl, rfl, rfl, rfl, rfl, rfl, rfl, rfl, rfl, rfl, rfl, rfl, trivial⟩
  intro _
  obtain ⟨r8, hr8, hp⟩ := bnd_some hp
  obtain ⟨r9, hr9, hp⟩ := bnd_some hp
  refine l_callq (v := .int .i64 r8) rfl rfl Try.call10 (vs := [.bool c1, .int .i64 3]) rfl (fun w hS => (tarnlaw2_when_s c1 3 _  _ _ hr8 w (hS)).mono fun e w' h => ⟨h.1, h.2⟩) ?_
  refine l_bslS (cs := [.int .i64 r2, .int .i64 r3, .int .i64 r4, .int .i64 r5, .int .i64 r8]) (E := 28) (e := encI .i64) ([r2, r3, r4, r5, r8] : List Int) rfl (by kernel_rfl) rfl rfl (Nat.le_of_ble_eq_true rfl) ⟨rfl, rfl, rfl, rfl, rfl, trivial⟩ (fun b6 cp4 => ?_)
  refine l_callq (v := .int .i64 r9) rfl rfl Try.call7 (vs := [.slice (some ⟨b6, 0, none⟩) ([r2, r3, r4, r5, r8] : List Int).length cp4]) rfl (fun w hS => (calls_thaw (PH.le_refl _) (hS) (fun D0' hLl0 hLr0 hS => (tarnlaw2_first_s ([r2, r3, r4, r5, r8] : List Int) (some ⟨b6, 0, none⟩) cp4 _ hLr0 _ _ hr9 w (hS)).mono fun e w' h => ⟨h.1, h.2⟩)).mono fun e w' h => ⟨h.1, h.2⟩) ?_
  refine l_s (.int .i64 r9) (by kernel_rfl) ?_
  refine l_nil ?_
  refine e_drop ?_
  refine e_then ?_
  refine c_seq ?_
  refine c_seq ?_
  obtain ⟨c2, hc2, hp⟩ := bnd_some hp
  refine c_cutq_end [(1, .slice way0_v1a way0.length way0_v1c), (2, .slice bed0_v1a bed0.length bed0_v1c), (3, .int .i64 wide0), (4, .int .i64 soft0), (5, .pointer (some ⟨b2, 0, none⟩)), (11, .pointer (some ⟨b4, 0, none⟩)), (12, .int .i64 r1.2), (13, .int .i64 r9), (59, .bool c2)] ?_ ?_
  · skip
    refine c_quiet ?_
    obtain ⟨r10, hr10, hc2⟩ := bnd_some hc2
    refine ql_call (v := .bool r10) rfl (run_call (vs := []) rfl Try.call13 rfl) (fun w hS => (tarnlaw2_leads_s  _  _ _ hr10 w (hS)).mono fun e w' h => ⟨h.1, h.2⟩) ?_
    refine ql_s (.bool (!r10)) (by kernel_rfl) ?_
    refine ql_s (.bool (!r10)) (by kernel_rfl) ?_
    refine ql_case 56 (!r10) rfl (fun hg2 => ?_) (fun hg2 => ?_)
    · skip
      replace hc2 := if_t hg2 hc2
      refine ql_s undef (by kernel_rfl) ?_
      refine ql_s undef (by kernel_rfl) ?_
      refine ql_s (.bool true) (by kernel_rfl) ?_
      refine ql_nil (e_cutq ?_)
      obtain rfl := Option.some.inj hc2
      exact ⟨rfl, rfl, rfl, rfl, rfl, rfl, rfl, rfl, rfl, trivial⟩
    · skip
      replace hc2 := if_f hg2 hc2
      refine ql_s (.int .i64 r9) (by kernel_rfl) ?_
      refine ql_s (.bool (r9 != 0)) (by kernel_rfl) ?_
      refine ql_s (.bool (r9 != 0)) (by kernel_rfl) ?_
      refine ql_nil (e_cutq ?_)
      obtain rfl := Option.some.inj hc2
      exact ⟨rfl, rfl, rfl, rfl, rfl, rfl, rfl, rfl, rfl, trivial⟩
  intro _
  refine e_then ?_
  refine c_cond (c2) rfl (fun ht1 => ?_) (fun ht1 => ?_)
  · skip
    replace hp := if_t ht1 hp
    refine c_seq ?_
    obtain ⟨c3, hc3, hp⟩ := bnd_some hp
    refine c_cutq_end [(10, .bool c3)] ?_ ?_
    · skip
      refine c_quiet ?_
      obtain ⟨r11, hr11, hc3⟩ := bnd_some hc3
      refine ql_call (v := .bool r11) rfl (run_call (vs := []) rfl Try.call13 rfl) (fun w hS => (tarnlaw2_leads_s  _  _ _ hr11 w (hS)).mono fun e w' h => ⟨h.1, h.2⟩) ?_
      refine ql_s (.bool r11) (by kernel_rfl) ?_
      refine ql_case 61 (r11) rfl (fun hg3 => ?_) (fun hg3 => ?_)
      · skip
        replace hc3 := if_t hg3 hc3
        refine ql_q rfl (qs_ldpt (encW 5 (by decide)) fitv26 rfl 0 rfl (.agg #[.int .i64 r1.1.Region.X, .int .i64 r1.1.Region.Y, .int .i64 r1.1.Region.W, .int .i64 r1.1.Region.H, .slice a2 r1.1.V.length cp2]) (Nat.le_of_ble_eq_true rfl) rfl) ?_
        obtain ⟨r12, hr12, hc3⟩ := bnd_some hc3
        refine ql_call (v := .bool r12) rfl (run_call (vs := [.agg #[.int .i64 r1.1.Region.X, .int .i64 r1.1.Region.Y, .int .i64 r1.1.Region.W, .int .i64 r1.1.Region.H, .slice a2 r1.1.V.length cp2]]) rfl Try.call14 rfl) (fun w hS => (tarnlaw2_empty_s r1.1 a2 cp2 _ h2 _ _ hr12 w (hS)).mono fun e w' h => ⟨h.1, h.2⟩) ?_
        refine ql_s (.bool r12) (by kernel_rfl) ?_
        refine ql_s (.bool r12) (by kernel_rfl) ?_
        refine ql_case 65 (r12) rfl (fun hg4 => ?_) (fun hg4 => ?_)
        · skip
          replace hc3 := if_t hg4 hc3
          refine ql_s (.int .i64 r1.2) (by kernel_rfl) ?_
          refine ql_s (.int .i64 r9) (by kernel_rfl) ?_
          refine ql_s (.bool (r1.2 == r9)) (by kernel_rfl) ?_
          refine ql_s (.bool (r1.2 == r9)) (by kernel_rfl) ?_
          refine ql_s (.bool (r1.2 == r9)) (by kernel_rfl) ?_
          refine ql_nil (e_cutq ?_)
          obtain rfl := Option.some.inj hc3
          exact ⟨rfl, trivial⟩
        · skip
          replace hc3 := if_f hg4 hc3
          refine ql_s undef (by kernel_rfl) ?_
          refine ql_s undef (by kernel_rfl) ?_
          refine ql_s undef (by kernel_rfl) ?_
          refine ql_s (.bool false) (by kernel_rfl) ?_
          refine ql_s (.bool false) (by kernel_rfl) ?_
          refine ql_nil (e_cutq ?_)
          obtain rfl := Option.some.inj hc3
          exact ⟨rfl, trivial⟩
      · skip
        replace hc3 := if_f hg3 hc3
        refine ql_s undef (by kernel_rfl) ?_
        refine ql_s undef (by kernel_rfl) ?_
        refine ql_s (.bool false) (by kernel_rfl) ?_
        refine ql_s (.bool false) (by kernel_rfl) ?_
        refine ql_s undef (by kernel_rfl) ?_
        refine ql_s undef (by kernel_rfl) ?_
        refine ql_s undef (by kernel_rfl) ?_
        refine ql_s (.bool false) (by kernel_rfl) ?_
        refine ql_s (.bool false) (by kernel_rfl) ?_
        refine ql_nil (e_cutq ?_)
        obtain rfl := Option.some.inj hc3
        exact ⟨rfl, trivial⟩
    intro _
    refine e_then ?_
    refine c_ret ?_
    refine e_then_ret ?_
    obtain rfl := Option.some.inj hp
    refine e_perm (fr1_perm 1 _) ?_
    refine e_perm (fr1_perm 1 _) ?_
    exact post_all (vs := [.bool c3]) (.bool c3) ⟨rfl, trivial⟩ rfl (.inl rfl) (fun w hS => ⟨rfl, (hS.tail.tail.lower hle2)⟩)
  · skip
    replace hp := if_f ht1 hp
    refine c_skip ?_
    refine e_then ?_
    refine c_seq ?_
    refine c_region ?_
    refine l_s (.slice none 0 0) (by kernel_rfl) ?_
    refine l_nilS D2 (encF .f32) 40 ?_
    refine l_nil ?_
    refine e_then ?_
    refine c_seq ?_
    refine c_seq ?_
    refine c_quiet ?_
    refine ql_s (.pointer (some ⟨b2, 4, none⟩)) (by kernel_rfl) ?_
    refine ql_q rfl (qs_ldpt encV fitv24 rfl 2 rfl (.slice f0_v1a f0.V.length f0_v1c) (Nat.le_of_ble_eq_true rfl) rfl) ?_
    refine ql_s (.int .i64 (f0.V.length : Int)) (by kernel_rfl) ?_
    refine ql_s (.int .i64 0) (by kernel_rfl) ?_
    refine ql_nil ?_
    refine e_then ?_
    have hb0 : (f0.V.length : Int) ≤ 4611686018427387904 := by have := RO.bound f0_h1; omega
    have hm0 : f0.V.length = (f0.V.length : Int).toNat := by omega
    have hm1 := hm0; have hb1 := hb0; clear hm0 hb0
    obtain ⟨x1, hs1, hp⟩ := bnd_some hp
    obtain ⟨body1, hbody1, hs1⟩ := forS_gen hs1
    refine c_cut_end (fun φ1 D3 As1 => ∃ (a3 : Option Addr) (cp5 : Nat), Is φ1 [(5, .pointer (some ⟨b2, 0, none⟩)), (11, .pointer (some ⟨b4, 0, none⟩)), (12, .int .i64 r1.2), (14, .slice a3 x1.length cp5)] ∧ PH.le D2 D3 ∧ As1 = OwnS D3 (encF .f32) 40 (.slice a3 x1.length cp5) x1 :: pt b4 [.int .i64 r1.1.Region.X, .int .i64 r1.1.Region.Y, .int .i64 r1.1.Region.W, .int .i64 r1.1.Region.H, .slice a2 r1.1.V.length cp2] 26 :: pt b2 [.int .i64 f0.Region.X, .int .i64 f0.Region.Y, .int .i64 f0.Region.W, .int .i64 f0.Region.H, .slice f0_v1a f0.V.length f0_v1c] 26 :: F) ?_ ?_
    · skip
      refine c_block ?_
      refine c_perm (fr1_perm 2 _) ?_
      refine c_perm (fr1_perm 2 _) ?_
      refine c_perm (fr1_perm 2 _) ?_
      refine c_loop (fun k φ1 D4 As1 => ∃ (j1 i1 : Nat) (s1 : (List Nat)) (a4 : Option Addr) (cp6 : Nat), k = j1 + 1 ∧ i1 + j1 = f0.V.length ∧ Is φ1 [(1, .slice way0_v1a way0.length way0_v1c), (2, .slice bed0_v1a bed0.length bed0_v1c), (3, .int .i64 wide0), (4, .int .i64 soft0), (5, .pointer (some ⟨b2, 0, none⟩)), (11, .pointer (some ⟨b4, 0, none⟩)), (12, .int .i64 r1.2), (14, .slice a4 s1.length cp6), (72, .int .i64 (f0.V.length : Int)), (73, .int .i64 (i1 : Int))] ∧ PH.le D2 D4 ∧ As1 = OwnS D4 (encF .f32) 40 (.slice a4 s1.length cp6) s1 :: pt b4 [.int .i64 r1.1.Region.X, .int .i64 r1.1.Region.Y, .int .i64 r1.1.Region.W, .int .i64 r1.1.Region.H, .slice a2 r1.1.V.length cp2] 26 :: pt b2 [.int .i64 f0.Region.X, .int .i64 f0.Region.Y, .int .i64 f0.Region.W, .int .i64 f0.Region.H, .slice f0_v1a f0.V.length f0_v1c] 26 :: F ∧ forS body1 j1 i1 s1 = some x1) ⟨f0.V.length + 1, f0.V.length, 0, ([] : List Nat), none, 0, rfl, Nat.zero_add _, ⟨rfl, rfl, rfl, rfl, rfl, rfl, rfl, rfl, rfl, rfl, trivial⟩, (PH.le_refl _), rfl, hs1⟩ ?_ ?_
      · rintro _ _ _ ⟨_, _, _, _, _, h0, _⟩; omega
      intro k1
      rintro φ1 D4 As3 ⟨j1, i1, s1, a4, cp6, hk1, hij1, hI1, hD1, hA3, hs2⟩
      subst As3
      replace way0_h1 := way0_h1.mono hD1
      replace bed0_h1 := bed0_h1.mono hD1
      replace f0_h1 := f0_h1.mono hD1
      replace h2 := h2.mono hD1
      refine c_frame _ hI1 ?_
      obtain rfl : k1 = j1 := by omega
      clear hk1
      rcases k1 with _ | j1
      · skip
        refine c_seq ?_
        refine c_quiet ?_
        refine ql_s (.bool (decide ((i1 : Int) < (f0.V.length : Int)))) (by kernel_rfl) ?_
        refine ql_nil ?_
        refine e_then ?_
        refine c_seq ?_
        refine c_cond (decide ((i1 : Int) < (f0.V.length : Int))) rfl (fun ht2 => absurd ((dec_lt_f hm1 (by omega)).symm.trans ht2) (by simp)) (fun _ => ?_)
        refine c_exit ?_
        refine e_then_exit ?_
        refine e_then_exit ?_
        obtain rfl := Option.some.inj hs2
        refine e_blk_exit ?_
        refine e_perm (fr1_perm 2 _) ?_
        refine e_perm (fr1_perm 2 _) ?_
        refine e_perm (fr1_perm 2 _) ?_
        exact e_cut ⟨a4, cp6, ⟨rfl, rfl, rfl, rfl, trivial⟩, hD1, rfl⟩
      · skip
        obtain ⟨y1, hx1, hs2⟩ := forS_some hs2
        replace hx1 := (congrFun (congrFun hbody1 i1) s1).trans hx1
        refine c_seq ?_
        refine c_quiet ?_
        refine ql_s (.bool (decide ((i1 : Int) < (f0.V.length : Int)))) (by kernel_rfl) ?_
        refine ql_nil ?_
        refine e_then ?_
        refine c_seq ?_
        refine c_cond (decide ((i1 : Int) < (f0.V.length : Int))) rfl (fun _ => ?_) (fun ht3 => absurd ((dec_lt_t hm1 (by omega)).symm.trans ht3) (by simp))
        refine c_skip ?_
        refine e_then ?_
        refine c_seq ?_
        refine c_block ?_
        refine c_seq ?_
        refine c_quiet ?_
        refine ql_s (.int .i64 (i1 : Int)) (by kernel_rfl) ?_
        refine ql_s (.int .i64 (i1 : Int)) (by kernel_rfl) ?_
        refine ql_nil ?_
        refine e_then ?_
        obtain ⟨r13, hr13, hx1⟩ := bnd_some hx1
        obtain ⟨l1, hl1, hx1⟩ := bnd_some hx1
        refine c_region ?_
        refine l_s (.slice a4 s1.length cp6) (by kernel_rfl) ?_
        refine l_q rfl (qs_ldpt (encW 5 (by decide)) fitv26 rfl 2 rfl (.agg #[.int .i64 f0.Region.X, .int .i64 f0.Region.Y, .int .i64 f0.Region.W, .int .i64 f0.Region.H, .slice f0_v1a f0.V.length f0_v1c]) (Nat.le_of_ble_eq_true rfl) rfl) ?_
        refine l_s (.slice way0_v1a way0.length way0_v1c) (by kernel_rfl) ?_
        refine l_s (.slice bed0_v1a bed0.length bed0_v1c) (by kernel_rfl) ?_
        refine l_s (.int .i64 wide0) (by kernel_rfl) ?_
        refine l_s (.int .i64 soft0) (by kernel_rfl) ?_
        refine l_s (.int .i64 (i1 : Int)) (by kernel_rfl) ?_
        refine l_callq (v := .float .f32 r13) rfl rfl Try.call15 (vs := [.agg #[.int .i64 f0.Region.X, .int .i64 f0.Region.Y, .int .i64 f0.Region.W, .int .i64 f0.Region.H, .slice f0_v1a f0.V.length f0_v1c], .slice way0_v1a way0.length way0_v1c, .slice bed0_v1a bed0.length bed0_v1c, .int .i64 wide0, .int .i64 soft0, .int .i64 (i1 : Int)]) rfl (fun w hS => (tarnref2_BuiltOf_s f0 f0_v1a f0_v1c way0 way0_v1a way0_v1c bed0 bed0_v1a bed0_v1c wide0 soft0 (i1 : Int) _ f0_h1 way0_h1 bed0_h1 _ _ hr13 w (hS)).mono fun e w' h => ⟨h.1, h.2⟩) ?_
        refine l_bslS (cs := [.float .f32 r13]) (E := 40) (e := encF .f32) ([r13] : List Nat) rfl (by kernel_rfl) rfl rfl (Nat.le_of_ble_eq_true rfl) ⟨rfl, trivial⟩ (fun b8 cp9 => ?_)
        refine l_perm (fr1_perm 1 _) ?_
        refine l_app hl1 rfl elem24 Try.underlying24 rfl rfl rfl (OwnS.src 1 rfl ⟨_, _, rfl⟩) (fun a6 cp10 => ?_)
        refine l_s (.slice a6 l1.length cp10) (by kernel_rfl) ?_
        refine l_nil ?_
        refine e_perm (fr1_perm 1 _) ?_
        refine e_drop ?_
        refine e_blk ?_
        refine e_then ?_
        refine c_quiet ?_
        refine ql_s (.int .i64 (addI (i1 : Int) 1)) (by kernel_rfl) ?_
        refine ql_s (.int .i64 (addI (i1 : Int) 1)) (by kernel_rfl) ?_
        refine ql_nil ?_
        refine e_perm (fr1_perm 2 _) ?_
        refine e_perm (fr1_perm 2 _) ?_
        refine e_perm (fr1_perm 2 _) ?_
        obtain rfl := Option.some.inj hx1
        exact e_cut ⟨j1, i1 + 1, l1, a6, cp10, by omega, by omega, ⟨rfl, rfl, rfl, rfl, rfl, rfl, rfl, rfl, rfl, (congrArg (Value.int .i64) (addI_succ (by omega))), trivial⟩, hD1, rfl, hs2⟩
    · skip
      rintro φ2 D3 As4 ⟨a3, cp5, hI2, hD2, hA4⟩
      subst As4
      replace f0_h1 := f0_h1.mono hD2
      replace h2 := h2.mono hD2
      refine e_frame _ hI2 ?_
      refine e_then ?_
      refine c_seq ?_
      refine c_seq ?_
      obtain ⟨r14, hr14, hp⟩ := bnd_some hp
      refine c_quiet ?_
      refine ql_q rfl (qs_ldpt (encW 5 (by decide)) fitv26 rfl 1 rfl (.agg #[.int .i64 r1.1.Region.X, .int .i64 r1.1.Region.Y, .int .i64 r1.1.Region.W, .int .i64 r1.1.Region.H, .slice a2 r1.1.V.length cp2]) (Nat.le_of_ble_eq_true rfl) rfl) ?_
      refine ql_s (.int .i64 r1.2) (by kernel_rfl) ?_
      refine ql_s (.pointer (some ⟨b2, 0, none⟩)) (by kernel_rfl) ?_
      refine ql_q rfl (qs_ldpt (encW 4 (by decide)) fitv23 rfl 2 rfl (.agg #[.int .i64 f0.Region.X, .int .i64 f0.Region.Y, .int .i64 f0.Region.W, .int .i64 f0.Region.H]) (Nat.le_of_ble_eq_true rfl) rfl) ?_
      refine ql_s (.slice a3 x1.length cp5) (by kernel_rfl) ?_
      refine ql_call (v := .bool r14) rfl (run_call (vs := [.agg #[.int .i64 r1.1.Region.X, .int .i64 r1.1.Region.Y, .int .i64 r1.1.Region.W, .int .i64 r1.1.Region.H, .slice a2 r1.1.V.length cp2], .int .i64 r1.2, .agg #[.int .i64 f0.Region.X, .int .i64 f0.Region.Y, .int .i64 f0.Region.W, .int .i64 f0.Region.H], .slice a3 x1.length cp5]) rfl Try.call16 rfl) (fun w hS => (calls_thaw (PH.le_refl _) (hS) (fun D0' hLl0 hLr0 hS => (tarnlaw2_result_s r1.1 a2 cp2 r1.2 f0.Region x1 a3 cp5 _ (h2.mono hLl0) hLr0 _ _ hr14 w (hS)).mono fun e w' h => ⟨h.1, h.2⟩)).mono fun e w' h => ⟨h.1, h.2⟩) ?_
      refine ql_s (.bool (!r14)) (by kernel_rfl) ?_
      refine ql_nil ?_
      refine e_drop ?_
      refine e_then ?_
      refine c_cond (!r14) rfl (fun ht4 => ?_) (fun ht4 => ?_)
      · skip
        replace hp := if_t ht4 hp
        refine c_seq ?_
        refine c_quiet ?_
        refine ql_s (.bool false) (by kernel_rfl) ?_
        refine ql_nil ?_
        refine e_drop ?_
        refine e_drop ?_
        refine e_then ?_
        refine c_ret ?_
        refine e_then_ret ?_
        obtain rfl := Option.some.inj hp
        exact post_all (vs := [.bool false]) (.bool false) ⟨rfl, trivial⟩ rfl (.inl rfl) (fun w hS => ⟨rfl, (hS.lower (PH.le_trans hle2 hD2))⟩)
      · skip
        replace hp := if_f ht4 hp
        refine c_skip ?_
        refine e_then ?_
        refine c_seq ?_
        refine c_seq ?_
        refine c_quiet ?_
        refine ql_s (.int .i64 r1.2) (by kernel_rfl) ?_
        refine ql_s (.bool (r1.2 != 0)) (by kernel_rfl) ?_
        refine ql_nil ?_
        refine e_then ?_
        refine c_cond ((r1.2 != 0)) rfl (fun ht5 => ?_) (fun ht5 => ?_)
        · skip
          replace hp := if_t ht5 hp
          refine c_seq ?_
          refine c_quiet ?_
          refine ql_s (.bool true) (by kernel_rfl) ?_
          refine ql_nil ?_
          refine e_drop ?_
          refine e_drop ?_
          refine e_then ?_
          refine c_ret ?_
          refine e_then_ret ?_
          obtain rfl := Option.some.inj hp
          exact post_all (vs := [.bool true]) (.bool true) ⟨rfl, trivial⟩ rfl (.inl rfl) (fun w hS => ⟨rfl, (hS.lower (PH.le_trans hle2 hD2))⟩)
        · skip
          replace hp := if_f ht5 hp
          refine c_skip ?_
          refine e_then ?_
          refine c_seq ?_
          obtain ⟨r15, hr15, hp⟩ := bnd_some hp
          refine c_quiet ?_
          refine ql_q rfl (qs_ldpt (encW 5 (by decide)) fitv26 rfl 1 rfl (.agg #[.int .i64 f0.Region.X, .int .i64 f0.Region.Y, .int .i64 f0.Region.W, .int .i64 f0.Region.H, .slice f0_v1a f0.V.length f0_v1c]) (Nat.le_of_ble_eq_true rfl) rfl) ?_
          refine ql_q rfl (qs_ldpt (encW 5 (by decide)) fitv26 rfl 0 rfl (.agg #[.int .i64 r1.1.Region.X, .int .i64 r1.1.Region.Y, .int .i64 r1.1.Region.W, .int .i64 r1.1.Region.H, .slice a2 r1.1.V.length cp2]) (Nat.le_of_ble_eq_true rfl) rfl) ?_
          refine ql_call (v := .tuple #[.float .f32 r15.1, .float .f32 r15.2.1, .int .i64 r15.2.2]) rfl (run_call (vs := [.agg #[.int .i64 f0.Region.X, .int .i64 f0.Region.Y, .int .i64 f0.Region.W, .int .i64 f0.Region.H, .slice f0_v1a f0.V.length f0_v1c], .agg #[.int .i64 r1.1.Region.X, .int .i64 r1.1.Region.Y, .int .i64 r1.1.Region.W, .int .i64 r1.1.Region.H, .slice a2 r1.1.V.length cp2]]) rfl Try.call17 rfl) (fun w hS => (road_Earth_s f0 f0_v1a f0_v1c r1.1 a2 cp2 _ f0_h1 h2 _ _ hr15 w (hS)).mono fun e w' h => ⟨h.1, h.2⟩) ?_
          refine ql_s (.tuple #[.float .f32 r15.1, .float .f32 r15.2.1, .int .i64 r15.2.2]) (by kernel_rfl) ?_
          refine ql_s (.float .f32 r15.1) (by kernel_rfl) ?_
          refine ql_s (.float .f32 r15.2.1) (by kernel_rfl) ?_
          refine ql_s (.int .i64 r15.2.2) (by kernel_rfl) ?_
          refine ql_s (.float .f32 r15.1) (by kernel_rfl) ?_
          refine ql_s (.float .f32 r15.2.1) (by kernel_rfl) ?_
          refine ql_s (.int .i64 r15.2.2) (by kernel_rfl) ?_
          refine ql_nil ?_
          refine e_then ?_
          refine c_seq ?_
          refine c_quiet ?_
          refine ql_s (.float .f32 0) (by kernel_rfl) ?_
          refine ql_s (.float .f32 0) (by kernel_rfl) ?_
          refine ql_nil ?_
          refine e_then ?_
          refine c_seq ?_
          refine c_seq ?_
          refine c_quiet ?_
          refine ql_s (.pointer (some ⟨b2, 4, none⟩)) (by kernel_rfl) ?_
          refine ql_q rfl (qs_ldpt encV fitv24 rfl 1 rfl (.slice f0_v1a f0.V.length f0_v1c) (Nat.le_of_ble_eq_true rfl) rfl) ?_
          refine ql_s (.int .i64 (f0.V.length : Int)) (by kernel_rfl) ?_
          refine ql_s (.int .i64 0) (by kernel_rfl) ?_
          refine ql_nil ?_
          refine e_then ?_
          have hb0 : (f0.V.length : Int) ≤ 4611686018427387904 := by have := RO.bound f0_h1; omega
          have hm0 : f0.V.length = (f0.V.length : Int).toNat := by omega
          have hm2 := hm0; have hb2 := hb0; clear hm0 hb0
          obtain ⟨x2, hs3, hp⟩ := bnd_some hp
          obtain ⟨body2, hbody2, hs3⟩ := forS_gen hs3
          refine c_cut_end (fun φ1 D5 As1 => Is φ1 [(16, .float .f32 r15.1), (17, .float .f32 r15.2.1), (18, .int .i64 r15.2.2), (19, .float .f32 x2.1), (20, .float .f32 x2.2)] ∧ PH.le D3 D5 ∧ As1 = pt b4 [.int .i64 r1.1.Region.X, .int .i64 r1.1.Region.Y, .int .i64 r1.1.Region.W, .int .i64 r1.1.Region.H, .slice a2 r1.1.V.length cp2] 26 :: pt b2 [.int .i64 f0.Region.X, .int .i64 f0.Region.Y, .int .i64 f0.Region.W, .int .i64 f0.Region.H, .slice f0_v1a f0.V.length f0_v1c] 26 :: F) ?_ ?_
          · skip
            refine c_block ?_
            refine c_perm (fr1_perm 1 _) ?_
            refine c_perm (fr1_perm 1 _) ?_
            refine c_loop (fun k φ1 D6 As1 => ∃ (j2 i2 : Nat) (s2 : Nat × Nat), k = j2 + 1 ∧ i2 + j2 = f0.V.length ∧ Is φ1 [(5, .pointer (some ⟨b2, 0, none⟩)), (11, .pointer (some ⟨b4, 0, none⟩)), (16, .float .f32 r15.1), (17, .float .f32 r15.2.1), (18, .int .i64 r15.2.2), (19, .float .f32 s2.1), (20, .float .f32 s2.2), (105, .int .i64 (f0.V.length : Int)), (106, .int .i64 (i2 : Int))] ∧ PH.le D3 D6 ∧ As1 = pt b4 [.int .i64 r1.1.Region.X, .int .i64 r1.1.Region.Y, .int .i64 r1.1.Region.W, .int .i64 r1.1.Region.H, .slice a2 r1.1.V.length cp2] 26 :: pt b2 [.int .i64 f0.Region.X, .int .i64 f0.Region.Y, .int .i64 f0.Region.W, .int .i64 f0.Region.H, .slice f0_v1a f0.V.length f0_v1c] 26 :: F ∧ forS body2 j2 i2 s2 = some x2) ⟨f0.V.length + 1, f0.V.length, 0, (0, 0), rfl, Nat.zero_add _, ⟨rfl, rfl, rfl, rfl, rfl, rfl, rfl, rfl, rfl, trivial⟩, (PH.le_refl _), rfl, hs3⟩ ?_ ?_
            · rintro _ _ _ ⟨_, _, _, h0, _⟩; omega
            intro k2
            rintro φ3 D6 As5 ⟨j2, i2, s2, hk2, hij2, hI3, hD3, hA5, hs4⟩
            subst As5
            replace f0_h1 := f0_h1.mono hD3
            replace h2 := h2.mono hD3
            refine c_frame _ hI3 ?_
            obtain rfl : k2 = j2 := by omega
            clear hk2
            rcases k2 with _ | j2
            · skip
              refine c_seq ?_
              refine c_quiet ?_
              refine ql_s (.bool (decide ((i2 : Int) < (f0.V.length : Int)))) (by kernel_rfl) ?_
              refine ql_nil ?_
              refine e_then ?_
              refine c_seq ?_
              refine c_cond (decide ((i2 : Int) < (f0.V.length : Int))) rfl (fun ht6 => absurd ((dec_lt_f hm2 (by omega)).symm.trans ht6) (by simp)) (fun _ => ?_)
              refine c_exit ?_
              refine e_then_exit ?_
              refine e_then_exit ?_
              obtain rfl := Option.some.inj hs4
              refine e_blk_exit ?_
              refine e_perm (fr1_perm 1 _) ?_
              refine e_perm (fr1_perm 1 _) ?_
              exact e_cut ⟨⟨rfl, rfl, rfl, rfl, rfl, trivial⟩, hD3, rfl⟩
            · skip
              obtain ⟨y2, hx2, hs4⟩ := forS_some hs4
              replace hx2 := (congrFun (congrFun hbody2 i2) s2).trans hx2
              refine c_seq ?_
              refine c_quiet ?_
              refine ql_s (.bool (decide ((i2 : Int) < (f0.V.length : Int)))) (by kernel_rfl) ?_
              refine ql_nil ?_
              refine e_then ?_
              refine c_seq ?_
              refine c_cond (decide ((i2 : Int) < (f0.V.length : Int))) rfl (fun _ => ?_) (fun ht7 => absurd ((dec_lt_t hm2 (by omega)).symm.trans ht7) (by simp))
              refine c_skip ?_
              refine e_then ?_
              refine c_seq ?_
              obtain ⟨s3, hs5, hx2⟩ := bnd_some hx2
              refine c_cut_end (fun φ1 D7 As1 => Is φ1 [(5, .pointer (some ⟨b2, 0, none⟩)), (11, .pointer (some ⟨b4, 0, none⟩)), (16, .float .f32 r15.1), (17, .float .f32 r15.2.1), (18, .int .i64 r15.2.2), (19, .float .f32 s3.1), (20, .float .f32 s3.2), (105, .int .i64 (f0.V.length : Int)), (106, .int .i64 (i2 : Int))] ∧ PH.le D6 D7 ∧ As1 = pt b4 [.int .i64 r1.1.Region.X, .int .i64 r1.1.Region.Y, .int .i64 r1.1.Region.W, .int .i64 r1.1.Region.H, .slice a2 r1.1.V.length cp2] 26 :: pt b2 [.int .i64 f0.Region.X, .int .i64 f0.Region.Y, .int .i64 f0.Region.W, .int .i64 f0.Region.H, .slice f0_v1a f0.V.length f0_v1c] 26 :: F) ?_ ?_
              · skip
                refine c_block ?_
                refine c_seq ?_
                refine c_quiet ?_
                refine ql_s (.int .i64 (i2 : Int)) (by kernel_rfl) ?_
                refine ql_s (.int .i64 (i2 : Int)) (by kernel_rfl) ?_
                refine ql_nil ?_
                refine e_then ?_
                refine c_seq ?_
                refine c_seq ?_
                obtain ⟨x3, hx3, hs5⟩ := bnd_some hs5
                obtain ⟨b9, o1, h3, hq1⟩ := RO.at h2 hx3
                obtain ⟨x4, hx4, hs5⟩ := bnd_some hs5
                obtain ⟨b10, o2, h4, hq2⟩ := RO.at f0_h1 hx4
                refine c_quiet_draw hmix (by kernel_rfl) ?_
                refine ql_s (.pointer (some ⟨b4, 4, none⟩)) (by kernel_rfl) ?_
                refine ql_q rfl (qs_ldpt encV fitv24 rfl 0 rfl (.slice a2 r1.1.V.length cp2) (Nat.le_of_ble_eq_true rfl) rfl) ?_
                refine ql_s (.int .i64 (i2 : Int)) (by kernel_rfl) ?_
                refine ql_q rfl (qs_idx hq1 Try.underlying24 fit40 rfl rfl) ?_
                refine ql_q rfl (qs_ldAtV fit40 rfl h3 valF) ?_
                refine ql_s (.pointer (some ⟨b2, 4, none⟩)) (by kernel_rfl) ?_
                refine ql_q rfl (qs_ldpt encV fitv24 rfl 1 rfl (.slice f0_v1a f0.V.length f0_v1c) (Nat.le_of_ble_eq_true rfl) rfl) ?_
                refine ql_s (.int .i64 (i2 : Int)) (by kernel_rfl) ?_
                refine ql_q rfl (qs_idx hq2 Try.underlying24 fit40 rfl rfl) ?_
                refine ql_q rfl (qs_ldAtV fit40 rfl h4 valF) ?_
                refine ql_s (.bool (flt .f32 x3 x4)) (by kernel_rfl) ?_
                refine ql_nil ?_
                refine e_then ?_
                obtain ⟨s4, hs6, hs5⟩ := bnd_some hs5
                refine c_cut_end (fun φ1 D8 As1 => Is φ1 [(5, .pointer (some ⟨b2, 0, none⟩)), (11, .pointer (some ⟨b4, 0, none⟩)), (16, .float .f32 r15.1), (17, .float .f32 r15.2.1), (18, .int .i64 r15.2.2), (19, .float .f32 s4), (20, .float .f32 s2.2), (21, .int .i64 (i2 : Int)), (105, .int .i64 (f0.V.length : Int)), (106, .int .i64 (i2 : Int))] ∧ PH.le D6 D8 ∧ As1 = pt b4 [.int .i64 r1.1.Region.X, .int .i64 r1.1.Region.Y, .int .i64 r1.1.Region.W, .int .i64 r1.1.Region.H, .slice a2 r1.1.V.length cp2] 26 :: pt b2 [.int .i64 f0.Region.X, .int .i64 f0.Region.Y, .int .i64 f0.Region.W, .int .i64 f0.Region.H, .slice f0_v1a f0.V.length f0_v1c] 26 :: F) ?_ ?_
                · skip
                  refine c_cond (flt .f32 x3 x4) rfl (fun ht8 => ?_) (fun ht8 => ?_)
                  · skip
                    replace hs6 := if_t ht8 hs6
                    obtain ⟨x5, hx5, hs6⟩ := bnd_some hs6
                    obtain ⟨b11, o3, h5, hq3⟩ := RO.at f0_h1 hx5
                    obtain ⟨x6, hx6, hs6⟩ := bnd_some hs6
                    obtain ⟨b12, o4, h6, hq4⟩ := RO.at h2 hx6
                    obtain ⟨r16, hr16, hs6⟩ := bnd_some hs6
                    obtain ⟨r17, hr17, hs6⟩ := bnd_some hs6
                    refine c_quiet_draw hmix (by kernel_rfl) ?_
                    refine ql_s (.float .f32 s2.1) (by kernel_rfl) ?_
                    refine ql_s (.pointer (some ⟨b2, 4, none⟩)) (by kernel_rfl) ?_
                    refine ql_q rfl (qs_ldpt encV fitv24 rfl 1 rfl (.slice f0_v1a f0.V.length f0_v1c) (Nat.le_of_ble_eq_true rfl) rfl) ?_
                    refine ql_s (.int .i64 (i2 : Int)) (by kernel_rfl) ?_
                    refine ql_q rfl (qs_idx hq3 Try.underlying24 fit40 rfl rfl) ?_
                    refine ql_q rfl (qs_ldAtV fit40 rfl h5 valF) ?_
                    refine ql_s (.pointer (some ⟨b4, 4, none⟩)) (by kernel_rfl) ?_
                    refine ql_q rfl (qs_ldpt encV fitv24 rfl 0 rfl (.slice a2 r1.1.V.length cp2) (Nat.le_of_ble_eq_true rfl) rfl) ?_
                    refine ql_s (.int .i64 (i2 : Int)) (by kernel_rfl) ?_
                    refine ql_q rfl (qs_idx hq4 Try.underlying24 fit40 rfl rfl) ?_
                    refine ql_q rfl (qs_ldAtV fit40 rfl h6 valF) ?_
                    refine ql_q rfl (qs_fop hr16 rfl rfl) ?_
                    refine ql_q rfl (qs_fop hr17 rfl rfl) ?_
                    refine ql_s (.float .f32 r17) (by kernel_rfl) ?_
                    refine ql_nil ?_
                    refine e_perm (fr1_perm 1 _) ?_
                    refine e_perm (fr1_perm 1 _) ?_
                    obtain rfl := Option.some.inj hs6
                    exact e_cut ⟨⟨rfl, rfl, rfl, rfl, rfl, rfl, rfl, rfl, rfl, rfl, trivial⟩, (PH.le_refl _), rfl⟩
                  · skip
                    replace hs6 := if_f ht8 hs6
                    refine c_skip ?_
                    refine e_perm (fr1_perm 1 _) ?_
                    refine e_perm (fr1_perm 1 _) ?_
                    obtain rfl := Option.some.inj hs6
                    exact e_cut ⟨⟨rfl, rfl, rfl, rfl, rfl, rfl, rfl, rfl, rfl, rfl, trivial⟩, (PH.le_refl _), rfl⟩
                · skip
                  rintro φ4 D8 As6 ⟨hI4, hD4, hA6⟩
                  subst As6
                  replace f0_h1 := f0_h1.mono hD4
                  replace h2 := h2.mono hD4
                  refine e_frame _ hI4 ?_
                  refine e_then ?_
                  refine c_seq ?_
                  obtain ⟨x7, hx7, hs5⟩ := bnd_some hs5
                  obtain ⟨b13, o5, h7, hq5⟩ := RO.at h2 hx7
                  obtain ⟨x8, hx8, hs5⟩ := bnd_some hs5
                  obtain ⟨b14, o6, h8, hq6⟩ := RO.at f0_h1 hx8
                  refine c_quiet_draw hmix (by kernel_rfl) ?_
                  refine ql_s (.pointer (some ⟨b4, 4, none⟩)) (by kernel_rfl) ?_
                  refine ql_q rfl (qs_ldpt encV fitv24 rfl 0 rfl (.slice a2 r1.1.V.length cp2) (Nat.le_of_ble_eq_true rfl) rfl) ?_
                  refine ql_s (.int .i64 (i2 : Int)) (by kernel_rfl) ?_
                  refine ql_q rfl (qs_idx hq5 Try.underlying24 fit40 rfl rfl) ?_
                  refine ql_q rfl (qs_ldAtV fit40 rfl h7 valF) ?_
                  refine ql_s (.pointer (some ⟨b2, 4, none⟩)) (by kernel_rfl) ?_
                  refine ql_q rfl (qs_ldpt encV fitv24 rfl 1 rfl (.slice f0_v1a f0.V.length f0_v1c) (Nat.le_of_ble_eq_true rfl) rfl) ?_
                  refine ql_s (.int .i64 (i2 : Int)) (by kernel_rfl) ?_
                  refine ql_q rfl (qs_idx hq6 Try.underlying24 fit40 rfl rfl) ?_
                  refine ql_q rfl (qs_ldAtV fit40 rfl h8 valF) ?_
                  refine ql_s (.bool (fgt .f32 x7 x8)) (by kernel_rfl) ?_
                  refine ql_nil ?_
                  refine e_then ?_
                  refine c_cond (fgt .f32 x7 x8) rfl (fun ht9 => ?_) (fun ht9 => ?_)
                  · skip
                    replace hs5 := if_t ht9 hs5
                    obtain ⟨x9, hx9, hs5⟩ := bnd_some hs5
                    obtain ⟨b15, o7, h9, hq7⟩ := RO.at h2 hx9
                    obtain ⟨x10, hx10, hs5⟩ := bnd_some hs5
                    obtain ⟨b16, o8, h10, hq8⟩ := RO.at f0_h1 hx10
                    obtain ⟨r18, hr18, hs5⟩ := bnd_some hs5
                    obtain ⟨r19, hr19, hs5⟩ := bnd_some hs5
                    refine c_quiet_draw hmix (by kernel_rfl) ?_
                    refine ql_s (.float .f32 s2.2) (by kernel_rfl) ?_
                    refine ql_s (.pointer (some ⟨b4, 4, none⟩)) (by kernel_rfl) ?_
                    refine ql_q rfl (qs_ldpt encV fitv24 rfl 0 rfl (.slice a2 r1.1.V.length cp2) (Nat.le_of_ble_eq_true rfl) rfl) ?_
                    refine ql_s (.int .i64 (i2 : Int)) (by kernel_rfl) ?_
                    refine ql_q rfl (qs_idx hq7 Try.underlying24 fit40 rfl rfl) ?_
                    refine ql_q rfl (qs_ldAtV fit40 rfl h9 valF) ?_
                    refine ql_s (.pointer (some ⟨b2, 4, none⟩)) (by kernel_rfl) ?_
                    refine ql_q rfl (qs_ldpt encV fitv24 rfl 1 rfl (.slice f0_v1a f0.V.length f0_v1c) (Nat.le_of_ble_eq_true rfl) rfl) ?_
                    refine ql_s (.int .i64 (i2 : Int)) (by kernel_rfl) ?_
                    refine ql_q rfl (qs_idx hq8 Try.underlying24 fit40 rfl rfl) ?_
                    refine ql_q rfl (qs_ldAtV fit40 rfl h10 valF) ?_
                    refine ql_q rfl (qs_fop hr18 rfl rfl) ?_
                    refine ql_q rfl (qs_fop hr19 rfl rfl) ?_
                    refine ql_s (.float .f32 r19) (by kernel_rfl) ?_
                    refine ql_nil ?_
                    refine e_blk ?_
                    refine e_perm (fr1_perm 1 _) ?_
                    refine e_perm (fr1_perm 1 _) ?_
                    obtain rfl := Option.some.inj hs5
                    exact e_cut ⟨⟨rfl, rfl, rfl, rfl, rfl, rfl, rfl, rfl, rfl, trivial⟩, hD4, rfl⟩
                  · skip
                    replace hs5 := if_f ht9 hs5
                    refine c_skip ?_
                    refine e_blk ?_
                    refine e_perm (fr1_perm 1 _) ?_
                    refine e_perm (fr1_perm 1 _) ?_
                    obtain rfl := Option.some.inj hs5
                    exact e_cut ⟨⟨rfl, rfl, rfl, rfl, rfl, rfl, rfl, rfl, rfl, trivial⟩, hD4, rfl⟩
              · skip
                rintro φ5 D7 As7 ⟨hI5, hD5, hA7⟩
                subst As7
                replace f0_h1 := f0_h1.mono hD5
                replace h2 := h2.mono hD5
                refine e_frame _ hI5 ?_
                refine e_then ?_
                refine c_quiet ?_
                refine ql_s (.int .i64 (addI (i2 : Int) 1)) (by kernel_rfl) ?_
                refine ql_s (.int .i64 (addI (i2 : Int) 1)) (by kernel_rfl) ?_
                refine ql_nil ?_
                refine e_perm (fr1_perm 1 _) ?_
                refine e_perm (fr1_perm 1 _) ?_
                obtain rfl := Option.some.inj hx2
                exact e_cut ⟨j2, i2 + 1, (s3.1, s3.2), by omega, by omega, ⟨rfl, rfl, rfl, rfl, rfl, rfl, rfl, rfl, (congrArg (Value.int .i64) (addI_succ (by omega))), trivial⟩, (PH.le_trans hD3 hD5), rfl, hs4⟩
          · skip
            rintro φ6 D5 As8 ⟨hI6, hD6, hA8⟩
            subst As8
            replace f0_h1 := f0_h1.mono hD6
            replace h2 := h2.mono hD6
            refine e_frame _ hI6 ?_
            refine e_then ?_
            refine c_seq ?_
            refine c_cutq_end [(10, .bool ((r15.2.2 == 0) && ((feq .f32 r15.1 x2.1) && (feq .f32 r15.2.1 x2.2))))] ?_ ?_
            · skip
              refine c_quiet ?_
              refine ql_s (.int .i64 r15.2.2) (by kernel_rfl) ?_
              refine ql_s (.bool (r15.2.2 == 0)) (by kernel_rfl) ?_
              refine ql_s (.bool (r15.2.2 == 0)) (by kernel_rfl) ?_
              refine ql_case 160 ((r15.2.2 == 0)) rfl (fun hg5 => ?_) (fun hg5 => ?_)
              · skip
                refine ql_s (.float .f32 r15.1) (by kernel_rfl) ?_
                refine ql_s (.float .f32 x2.1) (by kernel_rfl) ?_
                refine ql_s (.bool (feq .f32 r15.1 x2.1)) (by kernel_rfl) ?_
                refine ql_s (.bool (feq .f32 r15.1 x2.1)) (by kernel_rfl) ?_
                refine ql_s (.bool (feq .f32 r15.1 x2.1)) (by kernel_rfl) ?_
                refine ql_case 165 (feq .f32 r15.1 x2.1) rfl (fun hg6 => ?_) (fun hg6 => ?_)
                · skip
                  refine ql_s (.float .f32 r15.2.1) (by kernel_rfl) ?_
                  refine ql_s (.float .f32 x2.2) (by kernel_rfl) ?_
                  refine ql_s (.bool (feq .f32 r15.2.1 x2.2)) (by kernel_rfl) ?_
                  refine ql_s (.bool (feq .f32 r15.2.1 x2.2)) (by kernel_rfl) ?_
                  refine ql_s (.bool (feq .f32 r15.2.1 x2.2)) (by kernel_rfl) ?_
                  refine ql_nil (e_cutq ?_)
                  exact ⟨(congrArg Value.bool (by first | rfl | (rw [hg5, hg6]; rfl) | simp [hg5, hg6])), trivial⟩
                · skip
                  refine ql_s undef (by kernel_rfl) ?_
                  refine ql_s undef (by kernel_rfl) ?_
                  refine ql_s undef (by kernel_rfl) ?_
                  refine ql_s (.bool false) (by kernel_rfl) ?_
                  refine ql_s (.bool false) (by kernel_rfl) ?_
                  refine ql_nil (e_cutq ?_)
                  exact ⟨(congrArg Value.bool (by first | rfl | (rw [hg5, hg6]; rfl) | simp [hg5, hg6])), trivial⟩
              · skip
                refine ql_s undef (by kernel_rfl) ?_
                refine ql_s undef (by kernel_rfl) ?_
                refine ql_s undef (by kernel_rfl) ?_
                refine ql_s (.bool false) (by kernel_rfl) ?_
                refine ql_s (.bool false) (by kernel_rfl) ?_
                refine ql_s undef (by kernel_rfl) ?_
                refine ql_s undef (by kernel_rfl) ?_
                refine ql_s undef (by kernel_rfl) ?_
                refine ql_s (.bool false) (by kernel_rfl) ?_
                refine ql_s (.bool false) (by kernel_rfl) ?_
                refine ql_nil (e_cutq ?_)
                exact ⟨(congrArg Value.bool (by first | rfl | (rw [hg5]; rfl) | simp [hg5])), trivial⟩
            intro _
            refine e_then ?_
            refine c_ret ?_
            obtain rfl := Option.some.inj hp
            refine e_perm (fr1_perm 1 _) ?_
            refine e_perm (fr1_perm 1 _) ?_
            exact post_all (vs := [.bool ((r15.2.2 == 0) && ((feq .f32 r15.1 x2.1) && (feq .f32 r15.2.1 x2.2)))]) (.bool ((r15.2.2 == 0) && ((feq .f32 r15.1 x2.1) && (feq .f32 r15.2.1 x2.2)))) ⟨rfl, trivial⟩ rfl (.inl rfl) (fun w hS => ⟨rfl, (hS.tail.tail.lower (PH.le_trans (PH.le_trans hle2 hD2) hD6))⟩)

end Go.Proofs.Ythibohbaaljnkaa
