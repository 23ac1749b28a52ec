/- Own text, by program: that the code computes the pure functions. -/
import Derived.Test.YthibohbaaljnkaaPu
namespace Go.Proofs.Ythibohbaaljnkaa
open Sx
set_option linter.all false
variable [WB]

-- tarnfell/field.side
set_option maxRecDepth 100000 in
set_option maxHeartbeats 4000000 in
theorem field_side_s (n0 : Int) (D : PH)  (F : List Assert) (r : Bool) (hp : field_side_p n0 = some r) : ∀ w : World, SInv D (F) w → Calls Try.prog 90 #[.int .i64 n0] w (fun e w' => e = .returned (.bool r) ∧ SInv D (F) w') := by
  intro w hS
  refine call_intro Try.func90 rfl Try.ntmps90 (Nat.le_of_ble_eq_true rfl) hS ?_
  clear hS w
  unfold field_side_p at hp
  refine c_seq ?_
  refine c_quiet ?_
  refine ql_s (.bool false) (by kernel_rfl) ?_
  refine ql_nil ?_
  refine e_then ?_
  refine c_seq ?_
  refine c_cutq_end [(2, .bool ((decide (n0 ≥ 1)) && (decide (n0 ≤ 512))))] ?_ ?_
  · skip
    refine c_quiet ?_
    refine ql_s (.int .i64 n0) (by kernel_rfl) ?_
    refine ql_s (.bool (decide (n0 ≥ 1))) (by kernel_rfl) ?_
    refine ql_s (.bool (decide (n0 ≥ 1))) (by kernel_rfl) ?_
    refine ql_case 5 (decide (n0 ≥ 1)) rfl (fun hg1 => ?_) (fun hg1 => ?_)
    · skip
      refine ql_s (.int .i64 n0) (by kernel_rfl) ?_
      refine ql_s (.bool (decide (n0 ≤ 512))) (by kernel_rfl) ?_
      refine ql_s (.bool (decide (n0 ≤ 512))) (by kernel_rfl) ?_
      refine ql_s (.bool (decide (n0 ≤ 512))) (by kernel_rfl) ?_
      refine ql_nil (e_cutq ?_)
      exact ⟨(congrArg Value.bool (by first | rfl | (rw [hg1]; rfl) | simp [hg1])), trivial⟩
    · skip
      refine ql_s undef (by kernel_rfl) ?_
      refine ql_s undef (by kernel_rfl) ?_
      refine ql_s (.bool false) (by kernel_rfl) ?_
      refine ql_s (.bool false) (by kernel_rfl) ?_
      refine ql_nil (e_cutq ?_)
      exact ⟨(congrArg Value.bool (by first | rfl | (rw [hg1]; rfl) | simp [hg1])), trivial⟩
  intro _
  refine e_then ?_
  refine c_ret ?_
  obtain rfl := Option.some.inj hp
  exact post_all (vs := [.bool ((decide (n0 ≥ 1)) && (decide (n0 ≤ 512)))]) (.bool ((decide (n0 ≥ 1)) && (decide (n0 ≤ 512)))) ⟨rfl, trivial⟩ rfl (.inl rfl) (fun w hS => ⟨rfl, hS⟩)

-- tarnfell/field.CheckRegion
set_option maxRecDepth 100000 in
set_option maxHeartbeats 4000000 in
theorem field_CheckRegion_s (r0 : S_api_Region) (D : PH)  (F : List Assert) (r : Int) (hp : field_CheckRegion_p r0 = some r) : ∀ w : World, SInv D (F) w → Calls Try.prog 61 #[.agg #[.int .i64 r0.X, .int .i64 r0.Y, .int .i64 r0.W, .int .i64 r0.H]] w (fun e w' => e = .returned (.int .i64 r) ∧ SInv D (F) w') := by
  intro w hS
  refine call_intro Try.func61 rfl Try.ntmps61 (Nat.le_of_ble_eq_true rfl) hS ?_
  clear hS w
  unfold field_CheckRegion_p at hp
  refine c_seq ?_
  refine c_region ?_
  refine l_box (cs := [.int .i64 r0.X, .int .i64 r0.Y, .int .i64 r0.W, .int .i64 r0.H]) rfl rfl (fun b2 => ?_)
  refine l_s (.int .i64 0) (by kernel_rfl) ?_
  refine l_nil ?_
  refine e_then ?_
  refine c_seq ?_
  refine c_block ?_
  refine c_seq ?_
  obtain ⟨c1, hc1, hp⟩ := bnd_some hp
  refine c_cutq_end [(1, .pointer (some ⟨b2, 0, none⟩)), (3, .bool c1)] ?_ ?_
  · skip
    refine c_quiet ?_
    refine ql_s (.pointer (some ⟨b2, 2, none⟩)) (by kernel_rfl) ?_
    refine ql_q rfl (qs_ldpt encV fitv3 rfl 0 rfl (.int .i64 r0.W) (Nat.le_of_ble_eq_true rfl) rfl) ?_
    obtain ⟨r1, hr1, hc1⟩ := bnd_some hc1
    refine ql_call (v := .bool r1) rfl (run_call (vs := [.int .i64 r0.W]) rfl Try.call90 rfl) (fun w hS => (field_side_s r0.W _  _ _ hr1 w (hS)).mono fun e w' h => ⟨h.1, h.2⟩) ?_
    refine ql_s (.bool (!r1)) (by kernel_rfl) ?_
    refine ql_s (.bool (!r1)) (by kernel_rfl) ?_
    refine ql_case 8 (!r1) rfl (fun hg1 => ?_) (fun hg1 => ?_)
    · skip
      replace hc1 := if_t hg1 hc1
      refine ql_s undef (by kernel_rfl) ?_
      refine ql_s undef (by kernel_rfl) ?_
      refine ql_s undef (by kernel_rfl) ?_
      refine ql_s undef (by kernel_rfl) ?_
      refine ql_s (.bool true) (by kernel_rfl) ?_
      refine ql_s (.bool true) (by kernel_rfl) ?_
      refine ql_nil (e_cutq ?_)
      obtain rfl := Option.some.inj hc1
      exact ⟨rfl, rfl, trivial⟩
    · skip
      replace hc1 := if_f hg1 hc1
      refine ql_s (.pointer (some ⟨b2, 3, none⟩)) (by kernel_rfl) ?_
      refine ql_q rfl (qs_ldpt encV fitv3 rfl 0 rfl (.int .i64 r0.H) (Nat.le_of_ble_eq_true rfl) rfl) ?_
      obtain ⟨r2, hr2, hc1⟩ := bnd_some hc1
      refine ql_call (v := .bool r2) rfl (run_call (vs := [.int .i64 r0.H]) rfl Try.call90 rfl) (fun w hS => (field_side_s r0.H _  _ _ hr2 w (hS)).mono fun e w' h => ⟨h.1, h.2⟩) ?_
      refine ql_s (.bool (!r2)) (by kernel_rfl) ?_
      refine ql_s (.bool (!r2)) (by kernel_rfl) ?_
      refine ql_s (.bool (!r2)) (by kernel_rfl) ?_
      refine ql_nil (e_cutq ?_)
      obtain rfl := Option.some.inj hc1
      exact ⟨rfl, rfl, trivial⟩
  intro _
  refine e_then ?_
  refine c_cond (c1) rfl (fun ht1 => ?_) (fun ht1 => ?_)
  · skip
    replace hp := if_t ht1 hp
    refine c_seq ?_
    refine c_quiet ?_
    refine ql_s (.int .i64 3) (by kernel_rfl) ?_
    refine ql_nil ?_
    refine e_drop ?_
    refine e_then ?_
    refine c_ret ?_
    refine e_blk_ret ?_
    refine e_then_ret ?_
    obtain rfl := Option.some.inj hp
    exact post_all (vs := [.int .i64 3]) (.int .i64 3) ⟨rfl, trivial⟩ rfl (.inl rfl) (fun w hS => ⟨rfl, hS⟩)
  · skip
    replace hp := if_f ht1 hp
    refine c_seq ?_
    refine c_quiet ?_
    refine ql_s (.pointer (some ⟨b2, 2, none⟩)) (by kernel_rfl) ?_
    refine ql_q rfl (qs_ldpt encV fitv3 rfl 0 rfl (.int .i64 r0.W) (Nat.le_of_ble_eq_true rfl) rfl) ?_
    refine ql_s (.pointer (some ⟨b2, 3, none⟩)) (by kernel_rfl) ?_
    refine ql_q rfl (qs_ldpt encV fitv3 rfl 0 rfl (.int .i64 r0.H) (Nat.le_of_ble_eq_true rfl) rfl) ?_
    refine ql_s (.int .i64 (mulI r0.W r0.H)) (by kernel_rfl) ?_
    refine ql_s (.bool (decide ((mulI r0.W r0.H) > 65536))) (by kernel_rfl) ?_
    refine ql_s (.bool (decide ((mulI r0.W r0.H) > 65536))) (by kernel_rfl) ?_
    refine ql_nil ?_
    refine e_then ?_
    refine c_cond (decide ((mulI r0.W r0.H) > 65536)) rfl (fun ht2 => ?_) (fun ht2 => ?_)
    · skip
      replace hp := if_t ht2 hp
      refine c_seq ?_
      refine c_quiet ?_
      refine ql_s (.int .i64 4) (by kernel_rfl) ?_
      refine ql_nil ?_
      refine e_drop ?_
      refine e_then ?_
      refine c_ret ?_
      refine e_blk_ret ?_
      refine e_then_ret ?_
      obtain rfl := Option.some.inj hp
      exact post_all (vs := [.int .i64 4]) (.int .i64 4) ⟨rfl, trivial⟩ rfl (.inl rfl) (fun w hS => ⟨rfl, hS⟩)
    · skip
      replace hp := if_f ht2 hp
      refine c_seq ?_
      refine c_cutq_end [(21, .bool ((decide (r0.X < (-4194304))) || ((decide (r0.Y < (-4194304))) || ((decide (r0.X > (subI 4194304 r0.W))) || (decide (r0.Y > (subI 4194304 r0.H)))))))] ?_ ?_
      · skip
        refine c_quiet ?_
        refine ql_s (.pointer (some ⟨b2, 0, none⟩)) (by kernel_rfl) ?_
        refine ql_q rfl (qs_ldpt encV fitv3 rfl 0 rfl (.int .i64 r0.X) (Nat.le_of_ble_eq_true rfl) rfl) ?_
        refine ql_s (.bool (decide (r0.X < (-4194304)))) (by kernel_rfl) ?_
        refine ql_s (.bool (decide (r0.X < (-4194304)))) (by kernel_rfl) ?_
        refine ql_case 25 (decide (r0.X < (-4194304))) rfl (fun hg2 => ?_) (fun hg2 => ?_)
        · skip
          refine ql_s undef (by kernel_rfl) ?_
          refine ql_s undef (by kernel_rfl) ?_
          refine ql_s undef (by kernel_rfl) ?_
          refine ql_s (.bool true) (by kernel_rfl) ?_
          refine ql_s (.bool true) (by kernel_rfl) ?_
          refine ql_s undef (by kernel_rfl) ?_
          refine ql_s undef (by kernel_rfl) ?_
          refine ql_s undef (by kernel_rfl) ?_
          refine ql_s undef (by kernel_rfl) ?_
          refine ql_s undef (by kernel_rfl) ?_
          refine ql_s undef (by kernel_rfl) ?_
          refine ql_s (.bool true) (by kernel_rfl) ?_
          refine ql_s (.bool true) (by kernel_rfl) ?_
          refine ql_s undef (by kernel_rfl) ?_
          refine ql_s undef (by kernel_rfl) ?_
          refine ql_s undef (by kernel_rfl) ?_
          refine ql_s undef (by kernel_rfl) ?_
          refine ql_s undef (by kernel_rfl) ?_
          refine ql_s undef (by kernel_rfl) ?_
          refine ql_s (.bool true) (by kernel_rfl) ?_
          refine ql_s (.bool true) (by kernel_rfl) ?_
          refine ql_nil (e_cutq ?_)
          exact ⟨(congrArg Value.bool (by first | rfl | (rw [hg2]; rfl) | simp [hg2])), trivial⟩
        · skip
          refine ql_s (.pointer (some ⟨b2, 1, none⟩)) (by kernel_rfl) ?_
          refine ql_q rfl (qs_ldpt encV fitv3 rfl 0 rfl (.int .i64 r0.Y) (Nat.le_of_ble_eq_true rfl) rfl) ?_
          refine ql_s (.bool (decide (r0.Y < (-4194304)))) (by kernel_rfl) ?_
          refine ql_s (.bool (decide (r0.Y < (-4194304)))) (by kernel_rfl) ?_
          refine ql_s (.bool (decide (r0.Y < (-4194304)))) (by kernel_rfl) ?_
          refine ql_case 30 (decide (r0.Y < (-4194304))) rfl (fun hg3 => ?_) (fun hg3 => ?_)
          · skip
            refine ql_s undef (by kernel_rfl) ?_
            refine ql_s undef (by kernel_rfl) ?_
            refine ql_s undef (by kernel_rfl) ?_
            refine ql_s undef (by kernel_rfl) ?_
            refine ql_s undef (by kernel_rfl) ?_
            refine ql_s undef (by kernel_rfl) ?_
            refine ql_s (.bool true) (by kernel_rfl) ?_
            refine ql_s (.bool true) (by kernel_rfl) ?_
            refine ql_s undef (by kernel_rfl) ?_
            refine ql_s undef (by kernel_rfl) ?_
            refine ql_s undef (by kernel_rfl) ?_
            refine ql_s undef (by kernel_rfl) ?_
            refine ql_s undef (by kernel_rfl) ?_
            refine ql_s undef (by kernel_rfl) ?_
            refine ql_s (.bool true) (by kernel_rfl) ?_
            refine ql_s (.bool true) (by kernel_rfl) ?_
            refine ql_nil (e_cutq ?_)
            exact ⟨(congrArg Value.bool (by first | rfl | (rw [hg2, hg3]; rfl) | simp [hg2, hg3])), trivial⟩
          · skip
            refine ql_s (.pointer (some ⟨b2, 0, none⟩)) (by kernel_rfl) ?_
            refine ql_q rfl (qs_ldpt encV fitv3 rfl 0 rfl (.int .i64 r0.X) (Nat.le_of_ble_eq_true rfl) rfl) ?_
            refine ql_s (.pointer (some ⟨b2, 2, none⟩)) (by kernel_rfl) ?_
            refine ql_q rfl (qs_ldpt encV fitv3 rfl 0 rfl (.int .i64 r0.W) (Nat.le_of_ble_eq_true rfl) rfl) ?_
            refine ql_s (.int .i64 (subI 4194304 r0.W)) (by kernel_rfl) ?_
            refine ql_s (.bool (decide (r0.X > (subI 4194304 r0.W)))) (by kernel_rfl) ?_
            refine ql_s (.bool (decide (r0.X > (subI 4194304 r0.W)))) (by kernel_rfl) ?_
            refine ql_s (.bool (decide (r0.X > (subI 4194304 r0.W)))) (by kernel_rfl) ?_
            refine ql_case 38 (decide (r0.X > (subI 4194304 r0.W))) rfl (fun hg4 => ?_) (fun hg4 => ?_)
            · skip
              refine ql_s undef (by kernel_rfl) ?_
              refine ql_s undef (by kernel_rfl) ?_
              refine ql_s undef (by kernel_rfl) ?_
              refine ql_s undef (by kernel_rfl) ?_
              refine ql_s undef (by kernel_rfl) ?_
              refine ql_s undef (by kernel_rfl) ?_
              refine ql_s (.bool true) (by kernel_rfl) ?_
              refine ql_s (.bool true) (by kernel_rfl) ?_
              refine ql_nil (e_cutq ?_)
              exact ⟨(congrArg Value.bool (by first | rfl | (rw [hg2, hg3, hg4]; rfl) | simp [hg2, hg3, hg4])), trivial⟩
            · skip
              refine ql_s (.pointer (some ⟨b2, 1, none⟩)) (by kernel_rfl) ?_
              refine ql_q rfl (qs_ldpt encV fitv3 rfl 0 rfl (.int .i64 r0.Y) (Nat.le_of_ble_eq_true rfl) rfl) ?_
              refine ql_s (.pointer (some ⟨b2, 3, none⟩)) (by kernel_rfl) ?_
              refine ql_q rfl (qs_ldpt encV fitv3 rfl 0 rfl (.int .i64 r0.H) (Nat.le_of_ble_eq_true rfl) rfl) ?_
              refine ql_s (.int .i64 (subI 4194304 r0.H)) (by kernel_rfl) ?_
              refine ql_s (.bool (decide (r0.Y > (subI 4194304 r0.H)))) (by kernel_rfl) ?_
              refine ql_s (.bool (decide (r0.Y > (subI 4194304 r0.H)))) (by kernel_rfl) ?_
              refine ql_s (.bool (decide (r0.Y > (subI 4194304 r0.H)))) (by kernel_rfl) ?_
              refine ql_nil (e_cutq ?_)
              exact ⟨(congrArg Value.bool (by first | rfl | (rw [hg2, hg3, hg4]; rfl) | simp [hg2, hg3, hg4])), trivial⟩
      intro _
      refine e_then ?_
      refine c_cond (((decide (r0.X < (-4194304))) || ((decide (r0.Y < (-4194304))) || ((decide (r0.X > (subI 4194304 r0.W))) || (decide (r0.Y > (subI 4194304 r0.H))))))) rfl (fun ht3 => ?_) (fun ht3 => ?_)
      · skip
        replace hp := if_t ht3 hp
        refine c_seq ?_
        refine c_quiet ?_
        refine ql_s (.int .i64 5) (by kernel_rfl) ?_
        refine ql_nil ?_
        refine e_drop ?_
        refine e_then ?_
        refine c_ret ?_
        refine e_blk_ret ?_
        refine e_then_ret ?_
        obtain rfl := Option.some.inj hp
        exact post_all (vs := [.int .i64 5]) (.int .i64 5) ⟨rfl, trivial⟩ rfl (.inl rfl) (fun w hS => ⟨rfl, hS⟩)
      · skip
        replace hp := if_f ht3 hp
        refine c_skip ?_
        refine e_blk ?_
        refine e_then ?_
        refine c_seq ?_
        refine c_quiet ?_
        refine ql_s (.int .i64 0) (by kernel_rfl) ?_
        refine ql_nil ?_
        refine e_drop ?_
        refine e_then ?_
        refine c_ret ?_
        obtain rfl := Option.some.inj hp
        exact post_all (vs := [.int .i64 0]) (.int .i64 0) ⟨rfl, trivial⟩ rfl (.inl rfl) (fun w hS => ⟨rfl, hS⟩)

-- tarnfell/field.finite
set_option maxRecDepth 100000 in
set_option maxHeartbeats 4000000 in
theorem field_finite_s (v0 : Nat) (D : PH)  (F : List Assert) (r : Bool) (hp : field_finite_p v0 = some r) : ∀ w : World, SInv D (F) w → Calls Try.prog 78 #[.float .f32 v0] w (fun e w' => e = .returned (.bool r) ∧ SInv D (F) w') := by
  intro w hS
  refine call_intro Try.func78 rfl Try.ntmps78 (Nat.le_of_ble_eq_true rfl) hS ?_
  clear hS w
  unfold field_finite_p at hp
  refine c_seq ?_
  refine c_quiet ?_
  refine ql_s (.bool false) (by kernel_rfl) ?_
  refine ql_nil ?_
  refine e_then ?_
  refine c_seq ?_
  refine c_cutq_end [(2, .bool ((fge .f32 v0 4286578687) && (fle .f32 v0 2139095039)))] ?_ ?_
  · skip
    refine c_quiet ?_
    refine ql_s (.float .f32 v0) (by kernel_rfl) ?_
    refine ql_s (.bool (fge .f32 v0 4286578687)) (by kernel_rfl) ?_
    refine ql_s (.bool (fge .f32 v0 4286578687)) (by kernel_rfl) ?_
    refine ql_case 5 (fge .f32 v0 4286578687) rfl (fun hg1 => ?_) (fun hg1 => ?_)
    · skip
      refine ql_s (.float .f32 v0) (by kernel_rfl) ?_
      refine ql_s (.bool (fle .f32 v0 2139095039)) (by kernel_rfl) ?_
      refine ql_s (.bool (fle .f32 v0 2139095039)) (by kernel_rfl) ?_
      refine ql_s (.bool (fle .f32 v0 2139095039)) (by kernel_rfl) ?_
      refine ql_nil (e_cutq ?_)
      exact ⟨(congrArg Value.bool (by first | rfl | (rw [hg1]; rfl) | simp [hg1])), trivial⟩
    · skip
      refine ql_s undef (by kernel_rfl) ?_
      refine ql_s undef (by kernel_rfl) ?_
      refine ql_s (.bool false) (by kernel_rfl) ?_
      refine ql_s (.bool false) (by kernel_rfl) ?_
      refine ql_nil (e_cutq ?_)
      exact ⟨(congrArg Value.bool (by first | rfl | (rw [hg1]; rfl) | simp [hg1])), trivial⟩
  intro _
  refine e_then ?_
  refine c_ret ?_
  obtain rfl := Option.some.inj hp
  exact post_all (vs := [.bool ((fge .f32 v0 4286578687) && (fle .f32 v0 2139095039))]) (.bool ((fge .f32 v0 4286578687) && (fle .f32 v0 2139095039))) ⟨rfl, trivial⟩ rfl (.inl rfl) (fun w hS => ⟨rfl, hS⟩)

-- tarnfell/field.height
set_option maxRecDepth 100000 in
set_option maxHeartbeats 4000000 in
theorem field_height_s (v0 : Nat) (D : PH)  (F : List Assert) (r : Bool) (hp : field_height_p v0 = some r) : ∀ w : World, SInv D (F) w → Calls Try.prog 79 #[.float .f32 v0] w (fun e w' => e = .returned (.bool r) ∧ SInv D (F) w') := by
  intro w hS
  refine call_intro Try.func79 rfl Try.ntmps79 (Nat.le_of_ble_eq_true rfl) hS ?_
  clear hS w
  unfold field_height_p at hp
  refine c_seq ?_
  refine c_quiet ?_
  refine ql_s (.bool false) (by kernel_rfl) ?_
  refine ql_nil ?_
  refine e_then ?_
  refine c_seq ?_
  refine c_cutq_end [(2, .bool ((fge .f32 v0 3380609024) && (fle .f32 v0 1233125376)))] ?_ ?_
  · skip
    refine c_quiet ?_
    refine ql_s (.float .f32 v0) (by kernel_rfl) ?_
    refine ql_s (.bool (fge .f32 v0 3380609024)) (by kernel_rfl) ?_
    refine ql_s (.bool (fge .f32 v0 3380609024)) (by kernel_rfl) ?_
    refine ql_case 5 (fge .f32 v0 3380609024) rfl (fun hg1 => ?_) (fun hg1 => ?_)
    · skip
      refine ql_s (.float .f32 v0) (by kernel_rfl) ?_
      refine ql_s (.bool (fle .f32 v0 1233125376)) (by kernel_rfl) ?_
      refine ql_s (.bool (fle .f32 v0 1233125376)) (by kernel_rfl) ?_
      refine ql_s (.bool (fle .f32 v0 1233125376)) (by kernel_rfl) ?_
      refine ql_nil (e_cutq ?_)
      exact ⟨(congrArg Value.bool (by first | rfl | (rw [hg1]; rfl) | simp [hg1])), trivial⟩
    · skip
      refine ql_s undef (by kernel_rfl) ?_
      refine ql_s undef (by kernel_rfl) ?_
      refine ql_s (.bool false) (by kernel_rfl) ?_
      refine ql_s (.bool false) (by kernel_rfl) ?_
      refine ql_nil (e_cutq ?_)
      exact ⟨(congrArg Value.bool (by first | rfl | (rw [hg1]; rfl) | simp [hg1])), trivial⟩
  intro _
  refine e_then ?_
  refine c_ret ?_
  obtain rfl := Option.some.inj hp
  exact post_all (vs := [.bool ((fge .f32 v0 3380609024) && (fle .f32 v0 1233125376))]) (.bool ((fge .f32 v0 3380609024) && (fle .f32 v0 1233125376))) ⟨rfl, trivial⟩ rfl (.inl rfl) (fun w hS => ⟨rfl, hS⟩)

-- tarnfell/field.Heights
set_option maxRecDepth 100000 in
set_option maxHeartbeats 4000000 in
theorem field_Heights_s (l0 : List Nat) (l0_v1a : Option Addr) (l0_v1c : Nat) (D : PH) (l0_h1 : RO (encF .f32) D (.slice l0_v1a l0.length l0_v1c) l0) (F : List Assert) (r : Int) (hp : field_Heights_p l0 = some r) : ∀ w : World, SInv D (F) w → Calls Try.prog 34 #[.slice l0_v1a l0.length l0_v1c] w (fun e w' => e = .returned (.int .i64 r) ∧ SInv D (F) w') := by
  intro w hS
  refine call_intro Try.func34 rfl Try.ntmps34 (Nat.le_of_ble_eq_true rfl) hS ?_
  clear hS w
  unfold field_Heights_p at hp
  refine c_seq ?_
  refine c_quiet ?_
  refine ql_s (.int .i64 0) (by kernel_rfl) ?_
  refine ql_nil ?_
  refine e_then ?_
  refine c_seq ?_
  refine c_seq ?_
  refine c_quiet ?_
  refine ql_s (.slice l0_v1a l0.length l0_v1c) (by kernel_rfl) ?_
  refine ql_s (.int .i64 (l0.length : Int)) (by kernel_rfl) ?_
  refine ql_s (.int .i64 0) (by kernel_rfl) ?_
  refine ql_nil ?_
  refine e_then ?_
  have hb0 : (l0.length : Int) ≤ 4611686018427387904 := by have := RO.bound l0_h1; omega
  have hm0 : l0.length = (l0.length : Int).toNat := by omega
  have hm1 := hm0; have hb1 := hb0; clear hm0 hb0
  obtain ⟨x1, hs1, hp⟩ := bnd_some hp
  obtain ⟨body1, hbody1, hs1⟩ := forI_gen hs1
  refine c_cut_end (fun φ1 D1 As1 => ∃ (s1 : Unit), x1 = .go s1 ∧ Is φ1 [(0, .slice l0_v1a l0.length l0_v1c)] ∧ PH.le D D1 ∧ As1 = F) ?_ ?_
  · skip
    refine c_block ?_
    refine c_loop (fun k φ1 D2 As1 => ∃ (j1 i1 : Nat) (s2 : Unit), k = j1 + 1 ∧ i1 + j1 = l0.length ∧ Is φ1 [(0, .slice l0_v1a l0.length l0_v1c), (7, .slice l0_v1a l0.length l0_v1c), (8, .int .i64 (l0.length : Int)), (9, .int .i64 (i1 : Int))] ∧ PH.le D D2 ∧ As1 = F ∧ forI body1 j1 i1 s2 = some x1) ⟨l0.length + 1, l0.length, 0, (), rfl, Nat.zero_add _, ⟨rfl, rfl, rfl, rfl, trivial⟩, (PH.le_refl _), rfl, hs1⟩ ?_ ?_
    · rintro _ _ _ ⟨_, _, _, h0, _⟩; omega
    intro k1
    rintro φ1 D2 As1 ⟨j1, i1, s2, hk1, hij1, hI1, hD1, hA1, hs2⟩
    subst As1
    replace l0_h1 := l0_h1.mono hD1
    refine c_frame _ hI1 ?_
    obtain rfl : k1 = j1 := by omega
    clear hk1
    rcases k1 with _ | j1
    · skip
      refine c_seq ?_
      refine c_quiet ?_
      refine ql_s (.bool (decide ((i1 : Int) < (l0.length : Int)))) (by kernel_rfl) ?_
      refine ql_nil ?_
      refine e_then ?_
      refine c_seq ?_
      refine c_cond (decide ((i1 : Int) < (l0.length : Int))) rfl (fun ht1 => absurd ((dec_lt_f hm1 (by omega)).symm.trans ht1) (by simp)) (fun _ => ?_)
      refine c_exit ?_
      refine e_then_exit ?_
      refine e_then_exit ?_
      obtain rfl := Option.some.inj hs2
      refine e_blk_exit ?_
      exact e_cut ⟨(), rfl, ⟨rfl, trivial⟩, hD1, rfl⟩
    · skip
      obtain ⟨y1, hx1, hs2⟩ := forI_some hs2
      replace hx1 := (congrFun (congrFun hbody1 i1) s2).trans hx1
      refine c_seq ?_
      refine c_quiet ?_
      refine ql_s (.bool (decide ((i1 : Int) < (l0.length : Int)))) (by kernel_rfl) ?_
      refine ql_nil ?_
      refine e_then ?_
      refine c_seq ?_
      refine c_cond (decide ((i1 : Int) < (l0.length : Int))) rfl (fun _ => ?_) (fun ht2 => absurd ((dec_lt_t hm1 (by omega)).symm.trans ht2) (by simp))
      refine c_skip ?_
      refine e_then ?_
      refine c_seq ?_
      refine c_block ?_
      refine c_seq ?_
      obtain ⟨x2, hx2, hx1⟩ := bnd_some hx1
      obtain ⟨b1, o1, h1, hq1⟩ := RO.at l0_h1 hx2
      refine c_quiet ?_
      refine ql_q rfl (qs_idx hq1 Try.underlying24 fit40 rfl rfl) ?_
      refine ql_q rfl (qs_ldAtV fit40 rfl h1 valF) ?_
      refine ql_s (.float .f32 x2) (by kernel_rfl) ?_
      refine ql_nil ?_
      refine e_then ?_
      refine c_seq ?_
      obtain ⟨r1, hr1, hx1⟩ := bnd_some hx1
      refine c_quiet ?_
      refine ql_s (.float .f32 x2) (by kernel_rfl) ?_
      refine ql_call (v := .bool r1) rfl (run_call (vs := [.float .f32 x2]) rfl Try.call78 rfl) (fun w hS => (field_finite_s x2 _  _ _ hr1 w (hS)).mono fun e w' h => ⟨h.1, h.2⟩) ?_
      refine ql_s (.bool (!r1)) (by kernel_rfl) ?_
      refine ql_nil ?_
      refine e_then ?_
      refine c_cond (!r1) rfl (fun ht3 => ?_) (fun ht3 => ?_)
      · skip
        replace hx1 := if_t ht3 hx1
        refine c_seq ?_
        refine c_quiet ?_
        refine ql_s (.int .i64 2) (by kernel_rfl) ?_
        refine ql_nil ?_
        refine e_then ?_
        refine c_ret ?_
        refine e_blk_ret ?_
        refine e_then_ret ?_
        refine e_then_ret ?_
        obtain rfl := Option.some.inj hx1
        obtain rfl := hs2
        refine e_blk_ret ?_
        refine e_then_ret ?_
        dsimp only at hp
        refine e_then_ret ?_
        obtain rfl := Option.some.inj hp
        exact post_all (vs := [.int .i64 2]) (.int .i64 2) ⟨rfl, trivial⟩ rfl (.inl rfl) (fun w hS => ⟨rfl, (hS.lower hD1)⟩)
      · skip
        replace hx1 := if_f ht3 hx1
        refine c_skip ?_
        refine e_blk ?_
        refine e_then ?_
        refine c_quiet ?_
        refine ql_s (.int .i64 (addI (i1 : Int) 1)) (by kernel_rfl) ?_
        refine ql_s (.int .i64 (addI (i1 : Int) 1)) (by kernel_rfl) ?_
        refine ql_nil ?_
        obtain rfl := Option.some.inj hx1
        exact e_cut ⟨j1, i1 + 1, (), by omega, by omega, ⟨rfl, rfl, rfl, (congrArg (Value.int .i64) (addI_succ (by omega))), trivial⟩, hD1, rfl, hs2⟩
  · skip
    rintro φ2 D1 As2 ⟨s1, rfl, hI2, hD2, hA2⟩
    subst As2
    replace l0_h1 := l0_h1.mono hD2
    dsimp only at hp
    refine e_frame _ hI2 ?_
    refine e_then ?_
    refine c_seq ?_
    refine c_seq ?_
    refine c_quiet ?_
    refine ql_s (.slice l0_v1a l0.length l0_v1c) (by kernel_rfl) ?_
    refine ql_s (.int .i64 (l0.length : Int)) (by kernel_rfl) ?_
    refine ql_s (.int .i64 0) (by kernel_rfl) ?_
    refine ql_nil ?_
    refine e_then ?_
    have hb0 : (l0.length : Int) ≤ 4611686018427387904 := by have := RO.bound l0_h1; omega
    have hm0 : l0.length = (l0.length : Int).toNat := by omega
    have hm2 := hm0; have hb2 := hb0; clear hm0 hb0
    obtain ⟨x3, hs3, hp⟩ := bnd_some hp
    obtain ⟨body2, hbody2, hs3⟩ := forI_gen hs3
    refine c_cut_end (fun φ1 D3 As1 => ∃ (s3 : Unit), x3 = .go s3 ∧ Is φ1 [] ∧ PH.le D1 D3 ∧ As1 = F) ?_ ?_
    · skip
      refine c_block ?_
      refine c_loop (fun k φ1 D4 As1 => ∃ (j2 i2 : Nat) (s4 : Unit), k = j2 + 1 ∧ i2 + j2 = l0.length ∧ Is φ1 [(17, .slice l0_v1a l0.length l0_v1c), (18, .int .i64 (l0.length : Int)), (19, .int .i64 (i2 : Int))] ∧ PH.le D1 D4 ∧ As1 = F ∧ forI body2 j2 i2 s4 = some x3) ⟨l0.length + 1, l0.length, 0, (), rfl, Nat.zero_add _, ⟨rfl, rfl, rfl, trivial⟩, (PH.le_refl _), rfl, hs3⟩ ?_ ?_
      · rintro _ _ _ ⟨_, _, _, h0, _⟩; omega
      intro k2
      rintro φ3 D4 As3 ⟨j2, i2, s4, hk2, hij2, hI3, hD3, hA3, hs4⟩
      subst As3
      replace l0_h1 := l0_h1.mono hD3
      refine c_frame _ hI3 ?_
      obtain rfl : k2 = j2 := by omega
      clear hk2
      rcases k2 with _ | j2
      · skip
        refine c_seq ?_
        refine c_quiet ?_
        refine ql_s (.bool (decide ((i2 : Int) < (l0.length : Int)))) (by kernel_rfl) ?_
        refine ql_nil ?_
        refine e_then ?_
        refine c_seq ?_
        refine c_cond (decide ((i2 : Int) < (l0.length : Int))) rfl (fun ht4 => absurd ((dec_lt_f hm2 (by omega)).symm.trans ht4) (by simp)) (fun _ => ?_)
        refine c_exit ?_
        refine e_then_exit ?_
        refine e_then_exit ?_
        obtain rfl := Option.some.inj hs4
        refine e_blk_exit ?_
        exact e_cut ⟨(), rfl, trivial, hD3, rfl⟩
      · skip
        obtain ⟨y2, hx3, hs4⟩ := forI_some hs4
        replace hx3 := (congrFun (congrFun hbody2 i2) s4).trans hx3
        refine c_seq ?_
        refine c_quiet ?_
        refine ql_s (.bool (decide ((i2 : Int) < (l0.length : Int)))) (by kernel_rfl) ?_
        refine ql_nil ?_
        refine e_then ?_
        refine c_seq ?_
        refine c_cond (decide ((i2 : Int) < (l0.length : Int))) rfl (fun _ => ?_) (fun ht5 => absurd ((dec_lt_t hm2 (by omega)).symm.trans ht5) (by simp))
        refine c_skip ?_
        refine e_then ?_
        refine c_seq ?_
        refine c_block ?_
        refine c_seq ?_
        obtain ⟨x4, hx4, hx3⟩ := bnd_some hx3
        obtain ⟨b2, o2, h2, hq2⟩ := RO.at l0_h1 hx4
        refine c_quiet ?_
        refine ql_q rfl (qs_idx hq2 Try.underlying24 fit40 rfl rfl) ?_
        refine ql_q rfl (qs_ldAtV fit40 rfl h2 valF) ?_
        refine ql_s (.float .f32 x4) (by kernel_rfl) ?_
        refine ql_nil ?_
        refine e_then ?_
        refine c_seq ?_
        obtain ⟨r2, hr2, hx3⟩ := bnd_some hx3
        refine c_quiet ?_
        refine ql_s (.float .f32 x4) (by kernel_rfl) ?_
        refine ql_call (v := .bool r2) rfl (run_call (vs := [.float .f32 x4]) rfl Try.call79 rfl) (fun w hS => (field_height_s x4 _  _ _ hr2 w (hS)).mono fun e w' h => ⟨h.1, h.2⟩) ?_
        refine ql_s (.bool (!r2)) (by kernel_rfl) ?_
        refine ql_nil ?_
        refine e_then ?_
        refine c_cond (!r2) rfl (fun ht6 => ?_) (fun ht6 => ?_)
        · skip
          replace hx3 := if_t ht6 hx3
          refine c_seq ?_
          refine c_quiet ?_
          refine ql_s (.int .i64 3) (by kernel_rfl) ?_
          refine ql_nil ?_
          refine e_then ?_
          refine c_ret ?_
          refine e_blk_ret ?_
          refine e_then_ret ?_
          refine e_then_ret ?_
          obtain rfl := Option.some.inj hx3
          obtain rfl := hs4
          refine e_blk_ret ?_
          refine e_then_ret ?_
          dsimp only at hp
          refine e_then_ret ?_
          obtain rfl := Option.some.inj hp
          exact post_all (vs := [.int .i64 3]) (.int .i64 3) ⟨rfl, trivial⟩ rfl (.inl rfl) (fun w hS => ⟨rfl, (hS.lower (PH.le_trans hD2 hD3))⟩)
        · skip
          replace hx3 := if_f ht6 hx3
          refine c_skip ?_
          refine e_blk ?_
          refine e_then ?_
          refine c_quiet ?_
          refine ql_s (.int .i64 (addI (i2 : Int) 1)) (by kernel_rfl) ?_
          refine ql_s (.int .i64 (addI (i2 : Int) 1)) (by kernel_rfl) ?_
          refine ql_nil ?_
          obtain rfl := Option.some.inj hx3
          exact e_cut ⟨j2, i2 + 1, (), by omega, by omega, ⟨rfl, rfl, (congrArg (Value.int .i64) (addI_succ (by omega))), trivial⟩, hD3, rfl, hs4⟩
    · skip
      rintro φ4 D3 As4 ⟨s3, rfl, hI4, hD4, hA4⟩
      subst As4
      dsimp only at hp
      refine e_frame _ hI4 ?_
      refine e_then ?_
      refine c_seq ?_
      refine c_quiet ?_
      refine ql_s (.int .i64 0) (by kernel_rfl) ?_
      refine ql_nil ?_
      refine e_then ?_
      refine c_ret ?_
      obtain rfl := Option.some.inj hp
      exact post_all (vs := [.int .i64 0]) (.int .i64 0) ⟨rfl, trivial⟩ rfl (.inl rfl) (fun w hS => ⟨rfl, (hS.lower (PH.le_trans hD2 hD4))⟩)

-- tarnfell/field.Check
set_option maxRecDepth 100000 in
set_option maxHeartbeats 4000000 in
theorem field_Check_s (f0 : S_api_Field) (f0_v1a : Option Addr) (f0_v1c : Nat) (D : PH) (f0_h1 : RO (encF .f32) D (.slice f0_v1a f0.V.length f0_v1c) f0.V) (F : List Assert) (r : Int) (hp : field_Check_p f0 = some r) : ∀ w : World, SInv D (F) w → Calls Try.prog 75 #[.agg #[.int .i64 f0.Region.X, .int .i64 f0.Region.Y, .int .i64 f0.Region.W, .int .i64 f0.Region.H, .slice f0_v1a f0.V.length f0_v1c]] w (fun e w' => e = .returned (.int .i64 r) ∧ SInv D (F) w') := by
  intro w hS
  refine call_intro Try.func75 rfl Try.ntmps75 (Nat.le_of_ble_eq_true rfl) hS ?_
  clear hS w
  unfold field_Check_p at hp
  refine c_seq ?_
  refine c_region ?_
  refine l_box (cs := [.int .i64 f0.Region.X, .int .i64 f0.Region.Y, .int .i64 f0.Region.W, .int .i64 f0.Region.H, .slice f0_v1a f0.V.length f0_v1c]) rfl rfl (fun b2 => ?_)
  refine l_s (.int .i64 0) (by kernel_rfl) ?_
  refine l_nil ?_
  refine e_then ?_
  refine c_seq ?_
  refine c_seq ?_
  obtain ⟨r1, hr1, hp⟩ := bnd_some hp
  refine c_quiet ?_
  refine ql_s (.pointer (some ⟨b2, 0, none⟩)) (by kernel_rfl) ?_
  refine ql_q rfl (qs_ldpt (encW 4 (by decide)) fitv23 rfl 0 rfl (.agg #[.int .i64 f0.Region.X, .int .i64 f0.Region.Y, .int .i64 f0.Region.W, .int .i64 f0.Region.H]) (Nat.le_of_ble_eq_true rfl) rfl) ?_
  refine ql_call (v := .int .i64 r1) rfl (run_call (vs := [.agg #[.int .i64 f0.Region.X, .int .i64 f0.Region.Y, .int .i64 f0.Region.W, .int .i64 f0.Region.H]]) rfl Try.call61 rfl) (fun w hS => (field_CheckRegion_s f0.Region _  _ _ hr1 w (hS)).mono fun e w' h => ⟨h.1, h.2⟩) ?_
  refine ql_s (.int .i64 r1) (by kernel_rfl) ?_
  refine ql_nil ?_
  refine e_then ?_
  refine c_seq ?_
  refine c_quiet ?_
  refine ql_s (.int .i64 r1) (by kernel_rfl) ?_
  refine ql_s (.bool (r1 != 0)) (by kernel_rfl) ?_
  refine ql_nil ?_
  refine e_then ?_
  refine c_cond ((r1 != 0)) rfl (fun ht1 => ?_) (fun ht1 => ?_)
  · skip
    replace hp := if_t ht1 hp
    refine c_seq ?_
    refine c_quiet ?_
    refine ql_s (.int .i64 r1) (by kernel_rfl) ?_
    refine ql_s (.int .i64 r1) (by kernel_rfl) ?_
    refine ql_nil ?_
    refine e_drop ?_
    refine e_then ?_
    refine c_ret ?_
    refine e_then_ret ?_
    obtain rfl := Option.some.inj hp
    exact post_all (vs := [.int .i64 r1]) (.int .i64 r1) ⟨rfl, trivial⟩ rfl (.inl rfl) (fun w hS => ⟨rfl, hS⟩)
  · skip
    replace hp := if_f ht1 hp
    refine c_skip ?_
    refine e_then ?_
    refine c_seq ?_
    refine c_seq ?_
    refine c_quiet ?_
    refine ql_s (.pointer (some ⟨b2, 4, none⟩)) (by kernel_rfl) ?_
    refine ql_q rfl (qs_ldpt encV fitv24 rfl 0 rfl (.slice f0_v1a f0.V.length f0_v1c) (Nat.le_of_ble_eq_true rfl) rfl) ?_
    refine ql_s (.int .i64 (f0.V.length : Int)) (by kernel_rfl) ?_
    refine ql_s (.pointer (some ⟨b2, 0, none⟩)) (by kernel_rfl) ?_
    refine ql_s (.pointer (some ⟨b2, 2, none⟩)) (by kernel_rfl) ?_
    refine ql_q rfl (qs_ldpt encV fitv3 rfl 0 rfl (.int .i64 f0.Region.W) (Nat.le_of_ble_eq_true rfl) rfl) ?_
    refine ql_s (.pointer (some ⟨b2, 0, none⟩)) (by kernel_rfl) ?_
    refine ql_s (.pointer (some ⟨b2, 3, none⟩)) (by kernel_rfl) ?_
    refine ql_q rfl (qs_ldpt encV fitv3 rfl 0 rfl (.int .i64 f0.Region.H) (Nat.le_of_ble_eq_true rfl) rfl) ?_
    refine ql_s (.int .i64 (mulI f0.Region.W f0.Region.H)) (by kernel_rfl) ?_
    refine ql_s (.bool ((f0.V.length : Int) != (mulI f0.Region.W f0.Region.H))) (by kernel_rfl) ?_
    refine ql_nil ?_
    refine e_then ?_
    refine c_cond (((f0.V.length : Int) != (mulI f0.Region.W f0.Region.H))) rfl (fun ht2 => ?_) (fun ht2 => ?_)
    · skip
      replace hp := if_t ht2 hp
      refine c_seq ?_
      refine c_quiet ?_
      refine ql_s (.int .i64 2) (by kernel_rfl) ?_
      refine ql_nil ?_
      refine e_drop ?_
      refine e_then ?_
      refine c_ret ?_
      refine e_then_ret ?_
      obtain rfl := Option.some.inj hp
      exact post_all (vs := [.int .i64 2]) (.int .i64 2) ⟨rfl, trivial⟩ rfl (.inl rfl) (fun w hS => ⟨rfl, hS⟩)
    · skip
      replace hp := if_f ht2 hp
      refine c_skip ?_
      refine e_then ?_
      refine c_seq ?_
      obtain ⟨r2, hr2, hp⟩ := bnd_some hp
      refine c_quiet ?_
      refine ql_s (.pointer (some ⟨b2, 4, none⟩)) (by kernel_rfl) ?_
      refine ql_q rfl (qs_ldpt encV fitv24 rfl 0 rfl (.slice f0_v1a f0.V.length f0_v1c) (Nat.le_of_ble_eq_true rfl) rfl) ?_
      refine ql_call (v := .int .i64 r2) rfl (run_call (vs := [.slice f0_v1a f0.V.length f0_v1c]) rfl Try.call34 rfl) (fun w hS => (field_Heights_s f0.V f0_v1a f0_v1c _ f0_h1 _ _ hr2 w (hS)).mono fun e w' h => ⟨h.1, h.2⟩) ?_
      refine ql_s (.int .i64 r2) (by kernel_rfl) ?_
      refine ql_nil ?_
      refine e_drop ?_
      refine e_then ?_
      refine c_ret ?_
      obtain rfl := Option.some.inj hp
      exact post_all (vs := [.int .i64 r2]) (.int .i64 r2) ⟨rfl, trivial⟩ rfl (.inl rfl) (fun w hS => ⟨rfl, hS⟩)

-- tarnfell/road.amount
set_option maxRecDepth 100000 in
set_option maxHeartbeats 4000000 in
theorem road_amount_s (l0 : List S_api_Point) (l0_v1a : Option Addr) (l0_v1c : Nat) (D : PH) (l0_h1 : RO encS_api_Point D (.slice l0_v1a l0.length l0_v1c) l0) (F : List Assert) (r : Int) (hp : road_amount_p l0 = some r) : ∀ w : World, SInv D (F) w → Calls Try.prog 104 #[.slice l0_v1a l0.length l0_v1c] w (fun e w' => e = .returned (.int .i64 r) ∧ SInv D (F) w') := by
  intro w hS
  refine call_intro Try.func104 rfl Try.ntmps104 (Nat.le_of_ble_eq_true rfl) hS ?_
  clear hS w
  unfold road_amount_p at hp
  refine c_seq ?_
  refine c_quiet ?_
  refine ql_s (.int .i64 0) (by kernel_rfl) ?_
  refine ql_nil ?_
  refine e_then ?_
  refine c_seq ?_
  refine c_block ?_
  refine c_seq ?_
  refine c_quiet ?_
  refine ql_s (.slice l0_v1a l0.length l0_v1c) (by kernel_rfl) ?_
  refine ql_s (.int .i64 (l0.length : Int)) (by kernel_rfl) ?_
  refine ql_s (.bool ((l0.length : Int) == 0)) (by kernel_rfl) ?_
  refine ql_s (.bool ((l0.length : Int) == 0)) (by kernel_rfl) ?_
  refine ql_nil ?_
  refine e_then ?_
  refine c_cond (((l0.length : Int) == 0)) rfl (fun ht1 => ?_) (fun ht1 => ?_)
  · skip
    replace hp := if_t ht1 hp
    refine c_seq ?_
    refine c_quiet ?_
    refine ql_s (.int .i64 10) (by kernel_rfl) ?_
    refine ql_nil ?_
    refine e_then ?_
    refine c_ret ?_
    refine e_blk_ret ?_
    refine e_then_ret ?_
    obtain rfl := Option.some.inj hp
    exact post_all (vs := [.int .i64 10]) (.int .i64 10) ⟨rfl, trivial⟩ rfl (.inl rfl) (fun w hS => ⟨rfl, hS⟩)
  · skip
    replace hp := if_f ht1 hp
    refine c_seq ?_
    refine c_quiet ?_
    refine ql_s (.slice l0_v1a l0.length l0_v1c) (by kernel_rfl) ?_
    refine ql_s (.int .i64 (l0.length : Int)) (by kernel_rfl) ?_
    refine ql_s (.bool (decide ((l0.length : Int) > 65536))) (by kernel_rfl) ?_
    refine ql_s (.bool (decide ((l0.length : Int) > 65536))) (by kernel_rfl) ?_
    refine ql_nil ?_
    refine e_then ?_
    refine c_cond (decide ((l0.length : Int) > 65536)) rfl (fun ht2 => ?_) (fun ht2 => ?_)
    · skip
      replace hp := if_t ht2 hp
      refine c_seq ?_
      refine c_quiet ?_
      refine ql_s (.int .i64 4) (by kernel_rfl) ?_
      refine ql_nil ?_
      refine e_then ?_
      refine c_ret ?_
      refine e_blk_ret ?_
      refine e_then_ret ?_
      obtain rfl := Option.some.inj hp
      exact post_all (vs := [.int .i64 4]) (.int .i64 4) ⟨rfl, trivial⟩ rfl (.inl rfl) (fun w hS => ⟨rfl, hS⟩)
    · skip
      replace hp := if_f ht2 hp
      refine c_skip ?_
      refine e_blk ?_
      refine e_then ?_
      refine c_seq ?_
      refine c_quiet ?_
      refine ql_s (.int .i64 0) (by kernel_rfl) ?_
      refine ql_nil ?_
      refine e_then ?_
      refine c_ret ?_
      obtain rfl := Option.some.inj hp
      exact post_all (vs := [.int .i64 0]) (.int .i64 0) ⟨rfl, trivial⟩ rfl (.inl rfl) (fun w hS => ⟨rfl, hS⟩)

-- tarnfell/field.Place
set_option maxRecDepth 100000 in
set_option maxHeartbeats 4000000 in
theorem field_Place_s (r0 : S_api_Region) (x0 : Int) (y0 : Int) (D : PH)  (F : List Assert) (r : Int × Bool) (hp : field_Place_p r0 x0 y0 = some r) : ∀ w : World, SInv D (F) w → Calls Try.prog 73 #[.agg #[.int .i64 r0.X, .int .i64 r0.Y, .int .i64 r0.W, .int .i64 r0.H], .int .i64 x0, .int .i64 y0] w (fun e w' => e = .returned (.tuple #[.int .i64 r.1, .bool r.2]) ∧ SInv D (F) w') := by
  intro w hS
  refine call_intro Try.func73 rfl Try.ntmps73 (Nat.le_of_ble_eq_true rfl) hS ?_
  clear hS w
  unfold field_Place_p at hp
  refine c_seq ?_
  refine c_region ?_
  refine l_box (cs := [.int .i64 r0.X, .int .i64 r0.Y, .int .i64 r0.W, .int .i64 r0.H]) rfl rfl (fun b2 => ?_)
  refine l_s (.int .i64 0) (by kernel_rfl) ?_
  refine l_s (.bool false) (by kernel_rfl) ?_
  refine l_nil ?_
  refine e_then ?_
  refine c_seq ?_
  refine c_seq ?_
  refine c_cutq_end [(1, .int .i64 x0), (2, .int .i64 y0), (3, .pointer (some ⟨b2, 0, none⟩)), (35, .bool ((decide (x0 < r0.X)) || ((decide (y0 < r0.Y)) || ((decide (x0 ≥ (addI r0.X r0.W))) || (decide (y0 ≥ (addI r0.Y r0.H)))))))] ?_ ?_
  · skip
    refine c_quiet ?_
    refine ql_s (.int .i64 x0) (by kernel_rfl) ?_
    refine ql_s (.pointer (some ⟨b2, 0, none⟩)) (by kernel_rfl) ?_
    refine ql_q rfl (qs_ldpt encV fitv3 rfl 0 rfl (.int .i64 r0.X) (Nat.le_of_ble_eq_true rfl) rfl) ?_
    refine ql_s (.bool (decide (x0 < r0.X))) (by kernel_rfl) ?_
    refine ql_s (.bool (decide (x0 < r0.X))) (by kernel_rfl) ?_
    refine ql_case 12 (decide (x0 < r0.X)) rfl (fun hg1 => ?_) (fun hg1 => ?_)
    · skip
      refine ql_s undef (by kernel_rfl) ?_
      refine ql_s undef (by kernel_rfl) ?_
      refine ql_s undef (by kernel_rfl) ?_
      refine ql_s undef (by kernel_rfl) ?_
      refine ql_s (.bool true) (by kernel_rfl) ?_
      refine ql_s (.bool true) (by kernel_rfl) ?_
      refine ql_s undef (by kernel_rfl) ?_
      refine ql_s undef (by kernel_rfl) ?_
      refine ql_s undef (by kernel_rfl) ?_
      refine ql_s undef (by kernel_rfl) ?_
      refine ql_s undef (by kernel_rfl) ?_
      refine ql_s undef (by kernel_rfl) ?_
      refine ql_s undef (by kernel_rfl) ?_
      refine ql_s (.bool true) (by kernel_rfl) ?_
      refine ql_s (.bool true) (by kernel_rfl) ?_
      refine ql_s undef (by kernel_rfl) ?_
      refine ql_s undef (by kernel_rfl) ?_
      refine ql_s undef (by kernel_rfl) ?_
      refine ql_s undef (by kernel_rfl) ?_
      refine ql_s undef (by kernel_rfl) ?_
      refine ql_s undef (by kernel_rfl) ?_
      refine ql_s undef (by kernel_rfl) ?_
      refine ql_s (.bool true) (by kernel_rfl) ?_
      refine ql_nil (e_cutq ?_)
      exact ⟨rfl, rfl, rfl, (congrArg Value.bool (by first | rfl | (rw [hg1]; rfl) | simp [hg1])), trivial⟩
    · skip
      refine ql_s (.int .i64 y0) (by kernel_rfl) ?_
      refine ql_s (.pointer (some ⟨b2, 1, none⟩)) (by kernel_rfl) ?_
      refine ql_q rfl (qs_ldpt encV fitv3 rfl 0 rfl (.int .i64 r0.Y) (Nat.le_of_ble_eq_true rfl) rfl) ?_
      refine ql_s (.bool (decide (y0 < r0.Y))) (by kernel_rfl) ?_
      refine ql_s (.bool (decide (y0 < r0.Y))) (by kernel_rfl) ?_
      refine ql_s (.bool (decide (y0 < r0.Y))) (by kernel_rfl) ?_
      refine ql_case 18 (decide (y0 < r0.Y)) rfl (fun hg2 => ?_) (fun hg2 => ?_)
      · skip
        refine ql_s undef (by kernel_rfl) ?_
        refine ql_s undef (by kernel_rfl) ?_
        refine ql_s undef (by kernel_rfl) ?_
        refine ql_s undef (by kernel_rfl) ?_
        refine ql_s undef (by kernel_rfl) ?_
        refine ql_s undef (by kernel_rfl) ?_
        refine ql_s undef (by kernel_rfl) ?_
        refine ql_s (.bool true) (by kernel_rfl) ?_
        refine ql_s (.bool true) (by kernel_rfl) ?_
        refine ql_s undef (by kernel_rfl) ?_
        refine ql_s undef (by kernel_rfl) ?_
        refine ql_s undef (by kernel_rfl) ?_
        refine ql_s undef (by kernel_rfl) ?_
        refine ql_s undef (by kernel_rfl) ?_
        refine ql_s undef (by kernel_rfl) ?_
        refine ql_s undef (by kernel_rfl) ?_
        refine ql_s (.bool true) (by kernel_rfl) ?_
        refine ql_nil (e_cutq ?_)
        exact ⟨rfl, rfl, rfl, (congrArg Value.bool (by first | rfl | (rw [hg1, hg2]; rfl) | simp [hg1, hg2])), trivial⟩
      · skip
        refine ql_s (.int .i64 x0) (by kernel_rfl) ?_
        refine ql_s (.pointer (some ⟨b2, 0, none⟩)) (by kernel_rfl) ?_
        refine ql_q rfl (qs_ldpt encV fitv3 rfl 0 rfl (.int .i64 r0.X) (Nat.le_of_ble_eq_true rfl) rfl) ?_
        refine ql_s (.pointer (some ⟨b2, 2, none⟩)) (by kernel_rfl) ?_
        refine ql_q rfl (qs_ldpt encV fitv3 rfl 0 rfl (.int .i64 r0.W) (Nat.le_of_ble_eq_true rfl) rfl) ?_
        refine ql_s (.int .i64 (addI r0.X r0.W)) (by kernel_rfl) ?_
        refine ql_s (.bool (decide (x0 ≥ (addI r0.X r0.W)))) (by kernel_rfl) ?_
        refine ql_s (.bool (decide (x0 ≥ (addI r0.X r0.W)))) (by kernel_rfl) ?_
        refine ql_s (.bool (decide (x0 ≥ (addI r0.X r0.W)))) (by kernel_rfl) ?_
        refine ql_case 27 (decide (x0 ≥ (addI r0.X r0.W))) rfl (fun hg3 => ?_) (fun hg3 => ?_)
        · skip
          refine ql_s undef (by kernel_rfl) ?_
          refine ql_s undef (by kernel_rfl) ?_
          refine ql_s undef (by kernel_rfl) ?_
          refine ql_s undef (by kernel_rfl) ?_
          refine ql_s undef (by kernel_rfl) ?_
          refine ql_s undef (by kernel_rfl) ?_
          refine ql_s undef (by kernel_rfl) ?_
          refine ql_s (.bool true) (by kernel_rfl) ?_
          refine ql_nil (e_cutq ?_)
          exact ⟨rfl, rfl, rfl, (congrArg Value.bool (by first | rfl | (rw [hg1, hg2, hg3]; rfl) | simp [hg1, hg2, hg3])), trivial⟩
        · skip
          refine ql_s (.int .i64 y0) (by kernel_rfl) ?_
          refine ql_s (.pointer (some ⟨b2, 1, none⟩)) (by kernel_rfl) ?_
          refine ql_q rfl (qs_ldpt encV fitv3 rfl 0 rfl (.int .i64 r0.Y) (Nat.le_of_ble_eq_true rfl) rfl) ?_
          refine ql_s (.pointer (some ⟨b2, 3, none⟩)) (by kernel_rfl) ?_
          refine ql_q rfl (qs_ldpt encV fitv3 rfl 0 rfl (.int .i64 r0.H) (Nat.le_of_ble_eq_true rfl) rfl) ?_
          refine ql_s (.int .i64 (addI r0.Y r0.H)) (by kernel_rfl) ?_
          refine ql_s (.bool (decide (y0 ≥ (addI r0.Y r0.H)))) (by kernel_rfl) ?_
          refine ql_s (.bool (decide (y0 ≥ (addI r0.Y r0.H)))) (by kernel_rfl) ?_
          refine ql_nil (e_cutq ?_)
          exact ⟨rfl, rfl, rfl, (congrArg Value.bool (by first | rfl | (rw [hg1, hg2, hg3]; rfl) | simp [hg1, hg2, hg3])), trivial⟩
  intro _
  refine e_then ?_
  refine c_cond (((decide (x0 < r0.X)) || ((decide (y0 < r0.Y)) || ((decide (x0 ≥ (addI r0.X r0.W))) || (decide (y0 ≥ (addI r0.Y r0.H))))))) rfl (fun ht1 => ?_) (fun ht1 => ?_)
  · skip
    replace hp := if_t ht1 hp
    refine c_seq ?_
    refine c_quiet ?_
    refine ql_s (.int .i64 0) (by kernel_rfl) ?_
    refine ql_s (.bool false) (by kernel_rfl) ?_
    refine ql_nil ?_
    refine e_drop ?_
    refine e_then ?_
    refine c_ret ?_
    refine e_then_ret ?_
    obtain rfl := Option.some.inj hp
    exact post_all (vs := [.int .i64 0, .bool false]) (.tuple #[.int .i64 0, .bool false]) ⟨rfl, rfl, trivial⟩ rfl (.inl rfl) (fun w hS => ⟨rfl, hS⟩)
  · skip
    replace hp := if_f ht1 hp
    refine c_skip ?_
    refine e_then ?_
    refine c_seq ?_
    refine c_quiet ?_
    refine ql_s (.int .i64 y0) (by kernel_rfl) ?_
    refine ql_s (.pointer (some ⟨b2, 1, none⟩)) (by kernel_rfl) ?_
    refine ql_q rfl (qs_ldpt encV fitv3 rfl 0 rfl (.int .i64 r0.Y) (Nat.le_of_ble_eq_true rfl) rfl) ?_
    refine ql_s (.int .i64 (subI y0 r0.Y)) (by kernel_rfl) ?_
    refine ql_s (.pointer (some ⟨b2, 2, none⟩)) (by kernel_rfl) ?_
    refine ql_q rfl (qs_ldpt encV fitv3 rfl 0 rfl (.int .i64 r0.W) (Nat.le_of_ble_eq_true rfl) rfl) ?_
    refine ql_s (.int .i64 (mulI (subI y0 r0.Y) r0.W)) (by kernel_rfl) ?_
    refine ql_s (.int .i64 x0) (by kernel_rfl) ?_
    refine ql_s (.int .i64 (addI (mulI (subI y0 r0.Y) r0.W) x0)) (by kernel_rfl) ?_
    refine ql_s (.pointer (some ⟨b2, 0, none⟩)) (by kernel_rfl) ?_
    refine ql_q rfl (qs_ldpt encV fitv3 rfl 0 rfl (.int .i64 r0.X) (Nat.le_of_ble_eq_true rfl) rfl) ?_
    refine ql_s (.int .i64 (subI (addI (mulI (subI y0 r0.Y) r0.W) x0) r0.X)) (by kernel_rfl) ?_
    refine ql_s (.int .i64 (subI (addI (mulI (subI y0 r0.Y) r0.W) x0) r0.X)) (by kernel_rfl) ?_
    refine ql_s (.bool true) (by kernel_rfl) ?_
    refine ql_nil ?_
    refine e_drop ?_
    refine e_then ?_
    refine c_ret ?_
    obtain rfl := Option.some.inj hp
    exact post_all (vs := [.int .i64 (subI (addI (mulI (subI y0 r0.Y) r0.W) x0) r0.X), .bool true]) (.tuple #[.int .i64 (subI (addI (mulI (subI y0 r0.Y) r0.W) x0) r0.X), .bool true]) ⟨rfl, rfl, trivial⟩ rfl (.inl rfl) (fun w hS => ⟨rfl, hS⟩)

-- tarnfell/road.inside
set_option maxRecDepth 100000 in
set_option maxHeartbeats 4000000 in
theorem road_inside_s (f0 : S_api_Field) (f0_v1a : Option Addr) (f0_v1c : Nat) (l0 : List S_api_Point) (l0_v1a : Option Addr) (l0_v1c : Nat) (D : PH) (f0_h1 : RO (encF .f32) D (.slice f0_v1a f0.V.length f0_v1c) f0.V) (l0_h1 : RO encS_api_Point D (.slice l0_v1a l0.length l0_v1c) l0) (F : List Assert) (r : Int) (hp : road_inside_p f0 l0 = some r) : ∀ w : World, SInv D (F) w → Calls Try.prog 71 #[.agg #[.int .i64 f0.Region.X, .int .i64 f0.Region.Y, .int .i64 f0.Region.W, .int .i64 f0.Region.H, .slice f0_v1a f0.V.length f0_v1c], .slice l0_v1a l0.length l0_v1c] w (fun e w' => e = .returned (.int .i64 r) ∧ SInv D (F) w') := by
  intro w hS
  refine call_intro Try.func71 rfl Try.ntmps71 (Nat.le_of_ble_eq_true rfl) hS ?_
  clear hS w
  unfold road_inside_p at hp
  refine c_seq ?_
  refine c_region ?_
  refine l_box (cs := [.int .i64 f0.Region.X, .int .i64 f0.Region.Y, .int .i64 f0.Region.W, .int .i64 f0.Region.H, .slice f0_v1a f0.V.length f0_v1c]) rfl rfl (fun b2 => ?_)
  refine l_s (.int .i64 0) (by kernel_rfl) ?_
  refine l_nil ?_
  refine e_then ?_
  refine c_seq ?_
  refine c_seq ?_
  refine c_quiet ?_
  refine ql_s (.slice l0_v1a l0.length l0_v1c) (by kernel_rfl) ?_
  refine ql_s (.int .i64 (l0.length : Int)) (by kernel_rfl) ?_
  refine ql_s (.int .i64 0) (by kernel_rfl) ?_
  refine ql_nil ?_
  refine e_then ?_
  have hb0 : (l0.length : Int) ≤ 4611686018427387904 := by have := RO.bound l0_h1; omega
  have hm0 : l0.length = (l0.length : Int).toNat := by omega
  have hm1 := hm0; have hb1 := hb0; clear hm0 hb0
  obtain ⟨x1, hs1, hp⟩ := bnd_some hp
  obtain ⟨body1, hbody1, hs1⟩ := forI_gen hs1
  refine c_cut_end (fun φ1 D1 As1 => ∃ (s1 : Unit), x1 = .go s1 ∧ Is φ1 [] ∧ PH.le D D1 ∧ As1 = pt b2 [.int .i64 f0.Region.X, .int .i64 f0.Region.Y, .int .i64 f0.Region.W, .int .i64 f0.Region.H, .slice f0_v1a f0.V.length f0_v1c] 26 :: F) ?_ ?_
  · skip
    refine c_block ?_
    refine c_loop (fun k φ1 D2 As1 => ∃ (j1 i1 : Nat) (s2 : Unit), k = j1 + 1 ∧ i1 + j1 = l0.length ∧ Is φ1 [(2, .pointer (some ⟨b2, 0, none⟩)), (9, .slice l0_v1a l0.length l0_v1c), (10, .int .i64 (l0.length : Int)), (11, .int .i64 (i1 : Int))] ∧ PH.le D D2 ∧ As1 = pt b2 [.int .i64 f0.Region.X, .int .i64 f0.Region.Y, .int .i64 f0.Region.W, .int .i64 f0.Region.H, .slice f0_v1a f0.V.length f0_v1c] 26 :: F ∧ forI body1 j1 i1 s2 = some x1) ⟨l0.length + 1, l0.length, 0, (), rfl, Nat.zero_add _, ⟨rfl, rfl, rfl, rfl, trivial⟩, (PH.le_refl _), rfl, hs1⟩ ?_ ?_
    · rintro _ _ _ ⟨_, _, _, h0, _⟩; omega
    intro k1
    rintro φ1 D2 As1 ⟨j1, i1, s2, hk1, hij1, hI1, hD1, hA1, hs2⟩
    subst As1
    replace l0_h1 := l0_h1.mono hD1
    replace f0_h1 := f0_h1.mono hD1
    refine c_frame _ hI1 ?_
    obtain rfl : k1 = j1 := by omega
    clear hk1
    rcases k1 with _ | j1
    · skip
      refine c_seq ?_
      refine c_quiet ?_
      refine ql_s (.bool (decide ((i1 : Int) < (l0.length : Int)))) (by kernel_rfl) ?_
      refine ql_nil ?_
      refine e_then ?_
      refine c_seq ?_
      refine c_cond (decide ((i1 : Int) < (l0.length : Int))) rfl (fun ht1 => absurd ((dec_lt_f hm1 (by omega)).symm.trans ht1) (by simp)) (fun _ => ?_)
      refine c_exit ?_
      refine e_then_exit ?_
      refine e_then_exit ?_
      obtain rfl := Option.some.inj hs2
      refine e_blk_exit ?_
      exact e_cut ⟨(), rfl, trivial, hD1, rfl⟩
    · skip
      obtain ⟨y1, hx1, hs2⟩ := forI_some hs2
      replace hx1 := (congrFun (congrFun hbody1 i1) s2).trans hx1
      refine c_seq ?_
      refine c_quiet ?_
      refine ql_s (.bool (decide ((i1 : Int) < (l0.length : Int)))) (by kernel_rfl) ?_
      refine ql_nil ?_
      refine e_then ?_
      refine c_seq ?_
      refine c_cond (decide ((i1 : Int) < (l0.length : Int))) rfl (fun _ => ?_) (fun ht2 => absurd ((dec_lt_t hm1 (by omega)).symm.trans ht2) (by simp))
      refine c_skip ?_
      refine e_then ?_
      refine c_seq ?_
      refine c_block ?_
      refine c_seq ?_
      obtain ⟨x2, hx2, hx1⟩ := bnd_some hx1
      obtain ⟨b3, o1, h1, hq1⟩ := RO.at l0_h1 hx2
      obtain ⟨cs1, hc1, ha1⟩ := h1.cells
      obtain rfl := hc1
      refine c_region ?_
      refine l_q rfl (qs_idx hq1 Try.underlying27 fit71 rfl rfl) ?_
      refine l_q rfl (qs_ldC fit71 rfl ha1 rfl (.agg #[.int .i64 x2.X, .int .i64 x2.Y]) rfl) ?_
      refine l_alloc (zs := [.int .i64 0, .int .i64 0]) rfl (by kernel_rfl) (fun b5 => ?_)
      refine l_store (dd := none) (vs := [.int .i64 x2.X, .int .i64 x2.Y]) (cs' := [.int .i64 x2.X, .int .i64 x2.Y]) rfl (by kernel_rfl) (by kernel_rfl) rfl rfl (Nat.le_of_ble_eq_true rfl) rfl rfl ?_
      refine l_nil ?_
      refine e_then ?_
      refine c_seq ?_
      obtain ⟨r1, hr1, hx1⟩ := bnd_some hx1
      refine c_quiet ?_
      refine ql_s (.pointer (some ⟨b2, 0, none⟩)) (by kernel_rfl) ?_
      refine ql_q rfl (qs_ldpt (encW 4 (by decide)) fitv23 rfl 1 rfl (.agg #[.int .i64 f0.Region.X, .int .i64 f0.Region.Y, .int .i64 f0.Region.W, .int .i64 f0.Region.H]) (Nat.le_of_ble_eq_true rfl) rfl) ?_
      refine ql_s (.pointer (some ⟨b5, 0, none⟩)) (by kernel_rfl) ?_
      refine ql_q rfl (qs_ldpt encV fitv3 rfl 0 rfl (.int .i64 x2.X) (Nat.le_of_ble_eq_true rfl) rfl) ?_
      refine ql_s (.pointer (some ⟨b5, 1, none⟩)) (by kernel_rfl) ?_
      refine ql_q rfl (qs_ldpt encV fitv3 rfl 0 rfl (.int .i64 x2.Y) (Nat.le_of_ble_eq_true rfl) rfl) ?_
      refine ql_call (v := .tuple #[.int .i64 r1.1, .bool r1.2]) rfl (run_call (vs := [.agg #[.int .i64 f0.Region.X, .int .i64 f0.Region.Y, .int .i64 f0.Region.W, .int .i64 f0.Region.H], .int .i64 x2.X, .int .i64 x2.Y]) rfl Try.call73 rfl) (fun w hS => (field_Place_s f0.Region x2.X x2.Y _  _ _ hr1 w (hS)).mono fun e w' h => ⟨h.1, h.2⟩) ?_
      refine ql_s (.tuple #[.int .i64 r1.1, .bool r1.2]) (by kernel_rfl) ?_
      refine ql_s (.int .i64 r1.1) (by kernel_rfl) ?_
      refine ql_s (.bool r1.2) (by kernel_rfl) ?_
      refine ql_s (.int .i64 r1.1) (by kernel_rfl) ?_
      refine ql_s (.bool r1.2) (by kernel_rfl) ?_
      refine ql_nil ?_
      refine e_drop ?_
      refine e_then ?_
      refine c_seq ?_
      refine c_quiet ?_
      refine ql_s (.bool r1.2) (by kernel_rfl) ?_
      refine ql_s (.bool (!r1.2)) (by kernel_rfl) ?_
      refine ql_nil ?_
      refine e_then ?_
      refine c_cond (!r1.2) rfl (fun ht3 => ?_) (fun ht3 => ?_)
      · skip
        replace hx1 := if_t ht3 hx1
        refine c_seq ?_
        refine c_quiet ?_
        refine ql_s (.int .i64 5) (by kernel_rfl) ?_
        refine ql_nil ?_
        refine e_drop ?_
        refine e_then ?_
        refine c_ret ?_
        refine e_blk_ret ?_
        refine e_then_ret ?_
        refine e_then_ret ?_
        obtain rfl := Option.some.inj hx1
        obtain rfl := hs2
        refine e_blk_ret ?_
        refine e_then_ret ?_
        dsimp only at hp
        refine e_then_ret ?_
        obtain rfl := Option.some.inj hp
        exact post_all (vs := [.int .i64 5]) (.int .i64 5) ⟨rfl, trivial⟩ rfl (.inl rfl) (fun w hS => ⟨rfl, (hS.lower hD1)⟩)
      · skip
        replace hx1 := if_f ht3 hx1
        refine c_skip ?_
        refine e_blk ?_
        refine e_then ?_
        refine c_quiet ?_
        refine ql_s (.int .i64 (addI (i1 : Int) 1)) (by kernel_rfl) ?_
        refine ql_s (.int .i64 (addI (i1 : Int) 1)) (by kernel_rfl) ?_
        refine ql_nil ?_
        obtain rfl := Option.some.inj hx1
        exact e_cut ⟨j1, i1 + 1, (), by omega, by omega, ⟨rfl, rfl, rfl, (congrArg (Value.int .i64) (addI_succ (by omega))), trivial⟩, hD1, rfl, hs2⟩
  · skip
    rintro φ2 D1 As2 ⟨s1, rfl, hI2, hD2, hA2⟩
    subst As2
    replace f0_h1 := f0_h1.mono hD2
    dsimp only at hp
    refine e_frame _ hI2 ?_
    refine e_then ?_
    refine c_seq ?_
    refine c_quiet ?_
    refine ql_s (.int .i64 0) (by kernel_rfl) ?_
    refine ql_nil ?_
    refine e_drop ?_
    refine e_then ?_
    refine c_ret ?_
    obtain rfl := Option.some.inj hp
    exact post_all (vs := [.int .i64 0]) (.int .i64 0) ⟨rfl, trivial⟩ rfl (.inl rfl) (fun w hS => ⟨rfl, (hS.lower hD2)⟩)

-- tarnfell/road.onField$1
set_option maxRecDepth 100000 in
set_option maxHeartbeats 4000000 in
theorem road_onField_1_s (p0 : S_api_Point) (b_p00 : Nat) (p00 : S_api_Field) (p00_v1a : Option Addr) (p00_v1c : Nat) (D : PH) (p00_h1 : RO (encF .f32) D (.slice p00_v1a p00.V.length p00_v1c) p00.V) (F : List Assert) (r : Int) (hp : road_onField_1_p p0 p00 = some r) : ∀ w : World, SInv D (pt b_p00 [.int .i64 p00.Region.X, .int .i64 p00.Region.Y, .int .i64 p00.Region.W, .int .i64 p00.Region.H, .slice p00_v1a p00.V.length p00_v1c] 26 :: F) w → Calls Try.prog 77 #[.agg #[.int .i64 p0.X, .int .i64 p0.Y], .pointer (some ⟨b_p00, 0, none⟩)] w (fun e w' => e = .returned (.int .i64 r) ∧ SInv D (pt b_p00 [.int .i64 p00.Region.X, .int .i64 p00.Region.Y, .int .i64 p00.Region.W, .int .i64 p00.Region.H, .slice p00_v1a p00.V.length p00_v1c] 26 :: F) w') := by
  intro w hS
  refine call_intro Try.func77 rfl Try.ntmps77 (Nat.le_of_ble_eq_true rfl) hS ?_
  clear hS w
  unfold road_onField_1_p at hp
  refine c_seq ?_
  refine c_region ?_
  refine l_box (cs := [.int .i64 p0.X, .int .i64 p0.Y]) rfl rfl (fun b2 => ?_)
  refine l_s (.int .i64 0) (by kernel_rfl) ?_
  refine l_nil ?_
  refine e_then ?_
  refine c_seq ?_
  obtain ⟨r1, hr1, hp⟩ := bnd_some hp
  refine c_region ?_
  refine l_q rfl (qs_ldpt (encW 5 (by decide)) fitv26 rfl 1 rfl (.agg #[.int .i64 p00.Region.X, .int .i64 p00.Region.Y, .int .i64 p00.Region.W, .int .i64 p00.Region.H, .slice p00_v1a p00.V.length p00_v1c]) (Nat.le_of_ble_eq_true rfl) rfl) ?_
  refine l_q rfl (qs_ldpt (encW 2 (by decide)) fitv71 rfl 0 rfl (.agg #[.int .i64 p0.X, .int .i64 p0.Y]) (Nat.le_of_ble_eq_true rfl) rfl) ?_
  refine l_bslS (cs := [.int .i64 p0.X, .int .i64 p0.Y]) (E := 71) (e := encS_api_Point) ([p0] : List S_api_Point) rfl (by kernel_rfl) rfl rfl (Nat.le_of_ble_eq_true rfl) ⟨rfl, trivial⟩ (fun b4 cp2 => ?_)
  refine l_callq (v := .int .i64 r1) rfl rfl Try.call71 (vs := [.agg #[.int .i64 p00.Region.X, .int .i64 p00.Region.Y, .int .i64 p00.Region.W, .int .i64 p00.Region.H, .slice p00_v1a p00.V.length p00_v1c], .slice (some ⟨b4, 0, none⟩) ([p0] : List S_api_Point).length cp2]) rfl (fun w hS => (calls_thaw (PH.le_refl _) (hS) (fun D0' hLl0 hLr0 hS => (road_inside_s p00 p00_v1a p00_v1c ([p0] : List S_api_Point) (some ⟨b4, 0, none⟩) cp2 _ (p00_h1.mono hLl0) hLr0 _ _ hr1 w (hS)).mono fun e w' h => ⟨h.1, h.2⟩)).mono fun e w' h => ⟨h.1, h.2⟩) ?_
  refine l_s (.int .i64 r1) (by kernel_rfl) ?_
  refine l_nil ?_
  refine e_drop ?_
  refine e_drop ?_
  refine e_then ?_
  refine c_ret ?_
  obtain rfl := Option.some.inj hp
  exact post_all (vs := [.int .i64 r1]) (.int .i64 r1) ⟨rfl, trivial⟩ rfl (.inl rfl) (fun w hS => ⟨rfl, hS⟩)

-- tarnfell/water.Toward
set_option maxRecDepth 100000 in
set_option maxHeartbeats 4000000 in
theorem water_Toward_s (d0 : Int) (D : PH)  (F : List Assert) (r : S_api_Point) (hp : water_Toward_p d0 = some r) : ∀ w : World, SInv D (F) w → Calls Try.prog 122 #[.int .i64 d0] w (fun e w' => e = .returned (.agg #[.int .i64 r.X, .int .i64 r.Y]) ∧ SInv D (F) w') := by
  intro w hS
  refine call_intro Try.func122 rfl Try.ntmps122 (Nat.le_of_ble_eq_true rfl) hS ?_
  clear hS w
  unfold water_Toward_p at hp
  refine c_seq ?_
  refine c_region ?_
  refine l_alloc (zs := [.int .i64 0, .int .i64 0]) rfl (by kernel_rfl) (fun b2 => ?_)
  refine l_nil ?_
  refine e_then ?_
  refine c_seq ?_
  refine c_region ?_
  refine l_s (.agg #[.int .i64 1, .int .i64 0]) (by kernel_rfl) ?_
  refine l_s (.agg #[.int .i64 1, .int .i64 1]) (by kernel_rfl) ?_
  refine l_s (.agg #[.int .i64 0, .int .i64 1]) (by kernel_rfl) ?_
  refine l_s (.agg #[.int .i64 (-1), .int .i64 1]) (by kernel_rfl) ?_
  refine l_s (.agg #[.int .i64 (-1), .int .i64 0]) (by kernel_rfl) ?_
  refine l_s (.agg #[.int .i64 (-1), .int .i64 (-1)]) (by kernel_rfl) ?_
  refine l_s (.agg #[.int .i64 0, .int .i64 (-1)]) (by kernel_rfl) ?_
  refine l_s (.agg #[.int .i64 1, .int .i64 (-1)]) (by kernel_rfl) ?_
  refine l_q rfl (qs_bldArr (zs := [.int .i64 0, .int .i64 0, .int .i64 0, .int .i64 0, .int .i64 0, .int .i64 0, .int .i64 0, .int .i64 0, .int .i64 0, .int .i64 0, .int .i64 0, .int .i64 0, .int .i64 0, .int .i64 0, .int .i64 0, .int .i64 0]) (cs := [.int .i64 1, .int .i64 0, .int .i64 1, .int .i64 1, .int .i64 0, .int .i64 1, .int .i64 (-1), .int .i64 1, .int .i64 (-1), .int .i64 0, .int .i64 (-1), .int .i64 (-1), .int .i64 0, .int .i64 (-1), .int .i64 1, .int .i64 (-1)]) Try.underlying185 (by kernel_rfl) (by kernel_rfl) (by kernel_rfl)) ?_
  refine l_alloc (zs := [.int .i64 0, .int .i64 0, .int .i64 0, .int .i64 0, .int .i64 0, .int .i64 0, .int .i64 0, .int .i64 0, .int .i64 0, .int .i64 0, .int .i64 0, .int .i64 0, .int .i64 0, .int .i64 0, .int .i64 0, .int .i64 0]) rfl (by kernel_rfl) (fun b4 => ?_)
  refine l_store (dd := none) (vs := [.int .i64 1, .int .i64 0, .int .i64 1, .int .i64 1, .int .i64 0, .int .i64 1, .int .i64 (-1), .int .i64 1, .int .i64 (-1), .int .i64 0, .int .i64 (-1), .int .i64 (-1), .int .i64 0, .int .i64 (-1), .int .i64 1, .int .i64 (-1)]) (cs' := [.int .i64 1, .int .i64 0, .int .i64 1, .int .i64 1, .int .i64 0, .int .i64 1, .int .i64 (-1), .int .i64 1, .int .i64 (-1), .int .i64 0, .int .i64 (-1), .int .i64 (-1), .int .i64 0, .int .i64 (-1), .int .i64 1, .int .i64 (-1)]) rfl (by kernel_rfl) (by kernel_rfl) rfl rfl (Nat.le_of_ble_eq_true rfl) rfl rfl ?_
  refine l_nil ?_
  refine e_then ?_
  refine c_seq ?_
  obtain ⟨x1, hx1, hp⟩ := bnd_some hp
  refine c_region ?_
  refine l_s (.int .i64 d0) (by kernel_rfl) ?_
  refine l_q rfl (qs_idxAP Try.underlying185 (by kernel_rfl) (sz := 2) (by kernel_rfl) rfl rfl (idx_some hx1).1 (idx_lt hx1 rfl)) ?_
  refine l_q rfl (qs_ldAP (D0 := D) (cs := [.int .i64 1, .int .i64 0, .int .i64 1, .int .i64 1, .int .i64 0, .int .i64 1, .int .i64 (-1), .int .i64 1, .int .i64 (-1), .int .i64 0, .int .i64 (-1), .int .i64 (-1), .int .i64 0, .int .i64 (-1), .int .i64 1, .int .i64 (-1)]) fit71 (off := 0) (xs := ([(⟨1, 0⟩ : S_api_Point), (⟨1, 1⟩ : S_api_Point), (⟨0, 1⟩ : S_api_Point), (⟨(-1), 1⟩ : S_api_Point), (⟨(-1), 0⟩ : S_api_Point), (⟨(-1), (-1)⟩ : S_api_Point), (⟨0, (-1)⟩ : S_api_Point), (⟨1, (-1)⟩ : S_api_Point)] : List S_api_Point)) rfl rfl 0 rfl ⟨rfl, rfl, rfl, rfl, rfl, rfl, rfl, rfl, trivial⟩ hx1 (v := .agg #[.int .i64 x1.X, .int .i64 x1.Y]) (fun cs hcs => by rw [show cs = _ from hcs]; rfl)) ?_
  refine l_perm (fr1_perm 1 _) ?_
  refine l_store (dd := none) (vs := [.int .i64 x1.X, .int .i64 x1.Y]) (cs' := [.int .i64 x1.X, .int .i64 x1.Y]) rfl (by kernel_rfl) (by kernel_rfl) rfl rfl (Nat.le_of_ble_eq_true rfl) rfl rfl ?_
  refine l_nil ?_
  refine e_perm (fr1_perm 1 _) ?_
  refine e_drop ?_
  refine e_then ?_
  refine c_ret ?_
  obtain rfl := Option.some.inj hp
  exact post_all (vs := [.agg #[.int .i64 x1.X, .int .i64 x1.Y]]) (.agg #[.int .i64 x1.X, .int .i64 x1.Y]) ⟨⟨_, 0, _, _, 2, by decide, rfl, rfl, .inr ⟨fitv71, rfl, rfl⟩⟩, trivial⟩ rfl (.inl rfl) (fun w hS => ⟨rfl, hS.tail⟩)

-- tarnfell/water.Direction
set_option maxRecDepth 100000 in
set_option maxHeartbeats 4000000 in
theorem water_Direction_s (a0 : S_api_Point) (b0 : S_api_Point) (D : PH)  (F : List Assert) (r : Int) (hp : water_Direction_p a0 b0 = some r) : ∀ w : World, SInv D (F) w → Calls Try.prog 107 #[.agg #[.int .i64 a0.X, .int .i64 a0.Y], .agg #[.int .i64 b0.X, .int .i64 b0.Y]] w (fun e w' => e = .returned (.int .i64 r) ∧ SInv D (F) w') := by
  intro w hS
  refine call_intro Try.func107 rfl Try.ntmps107 (Nat.le_of_ble_eq_true rfl) hS ?_
  clear hS w
  unfold water_Direction_p at hp
  refine c_seq ?_
  refine c_region ?_
  refine l_box (cs := [.int .i64 a0.X, .int .i64 a0.Y]) rfl rfl (fun b3 => ?_)
  refine l_box (cs := [.int .i64 b0.X, .int .i64 b0.Y]) rfl rfl (fun b4 => ?_)
  refine l_s (.int .i64 0) (by kernel_rfl) ?_
  refine l_nil ?_
  refine e_then ?_
  refine c_seq ?_
  refine c_seq ?_
  refine c_quiet ?_
  refine ql_s (.int .i64 0) (by kernel_rfl) ?_
  refine ql_nil ?_
  refine e_then ?_
  have hm0 : (8 : Nat) = ((8 : Int)).toNat := rfl
  have hb0 : ((8 : Int)) ≤ 4611686018427387904 := by decide
  have hm1 := hm0; have hb1 := hb0; clear hm0 hb0
  obtain ⟨x1, hs1, hp⟩ := bnd_some hp
  obtain ⟨body1, hbody1, hs1⟩ := forI_gen hs1
  refine c_cut_end (fun φ1 D1 As1 => ∃ (s1 : Unit), x1 = .go s1 ∧ Is φ1 [] ∧ PH.le D D1 ∧ As1 = pt b4 [.int .i64 b0.X, .int .i64 b0.Y] 71 :: pt b3 [.int .i64 a0.X, .int .i64 a0.Y] 71 :: F) ?_ ?_
  · skip
    refine c_block ?_
    refine c_perm (fr1_perm 1 _) ?_
    refine c_perm (fr1_perm 1 _) ?_
    refine c_loop (fun k φ1 D2 As1 => ∃ (j1 i1 : Nat) (s2 : Unit), k = j1 + 1 ∧ i1 + j1 = 8 ∧ Is φ1 [(2, .pointer (some ⟨b3, 0, none⟩)), (3, .pointer (some ⟨b4, 0, none⟩)), (7, .int .i64 (i1 : Int))] ∧ PH.le D D2 ∧ As1 = pt b4 [.int .i64 b0.X, .int .i64 b0.Y] 71 :: pt b3 [.int .i64 a0.X, .int .i64 a0.Y] 71 :: F ∧ forI body1 j1 i1 s2 = some x1) ⟨8 + 1, 8, 0, (), rfl, Nat.zero_add _, ⟨rfl, rfl, rfl, trivial⟩, (PH.le_refl _), rfl, hs1⟩ ?_ ?_
    · rintro _ _ _ ⟨_, _, _, h0, _⟩; omega
    intro k1
    rintro φ1 D2 As1 ⟨j1, i1, s2, hk1, hij1, hI1, hD1, hA1, hs2⟩
    subst As1
    refine c_frame _ hI1 ?_
    obtain rfl : k1 = j1 := by omega
    clear hk1
    rcases k1 with _ | j1
    · skip
      refine c_seq ?_
      refine c_quiet ?_
      refine ql_s (.bool (decide ((i1 : Int) < 8))) (by kernel_rfl) ?_
      refine ql_nil ?_
      refine e_then ?_
      refine c_seq ?_
      refine c_cond (decide ((i1 : Int) < 8)) rfl (fun ht1 => absurd ((dec_lt_f hm1 (by omega)).symm.trans ht1) (by simp)) (fun _ => ?_)
      refine c_exit ?_
      refine e_then_exit ?_
      refine e_then_exit ?_
      obtain rfl := Option.some.inj hs2
      refine e_blk_exit ?_
      refine e_perm (fr1_perm 1 _) ?_
      refine e_perm (fr1_perm 1 _) ?_
      exact e_cut ⟨(), rfl, trivial, hD1, rfl⟩
    · skip
      obtain ⟨y1, hx1, hs2⟩ := forI_some hs2
      replace hx1 := (congrFun (congrFun hbody1 i1) s2).trans hx1
      refine c_seq ?_
      refine c_quiet ?_
      refine ql_s (.bool (decide ((i1 : Int) < 8))) (by kernel_rfl) ?_
      refine ql_nil ?_
      refine e_then ?_
      refine c_seq ?_
      refine c_cond (decide ((i1 : Int) < 8)) rfl (fun _ => ?_) (fun ht2 => absurd ((dec_lt_t hm1 (by omega)).symm.trans ht2) (by simp))
      refine c_skip ?_
      refine e_then ?_
      refine c_seq ?_
      refine c_block ?_
      refine c_seq ?_
      refine c_quiet ?_
      refine ql_s (.int .i64 (i1 : Int)) (by kernel_rfl) ?_
      refine ql_s (.int .i64 (i1 : Int)) (by kernel_rfl) ?_
      refine ql_nil ?_
      refine e_then ?_
      refine c_seq ?_
      obtain ⟨r1, hr1, hx1⟩ := bnd_some hx1
      refine c_region ?_
      refine l_s (.int .i64 (i1 : Int)) (by kernel_rfl) ?_
      refine l_callq (v := .agg #[.int .i64 r1.X, .int .i64 r1.Y]) rfl rfl Try.call122 (vs := [.int .i64 (i1 : Int)]) rfl (fun w hS => (water_Toward_s (i1 : Int) _  _ _ hr1 w (hS)).mono fun e w' h => ⟨h.1, h.2⟩) ?_
      refine l_alloc (zs := [.int .i64 0, .int .i64 0]) rfl (by kernel_rfl) (fun b6 => ?_)
      refine l_store (dd := none) (vs := [.int .i64 r1.X, .int .i64 r1.Y]) (cs' := [.int .i64 r1.X, .int .i64 r1.Y]) rfl (by kernel_rfl) (by kernel_rfl) rfl rfl (Nat.le_of_ble_eq_true rfl) rfl rfl ?_
      refine l_nil ?_
      refine e_then ?_
      refine c_seq ?_
      refine c_cutq_end [(2, .pointer (some ⟨b3, 0, none⟩)), (3, .pointer (some ⟨b4, 0, none⟩)), (5, .int .i64 (i1 : Int)), (7, .int .i64 (i1 : Int)), (29, .bool (((addI a0.X r1.X) == b0.X) && ((addI a0.Y r1.Y) == b0.Y)))] ?_ ?_
      · skip
        refine c_quiet ?_
        refine ql_s (.pointer (some ⟨b3, 0, none⟩)) (by kernel_rfl) ?_
        refine ql_q rfl (qs_ldpt encV fitv3 rfl 2 rfl (.int .i64 a0.X) (Nat.le_of_ble_eq_true rfl) rfl) ?_
        refine ql_s (.pointer (some ⟨b6, 0, none⟩)) (by kernel_rfl) ?_
        refine ql_q rfl (qs_ldpt encV fitv3 rfl 0 rfl (.int .i64 r1.X) (Nat.le_of_ble_eq_true rfl) rfl) ?_
        refine ql_s (.int .i64 (addI a0.X r1.X)) (by kernel_rfl) ?_
        refine ql_s (.pointer (some ⟨b4, 0, none⟩)) (by kernel_rfl) ?_
        refine ql_q rfl (qs_ldpt encV fitv3 rfl 1 rfl (.int .i64 b0.X) (Nat.le_of_ble_eq_true rfl) rfl) ?_
        refine ql_s (.bool ((addI a0.X r1.X) == b0.X)) (by kernel_rfl) ?_
        refine ql_s (.bool ((addI a0.X r1.X) == b0.X)) (by kernel_rfl) ?_
        refine ql_case 20 (((addI a0.X r1.X) == b0.X)) rfl (fun hg1 => ?_) (fun hg1 => ?_)
        · skip
          refine ql_s (.pointer (some ⟨b3, 1, none⟩)) (by kernel_rfl) ?_
          refine ql_q rfl (qs_ldpt encV fitv3 rfl 2 rfl (.int .i64 a0.Y) (Nat.le_of_ble_eq_true rfl) rfl) ?_
          refine ql_s (.pointer (some ⟨b6, 1, none⟩)) (by kernel_rfl) ?_
          refine ql_q rfl (qs_ldpt encV fitv3 rfl 0 rfl (.int .i64 r1.Y) (Nat.le_of_ble_eq_true rfl) rfl) ?_
          refine ql_s (.int .i64 (addI a0.Y r1.Y)) (by kernel_rfl) ?_
          refine ql_s (.pointer (some ⟨b4, 1, none⟩)) (by kernel_rfl) ?_
          refine ql_q rfl (qs_ldpt encV fitv3 rfl 1 rfl (.int .i64 b0.Y) (Nat.le_of_ble_eq_true rfl) rfl) ?_
          refine ql_s (.bool ((addI a0.Y r1.Y) == b0.Y)) (by kernel_rfl) ?_
          refine ql_s (.bool ((addI a0.Y r1.Y) == b0.Y)) (by kernel_rfl) ?_
          refine ql_nil (e_cutq ?_)
          exact ⟨rfl, rfl, rfl, rfl, (congrArg Value.bool (by first | rfl | (rw [hg1]; rfl) | simp [hg1])), trivial⟩
        · skip
          refine ql_s undef (by kernel_rfl) ?_
          refine ql_s undef (by kernel_rfl) ?_
          refine ql_s undef (by kernel_rfl) ?_
          refine ql_s undef (by kernel_rfl) ?_
          refine ql_s undef (by kernel_rfl) ?_
          refine ql_s undef (by kernel_rfl) ?_
          refine ql_s undef (by kernel_rfl) ?_
          refine ql_s undef (by kernel_rfl) ?_
          refine ql_s (.bool false) (by kernel_rfl) ?_
          refine ql_nil (e_cutq ?_)
          exact ⟨rfl, rfl, rfl, rfl, (congrArg Value.bool (by first | rfl | (rw [hg1]; rfl) | simp [hg1])), trivial⟩
      intro _
      refine e_then ?_
      refine c_cond ((((addI a0.X r1.X) == b0.X) && ((addI a0.Y r1.Y) == b0.Y))) rfl (fun ht3 => ?_) (fun ht3 => ?_)
      · skip
        replace hx1 := if_t ht3 hx1
        refine c_seq ?_
        refine c_quiet ?_
        refine ql_s (.int .i64 (i1 : Int)) (by kernel_rfl) ?_
        refine ql_s (.int .i64 (i1 : Int)) (by kernel_rfl) ?_
        refine ql_nil ?_
        refine e_drop ?_
        refine e_drop ?_
        refine e_drop ?_
        refine e_then ?_
        refine c_ret ?_
        refine e_blk_ret ?_
        refine e_then_ret ?_
        refine e_then_ret ?_
        obtain rfl := Option.some.inj hx1
        obtain rfl := hs2
        refine e_blk_ret ?_
        refine e_then_ret ?_
        dsimp only at hp
        refine e_then_ret ?_
        obtain rfl := Option.some.inj hp
        exact post_all (vs := [.int .i64 (i1 : Int)]) (.int .i64 (i1 : Int)) ⟨rfl, trivial⟩ rfl (.inl rfl) (fun w hS => ⟨rfl, (hS.lower hD1)⟩)
      · skip
        replace hx1 := if_f ht3 hx1
        refine c_skip ?_
        refine e_blk ?_
        refine e_then ?_
        refine c_quiet ?_
        refine ql_s (.int .i64 (addI (i1 : Int) 1)) (by kernel_rfl) ?_
        refine ql_s (.int .i64 (addI (i1 : Int) 1)) (by kernel_rfl) ?_
        refine ql_nil ?_
        refine e_drop ?_
        refine e_perm (fr1_perm 1 _) ?_
        refine e_perm (fr1_perm 1 _) ?_
        obtain rfl := Option.some.inj hx1
        exact e_cut ⟨j1, i1 + 1, (), by omega, by omega, ⟨rfl, rfl, (congrArg (Value.int .i64) (addI_succ (by omega))), trivial⟩, hD1, rfl, hs2⟩
  · skip
    rintro φ2 D1 As2 ⟨s1, rfl, hI2, hD2, hA2⟩
    subst As2
    dsimp only at hp
    refine e_frame _ hI2 ?_
    refine e_then ?_
    refine c_seq ?_
    refine c_quiet ?_
    refine ql_s (.int .i64 (-1)) (by kernel_rfl) ?_
    refine ql_nil ?_
    refine e_drop ?_
    refine e_drop ?_
    refine e_then ?_
    refine c_ret ?_
    obtain rfl := Option.some.inj hp
    exact post_all (vs := [.int .i64 (-1)]) (.int .i64 (-1)) ⟨rfl, trivial⟩ rfl (.inl rfl) (fun w hS => ⟨rfl, (hS.lower hD2)⟩)

-- tarnfell/road.Between
set_option maxRecDepth 100000 in
set_option maxHeartbeats 4000000 in
theorem road_Between_s (a0 : S_api_Point) (b0 : S_api_Point) (D : PH)  (F : List Assert) (r : Int × Int) (hp : road_Between_p a0 b0 = some r) : ∀ w : World, SInv D (F) w → Calls Try.prog 86 #[.agg #[.int .i64 a0.X, .int .i64 a0.Y], .agg #[.int .i64 b0.X, .int .i64 b0.Y]] w (fun e w' => e = .returned (.tuple #[.int .i64 r.1, .int .i64 r.2]) ∧ SInv D (F) w') := by
  intro w hS
  refine call_intro Try.func86 rfl Try.ntmps86 (Nat.le_of_ble_eq_true rfl) hS ?_
  clear hS w
  unfold road_Between_p at hp
  refine c_seq ?_
  refine c_region ?_
  refine l_box (cs := [.int .i64 a0.X, .int .i64 a0.Y]) rfl rfl (fun b3 => ?_)
  refine l_box (cs := [.int .i64 b0.X, .int .i64 b0.Y]) rfl rfl (fun b4 => ?_)
  refine l_s (.int .i64 0) (by kernel_rfl) ?_
  refine l_s (.int .i64 0) (by kernel_rfl) ?_
  refine l_nil ?_
  refine e_then ?_
  refine c_seq ?_
  refine c_quiet_draw hmix (by kernel_rfl) ?_
  refine ql_s (.pointer (some ⟨b4, 0, none⟩)) (by kernel_rfl) ?_
  refine ql_q rfl (qs_ldpt encV fitv3 rfl 0 rfl (.int .i64 b0.X) (Nat.le_of_ble_eq_true rfl) rfl) ?_
  refine ql_s (.pointer (some ⟨b3, 0, none⟩)) (by kernel_rfl) ?_
  refine ql_q rfl (qs_ldpt encV fitv3 rfl 1 rfl (.int .i64 a0.X) (Nat.le_of_ble_eq_true rfl) rfl) ?_
  refine ql_s (.int .i64 (subI b0.X a0.X)) (by kernel_rfl) ?_
  refine ql_s (.pointer (some ⟨b4, 1, none⟩)) (by kernel_rfl) ?_
  refine ql_q rfl (qs_ldpt encV fitv3 rfl 0 rfl (.int .i64 b0.Y) (Nat.le_of_ble_eq_true rfl) rfl) ?_
  refine ql_s (.pointer (some ⟨b3, 1, none⟩)) (by kernel_rfl) ?_
  refine ql_q rfl (qs_ldpt encV fitv3 rfl 1 rfl (.int .i64 a0.Y) (Nat.le_of_ble_eq_true rfl) rfl) ?_
  refine ql_s (.int .i64 (subI b0.Y a0.Y)) (by kernel_rfl) ?_
  refine ql_s (.int .i64 (subI b0.X a0.X)) (by kernel_rfl) ?_
  refine ql_s (.int .i64 (subI b0.Y a0.Y)) (by kernel_rfl) ?_
  refine ql_nil ?_
  refine e_drop ?_
  refine e_drop ?_
  refine e_then ?_
  refine c_seq ?_
  obtain ⟨n_1, hn_1, hp⟩ := bnd_some hp
  replace hn_1 := Option.some.inj hn_1
  refine c_quiet ?_
  refine ql_s (.int .i64 (subI b0.X a0.X)) (by kernel_rfl) ?_
  refine ql_s (.int .i64 (subI b0.X a0.X)) (by kernel_rfl) ?_
  refine ql_s (.int .i64 (subI 0 (subI b0.X a0.X))) (by kernel_rfl) ?_
  refine ql_s (.int .i64 (subI b0.Y a0.Y)) (by kernel_rfl) ?_
  refine ql_s (.int .i64 (subI b0.Y a0.Y)) (by kernel_rfl) ?_
  refine ql_s (.int .i64 (subI 0 (subI b0.Y a0.Y))) (by kernel_rfl) ?_
  refine ql_q rfl (qs_max rfl) ?_
  refine ql_s (.int .i64 n_1) (congrArg (fun z => some (Value.int .i64 z)) hn_1) ?_
  refine ql_nil ?_
  refine e_then ?_
  refine c_seq ?_
  refine c_seq ?_
  refine c_cutq_end [(5, .int .i64 n_1), (6, .int .i64 (subI b0.X a0.X)), (7, .int .i64 (subI b0.Y a0.Y)), (45, .bool ((n_1 == 0) || (((subI b0.X a0.X) != 0) && (((subI b0.Y a0.Y) != 0) && (((subI b0.X a0.X) != (subI b0.Y a0.Y)) && ((subI b0.X a0.X) != (subI 0 (subI b0.Y a0.Y))))))))] ?_ ?_
  · skip
    refine c_quiet ?_
    refine ql_s (.int .i64 n_1) (by kernel_rfl) ?_
    refine ql_s (.bool (n_1 == 0)) (by kernel_rfl) ?_
    refine ql_s (.bool (n_1 == 0)) (by kernel_rfl) ?_
    refine ql_case 27 ((n_1 == 0)) rfl (fun hg1 => ?_) (fun hg1 => ?_)
    · skip
      refine ql_s undef (by kernel_rfl) ?_
      refine ql_s undef (by kernel_rfl) ?_
      refine ql_s undef (by kernel_rfl) ?_
      refine ql_s undef (by kernel_rfl) ?_
      refine ql_s undef (by kernel_rfl) ?_
      refine ql_s undef (by kernel_rfl) ?_
      refine ql_s undef (by kernel_rfl) ?_
      refine ql_s undef (by kernel_rfl) ?_
      refine ql_s undef (by kernel_rfl) ?_
      refine ql_s undef (by kernel_rfl) ?_
      refine ql_s undef (by kernel_rfl) ?_
      refine ql_s undef (by kernel_rfl) ?_
      refine ql_s undef (by kernel_rfl) ?_
      refine ql_s undef (by kernel_rfl) ?_
      refine ql_s undef (by kernel_rfl) ?_
      refine ql_s undef (by kernel_rfl) ?_
      refine ql_s undef (by kernel_rfl) ?_
      refine ql_s (.bool true) (by kernel_rfl) ?_
      refine ql_nil (e_cutq ?_)
      exact ⟨rfl, rfl, rfl, (congrArg Value.bool (by first | rfl | (rw [hg1]; rfl) | simp [hg1])), trivial⟩
    · skip
      refine ql_s (.int .i64 (subI b0.X a0.X)) (by kernel_rfl) ?_
      refine ql_s (.bool ((subI b0.X a0.X) != 0)) (by kernel_rfl) ?_
      refine ql_s (.bool ((subI b0.X a0.X) != 0)) (by kernel_rfl) ?_
      refine ql_case 30 (((subI b0.X a0.X) != 0)) rfl (fun hg2 => ?_) (fun hg2 => ?_)
      · skip
        refine ql_s (.int .i64 (subI b0.Y a0.Y)) (by kernel_rfl) ?_
        refine ql_s (.bool ((subI b0.Y a0.Y) != 0)) (by kernel_rfl) ?_
        refine ql_s (.bool ((subI b0.Y a0.Y) != 0)) (by kernel_rfl) ?_
        refine ql_s (.bool ((subI b0.Y a0.Y) != 0)) (by kernel_rfl) ?_
        refine ql_case 34 (((subI b0.Y a0.Y) != 0)) rfl (fun hg3 => ?_) (fun hg3 => ?_)
        · skip
          refine ql_s (.int .i64 (subI b0.X a0.X)) (by kernel_rfl) ?_
          refine ql_s (.int .i64 (subI b0.Y a0.Y)) (by kernel_rfl) ?_
          refine ql_s (.bool ((subI b0.X a0.X) != (subI b0.Y a0.Y))) (by kernel_rfl) ?_
          refine ql_s (.bool ((subI b0.X a0.X) != (subI b0.Y a0.Y))) (by kernel_rfl) ?_
          refine ql_s (.bool ((subI b0.X a0.X) != (subI b0.Y a0.Y))) (by kernel_rfl) ?_
          refine ql_case 39 (((subI b0.X a0.X) != (subI b0.Y a0.Y))) rfl (fun hg4 => ?_) (fun hg4 => ?_)
          · skip
            refine ql_s (.int .i64 (subI b0.X a0.X)) (by kernel_rfl) ?_
            refine ql_s (.int .i64 (subI b0.Y a0.Y)) (by kernel_rfl) ?_
            refine ql_s (.int .i64 (subI 0 (subI b0.Y a0.Y))) (by kernel_rfl) ?_
            refine ql_s (.bool ((subI b0.X a0.X) != (subI 0 (subI b0.Y a0.Y)))) (by kernel_rfl) ?_
            refine ql_s (.bool ((subI b0.X a0.X) != (subI 0 (subI b0.Y a0.Y)))) (by kernel_rfl) ?_
            refine ql_s (.bool ((subI b0.X a0.X) != (subI 0 (subI b0.Y a0.Y)))) (by kernel_rfl) ?_
            refine ql_nil (e_cutq ?_)
            exact ⟨rfl, rfl, rfl, (congrArg Value.bool (by first | rfl | (rw [hg1, hg2, hg3, hg4]; rfl) | simp [hg1, hg2, hg3, hg4])), trivial⟩
          · skip
            refine ql_s undef (by kernel_rfl) ?_
            refine ql_s undef (by kernel_rfl) ?_
            refine ql_s undef (by kernel_rfl) ?_
            refine ql_s undef (by kernel_rfl) ?_
            refine ql_s (.bool false) (by kernel_rfl) ?_
            refine ql_s (.bool false) (by kernel_rfl) ?_
            refine ql_nil (e_cutq ?_)
            exact ⟨rfl, rfl, rfl, (congrArg Value.bool (by first | rfl | (rw [hg1, hg2, hg3, hg4]; rfl) | simp [hg1, hg2, hg3, hg4])), trivial⟩
        · skip
          refine ql_s undef (by kernel_rfl) ?_
          refine ql_s undef (by kernel_rfl) ?_
          refine ql_s undef (by kernel_rfl) ?_
          refine ql_s (.bool false) (by kernel_rfl) ?_
          refine ql_s (.bool false) (by kernel_rfl) ?_
          refine ql_s undef (by kernel_rfl) ?_
          refine ql_s undef (by kernel_rfl) ?_
          refine ql_s undef (by kernel_rfl) ?_
          refine ql_s undef (by kernel_rfl) ?_
          refine ql_s (.bool false) (by kernel_rfl) ?_
          refine ql_s (.bool false) (by kernel_rfl) ?_
          refine ql_nil (e_cutq ?_)
          exact ⟨rfl, rfl, rfl, (congrArg Value.bool (by first | rfl | (rw [hg1, hg2, hg3]; rfl) | simp [hg1, hg2, hg3])), trivial⟩
      · skip
        refine ql_s undef (by kernel_rfl) ?_
        refine ql_s undef (by kernel_rfl) ?_
        refine ql_s (.bool false) (by kernel_rfl) ?_
        refine ql_s (.bool false) (by kernel_rfl) ?_
        refine ql_s undef (by kernel_rfl) ?_
        refine ql_s undef (by kernel_rfl) ?_
        refine ql_s undef (by kernel_rfl) ?_
        refine ql_s (.bool false) (by kernel_rfl) ?_
        refine ql_s (.bool false) (by kernel_rfl) ?_
        refine ql_s undef (by kernel_rfl) ?_
        refine ql_s undef (by kernel_rfl) ?_
        refine ql_s undef (by kernel_rfl) ?_
        refine ql_s undef (by kernel_rfl) ?_
        refine ql_s (.bool false) (by kernel_rfl) ?_
        refine ql_s (.bool false) (by kernel_rfl) ?_
        refine ql_nil (e_cutq ?_)
        exact ⟨rfl, rfl, rfl, (congrArg Value.bool (by first | rfl | (rw [hg1, hg2]; rfl) | simp [hg1, hg2])), trivial⟩
  intro _
  refine e_then ?_
  refine c_cond (((n_1 == 0) || (((subI b0.X a0.X) != 0) && (((subI b0.Y a0.Y) != 0) && (((subI b0.X a0.X) != (subI b0.Y a0.Y)) && ((subI b0.X a0.X) != (subI 0 (subI b0.Y a0.Y)))))))) rfl (fun ht1 => ?_) (fun ht1 => ?_)
  · skip
    replace hp := if_t ht1 hp
    refine c_seq ?_
    refine c_quiet ?_
    refine ql_s (.int .i64 (-1)) (by kernel_rfl) ?_
    refine ql_s (.int .i64 0) (by kernel_rfl) ?_
    refine ql_nil ?_
    refine e_then ?_
    refine c_ret ?_
    refine e_then_ret ?_
    obtain rfl := Option.some.inj hp
    exact post_all (vs := [.int .i64 (-1), .int .i64 0]) (.tuple #[.int .i64 (-1), .int .i64 0]) ⟨rfl, rfl, trivial⟩ rfl (.inl rfl) (fun w hS => ⟨rfl, hS⟩)
  · skip
    replace hp := if_f ht1 hp
    refine c_skip ?_
    refine e_then ?_
    refine c_seq ?_
    obtain ⟨u1, hu1, hp⟩ := bnd_some hp
    replace hu1 := guardP_some hu1
    obtain ⟨r1, hr1, hp⟩ := bnd_some hp
    refine c_quiet_draw hmix (by kernel_rfl) ?_
    refine ql_s (.agg #[.int .i64 0, .int .i64 0]) (by kernel_rfl) ?_
    refine ql_s (.int .i64 (subI b0.X a0.X)) (by kernel_rfl) ?_
    refine ql_s (.int .i64 n_1) (by kernel_rfl) ?_
    refine ql_q rfl (qs_idiv (r := quoI (subI b0.X a0.X) n_1) (by simpa using hu1) rfl rfl rfl) ?_
    refine ql_s (.int .i64 (subI b0.Y a0.Y)) (by kernel_rfl) ?_
    refine ql_s (.int .i64 n_1) (by kernel_rfl) ?_
    refine ql_q rfl (qs_idiv (r := quoI (subI b0.Y a0.Y) n_1) (by simpa using hu1) rfl rfl rfl) ?_
    refine ql_s (.agg #[.int .i64 (quoI (subI b0.X a0.X) n_1), .int .i64 (quoI (subI b0.Y a0.Y) n_1)]) (by kernel_rfl) ?_
    refine ql_call (v := .int .i64 r1) rfl (run_call (vs := [.agg #[.int .i64 0, .int .i64 0], .agg #[.int .i64 (quoI (subI b0.X a0.X) n_1), .int .i64 (quoI (subI b0.Y a0.Y) n_1)]]) rfl Try.call107 rfl) (fun w hS => (water_Direction_s (⟨0, 0⟩ : S_api_Point) (⟨quoI (subI b0.X a0.X) n_1, quoI (subI b0.Y a0.Y) n_1⟩ : S_api_Point) _  _ _ hr1 w (hS)).mono fun e w' h => ⟨h.1, h.2⟩) ?_
    refine ql_s (.int .i64 n_1) (by kernel_rfl) ?_
    refine ql_s (.int .i64 r1) (by kernel_rfl) ?_
    refine ql_s (.int .i64 n_1) (by kernel_rfl) ?_
    refine ql_nil ?_
    refine e_then ?_
    refine c_ret ?_
    obtain rfl := Option.some.inj hp
    exact post_all (vs := [.int .i64 r1, .int .i64 n_1]) (.tuple #[.int .i64 r1, .int .i64 n_1]) ⟨rfl, rfl, trivial⟩ rfl (.inl rfl) (fun w hS => ⟨rfl, hS⟩)

-- tarnfell/road.checkWay
set_option maxRecDepth 100000 in
set_option maxHeartbeats 4000000 in
theorem road_checkWay_s (way0 : List S_api_Point) (way0_v1a : Option Addr) (way0_v1c : Nat) (b_place0_c0 : Nat) (place0_c0 : S_api_Field) (place0_c0_v1a : Option Addr) (place0_c0_v1c : Nat) (D : PH) (way0_h1 : RO encS_api_Point D (.slice way0_v1a way0.length way0_v1c) way0) (place0_c0_h1 : RO (encF .f32) D (.slice place0_c0_v1a place0_c0.V.length place0_c0_v1c) place0_c0.V) (F : List Assert) (r : Int) (hp : road_checkWay_p way0 place0_c0 = some r) : ∀ w : World, SInv D (pt b_place0_c0 [.int .i64 place0_c0.Region.X, .int .i64 place0_c0.Region.Y, .int .i64 place0_c0.Region.W, .int .i64 place0_c0.Region.H, .slice place0_c0_v1a place0_c0.V.length place0_c0_v1c] 26 :: F) w → Calls Try.prog 76 #[.slice way0_v1a way0.length way0_v1c, .func (.func 77) #[] #[.pointer (some ⟨b_place0_c0, 0, none⟩)]] w (fun e w' => e = .returned (.int .i64 r) ∧ SInv D (pt b_place0_c0 [.int .i64 place0_c0.Region.X, .int .i64 place0_c0.Region.Y, .int .i64 place0_c0.Region.W, .int .i64 place0_c0.Region.H, .slice place0_c0_v1a place0_c0.V.length place0_c0_v1c] 26 :: F) w') := by
  intro w hS
  refine call_intro Try.func76 rfl Try.ntmps76 (Nat.le_of_ble_eq_true rfl) hS ?_
  clear hS w
  unfold road_checkWay_p at hp
  refine c_seq ?_
  refine c_quiet ?_
  refine ql_s (.int .i64 0) (by kernel_rfl) ?_
  refine ql_nil ?_
  refine e_then ?_
  refine c_seq ?_
  refine c_seq ?_
  obtain ⟨r1, hr1, hp⟩ := bnd_some hp
  refine c_quiet ?_
  refine ql_s (.slice way0_v1a way0.length way0_v1c) (by kernel_rfl) ?_
  refine ql_call (v := .int .i64 r1) rfl (run_call (vs := [.slice way0_v1a way0.length way0_v1c]) rfl Try.call104 rfl) (fun w hS => (road_amount_s way0 way0_v1a way0_v1c _ way0_h1 _ _ hr1 w (hS)).mono fun e w' h => ⟨h.1, h.2⟩) ?_
  refine ql_s (.int .i64 r1) (by kernel_rfl) ?_
  refine ql_nil ?_
  refine e_then ?_
  refine c_seq ?_
  refine c_quiet ?_
  refine ql_s (.int .i64 r1) (by kernel_rfl) ?_
  refine ql_s (.bool (r1 != 0)) (by kernel_rfl) ?_
  refine ql_nil ?_
  refine e_then ?_
  refine c_cond ((r1 != 0)) rfl (fun ht1 => ?_) (fun ht1 => ?_)
  · skip
    replace hp := if_t ht1 hp
    refine c_seq ?_
    refine c_quiet ?_
    refine ql_s (.int .i64 r1) (by kernel_rfl) ?_
    refine ql_s (.int .i64 r1) (by kernel_rfl) ?_
    refine ql_nil ?_
    refine e_then ?_
    refine c_ret ?_
    refine e_then_ret ?_
    obtain rfl := Option.some.inj hp
    exact post_all (vs := [.int .i64 r1]) (.int .i64 r1) ⟨rfl, trivial⟩ rfl (.inl rfl) (fun w hS => ⟨rfl, hS⟩)
  · skip
    replace hp := if_f ht1 hp
    refine c_skip ?_
    refine e_then ?_
    refine c_seq ?_
    refine c_seq ?_
    refine c_quiet ?_
    refine ql_s (.slice way0_v1a way0.length way0_v1c) (by kernel_rfl) ?_
    refine ql_s (.int .i64 (way0.length : Int)) (by kernel_rfl) ?_
    refine ql_s (.int .i64 0) (by kernel_rfl) ?_
    refine ql_nil ?_
    refine e_then ?_
    have hb0 : (way0.length : Int) ≤ 4611686018427387904 := by have := RO.bound way0_h1; omega
    have hm0 : way0.length = (way0.length : Int).toNat := by omega
    have hm1 := hm0; have hb1 := hb0; clear hm0 hb0
    obtain ⟨x1, hs1, hp⟩ := bnd_some hp
    obtain ⟨body1, hbody1, hs1⟩ := forI_gen hs1
    refine c_cut_end (fun φ1 D1 As1 => ∃ (s1 : Unit), x1 = .go s1 ∧ Is φ1 [] ∧ PH.le D D1 ∧ As1 = pt b_place0_c0 [.int .i64 place0_c0.Region.X, .int .i64 place0_c0.Region.Y, .int .i64 place0_c0.Region.W, .int .i64 place0_c0.Region.H, .slice place0_c0_v1a place0_c0.V.length place0_c0_v1c] 26 :: F) ?_ ?_
    · skip
      refine c_block ?_
      refine c_loop (fun k φ1 D2 As1 => ∃ (j1 i1 : Nat) (s2 : Unit), k = j1 + 1 ∧ i1 + j1 = way0.length ∧ Is φ1 [(0, .slice way0_v1a way0.length way0_v1c), (1, .func (.func 77) #[] #[.pointer (some ⟨b_place0_c0, 0, none⟩)]), (16, .slice way0_v1a way0.length way0_v1c), (17, .int .i64 (way0.length : Int)), (18, .int .i64 (i1 : Int))] ∧ PH.le D D2 ∧ As1 = pt b_place0_c0 [.int .i64 place0_c0.Region.X, .int .i64 place0_c0.Region.Y, .int .i64 place0_c0.Region.W, .int .i64 place0_c0.Region.H, .slice place0_c0_v1a place0_c0.V.length place0_c0_v1c] 26 :: F ∧ forI body1 j1 i1 s2 = some x1) ⟨way0.length + 1, way0.length, 0, (), rfl, Nat.zero_add _, ⟨rfl, rfl, rfl, rfl, rfl, trivial⟩, (PH.le_refl _), rfl, hs1⟩ ?_ ?_
      · rintro _ _ _ ⟨_, _, _, h0, _⟩; omega
      intro k1
      rintro φ1 D2 As1 ⟨j1, i1, s2, hk1, hij1, hI1, hD1, hA1, hs2⟩
      subst As1
      replace way0_h1 := way0_h1.mono hD1
      replace place0_c0_h1 := place0_c0_h1.mono hD1
      refine c_frame _ hI1 ?_
      obtain rfl : k1 = j1 := by omega
      clear hk1
      rcases k1 with _ | j1
      · skip
        refine c_seq ?_
        refine c_quiet ?_
        refine ql_s (.bool (decide ((i1 : Int) < (way0.length : Int)))) (by kernel_rfl) ?_
        refine ql_nil ?_
        refine e_then ?_
        refine c_seq ?_
        refine c_cond (decide ((i1 : Int) < (way0.length : Int))) rfl (fun ht2 => absurd ((dec_lt_f hm1 (by omega)).symm.trans ht2) (by simp)) (fun _ => ?_)
        refine c_exit ?_
        refine e_then_exit ?_
        refine e_then_exit ?_
        obtain rfl := Option.some.inj hs2
        refine e_blk_exit ?_
        exact e_cut ⟨(), rfl, trivial, hD1, rfl⟩
      · skip
        obtain ⟨y1, hx1, hs2⟩ := forI_some hs2
        replace hx1 := (congrFun (congrFun hbody1 i1) s2).trans hx1
        refine c_seq ?_
        refine c_quiet ?_
        refine ql_s (.bool (decide ((i1 : Int) < (way0.length : Int)))) (by kernel_rfl) ?_
        refine ql_nil ?_
        refine e_then ?_
        refine c_seq ?_
        refine c_cond (decide ((i1 : Int) < (way0.length : Int))) rfl (fun _ => ?_) (fun ht3 => absurd ((dec_lt_t hm1 (by omega)).symm.trans ht3) (by simp))
        refine c_skip ?_
        refine e_then ?_
        refine c_seq ?_
        obtain ⟨x2, hs3, hx1⟩ := bnd_some hx1
        refine c_cut_end (fun φ1 D3 As1 => ∃ (s3 : Unit), x2 = .go s3 ∧ Is φ1 [(0, .slice way0_v1a way0.length way0_v1c), (1, .func (.func 77) #[] #[.pointer (some ⟨b_place0_c0, 0, none⟩)]), (16, .slice way0_v1a way0.length way0_v1c), (17, .int .i64 (way0.length : Int)), (18, .int .i64 (i1 : Int))] ∧ PH.le D2 D3 ∧ As1 = pt b_place0_c0 [.int .i64 place0_c0.Region.X, .int .i64 place0_c0.Region.Y, .int .i64 place0_c0.Region.W, .int .i64 place0_c0.Region.H, .slice place0_c0_v1a place0_c0.V.length place0_c0_v1c] 26 :: F) ?_ ?_
        · skip
          refine c_block ?_
          refine c_seq ?_
          obtain ⟨x3, hx2, hs3⟩ := bnd_some hs3
          obtain ⟨b1, o1, h1, hq1⟩ := RO.at way0_h1 hx2
          obtain ⟨cs1, hc1, ha1⟩ := h1.cells
          obtain rfl := hc1
          refine c_region ?_
          refine l_s (.int .i64 (i1 : Int)) (by kernel_rfl) ?_
          refine l_q rfl (qs_idx hq1 Try.underlying27 fit71 rfl rfl) ?_
          refine l_q rfl (qs_ldC fit71 rfl ha1 rfl (.agg #[.int .i64 x3.X, .int .i64 x3.Y]) rfl) ?_
          refine l_alloc (zs := [.int .i64 0, .int .i64 0]) rfl (by kernel_rfl) (fun b3 => ?_)
          refine l_s (.int .i64 (i1 : Int)) (by kernel_rfl) ?_
          refine l_store (dd := none) (vs := [.int .i64 x3.X, .int .i64 x3.Y]) (cs' := [.int .i64 x3.X, .int .i64 x3.Y]) rfl (by kernel_rfl) (by kernel_rfl) rfl rfl (Nat.le_of_ble_eq_true rfl) rfl rfl ?_
          refine l_nil ?_
          refine e_then ?_
          refine c_seq ?_
          refine c_seq ?_
          obtain ⟨r2, hr2, hs3⟩ := bnd_some hs3
          refine c_quiet ?_
          refine ql_s (.func (.func 77) #[] #[.pointer (some ⟨b_place0_c0, 0, none⟩)]) (by kernel_rfl) ?_
          refine ql_q rfl (qs_ldpt (encW 2 (by decide)) fitv71 rfl 0 rfl (.agg #[.int .i64 x3.X, .int .i64 x3.Y]) (Nat.le_of_ble_eq_true rfl) rfl) ?_
          refine ql_call (v := .int .i64 r2) rfl (run_call (vs := [.agg #[.int .i64 x3.X, .int .i64 x3.Y], .pointer (some ⟨b_place0_c0, 0, none⟩)]) rfl Try.call77 rfl) (fun w hS => (road_onField_1_s x3 b_place0_c0 place0_c0 place0_c0_v1a place0_c0_v1c _ place0_c0_h1 _ _ hr2 w (hS.perm (fr1_perm 1 _))).mono fun e w' h => ⟨h.1, SInv.unfr 1 h.2⟩) ?_
          refine ql_s (.int .i64 r2) (by kernel_rfl) ?_
          refine ql_nil ?_
          refine e_then ?_
          refine c_seq ?_
          refine c_quiet ?_
          refine ql_s (.int .i64 r2) (by kernel_rfl) ?_
          refine ql_s (.bool (r2 != 0)) (by kernel_rfl) ?_
          refine ql_nil ?_
          refine e_then ?_
          refine c_cond ((r2 != 0)) rfl (fun ht4 => ?_) (fun ht4 => ?_)
          · skip
            replace hs3 := if_t ht4 hs3
            refine c_seq ?_
            refine c_quiet ?_
            refine ql_s (.int .i64 r2) (by kernel_rfl) ?_
            refine ql_s (.int .i64 r2) (by kernel_rfl) ?_
            refine ql_nil ?_
            refine e_drop ?_
            refine e_then ?_
            refine c_ret ?_
            refine e_then_ret ?_
            refine e_blk_ret ?_
            refine e_then_ret ?_
            obtain rfl := Option.some.inj hs3
            dsimp only at hx1
            refine e_then_ret ?_
            refine e_then_ret ?_
            obtain rfl := Option.some.inj hx1
            obtain rfl := hs2
            refine e_blk_ret ?_
            refine e_then_ret ?_
            dsimp only at hp
            refine e_then_ret ?_
            obtain rfl := Option.some.inj hp
            exact post_all (vs := [.int .i64 r2]) (.int .i64 r2) ⟨rfl, trivial⟩ rfl (.inl rfl) (fun w hS => ⟨rfl, (hS.lower hD1)⟩)
          · skip
            replace hs3 := if_f ht4 hs3
            refine c_skip ?_
            refine e_then ?_
            refine c_seq ?_
            refine c_seq ?_
            refine c_quiet ?_
            refine ql_s (.int .i64 (i1 : Int)) (by kernel_rfl) ?_
            refine ql_s (.bool ((i1 : Int) == 0)) (by kernel_rfl) ?_
            refine ql_nil ?_
            refine e_then ?_
            refine c_cond (((i1 : Int) == 0)) rfl (fun ht5 => ?_) (fun ht5 => ?_)
            · skip
              replace hs3 := if_t ht5 hs3
              refine c_exit ?_
              refine e_then_exit ?_
              refine e_blk_exit ?_
              refine e_drop ?_
              obtain rfl := Option.some.inj hs3
              exact e_cut ⟨(), rfl, ⟨rfl, rfl, rfl, rfl, rfl, trivial⟩, (PH.le_refl _), rfl⟩
            · skip
              replace hs3 := if_f ht5 hs3
              refine c_skip ?_
              refine e_then ?_
              refine c_seq ?_
              obtain ⟨x4, hx3, hs3⟩ := bnd_some hs3
              obtain ⟨b4, o2, h2, hq2⟩ := RO.at way0_h1 hx3
              obtain ⟨cs2, hc2, ha2⟩ := h2.cells
              obtain rfl := hc2
              obtain ⟨r3, hr3, hs3⟩ := bnd_some hs3
              refine c_quiet_draw hmix (by kernel_rfl) ?_
              refine ql_s (.slice way0_v1a way0.length way0_v1c) (by kernel_rfl) ?_
              refine ql_s (.int .i64 (i1 : Int)) (by kernel_rfl) ?_
              refine ql_s (.int .i64 (subI (i1 : Int) 1)) (by kernel_rfl) ?_
              refine ql_q rfl (qs_idx hq2 Try.underlying27 fit71 rfl rfl) ?_
              refine ql_q rfl (qs_ldC fit71 rfl ha2 rfl (.agg #[.int .i64 x4.X, .int .i64 x4.Y]) rfl) ?_
              refine ql_q rfl (qs_ldpt (encW 2 (by decide)) fitv71 rfl 0 rfl (.agg #[.int .i64 x3.X, .int .i64 x3.Y]) (Nat.le_of_ble_eq_true rfl) rfl) ?_
              refine ql_call (v := .tuple #[.int .i64 r3.1, .int .i64 r3.2]) rfl (run_call (vs := [.agg #[.int .i64 x4.X, .int .i64 x4.Y], .agg #[.int .i64 x3.X, .int .i64 x3.Y]]) rfl Try.call86 rfl) (fun w hS => (road_Between_s x4 x3 _  _ _ hr3 w (hS)).mono fun e w' h => ⟨h.1, h.2⟩) ?_
              refine ql_s (.tuple #[.int .i64 r3.1, .int .i64 r3.2]) (by kernel_rfl) ?_
              refine ql_s (.int .i64 r3.1) (by kernel_rfl) ?_
              refine ql_s (.int .i64 r3.2) (by kernel_rfl) ?_
              refine ql_s (.int .i64 r3.1) (by kernel_rfl) ?_
              refine ql_s (.int .i64 r3.2) (by kernel_rfl) ?_
              refine ql_nil ?_
              refine e_drop ?_
              refine e_then ?_
              refine c_seq ?_
              refine c_cutq_end [(0, .slice way0_v1a way0.length way0_v1c), (1, .func (.func 77) #[] #[.pointer (some ⟨b_place0_c0, 0, none⟩)]), (16, .slice way0_v1a way0.length way0_v1c), (17, .int .i64 (way0.length : Int)), (18, .int .i64 (i1 : Int)), (46, .bool ((r3.1 == (-1)) || (decide (r3.2 > 12))))] ?_ ?_
              · skip
                refine c_quiet ?_
                refine ql_s (.int .i64 r3.1) (by kernel_rfl) ?_
                refine ql_s (.bool (r3.1 == (-1))) (by kernel_rfl) ?_
                refine ql_s (.bool (r3.1 == (-1))) (by kernel_rfl) ?_
                refine ql_case 43 ((r3.1 == (-1))) rfl (fun hg1 => ?_) (fun hg1 => ?_)
                · skip
                  refine ql_s undef (by kernel_rfl) ?_
                  refine ql_s undef (by kernel_rfl) ?_
                  refine ql_s (.bool true) (by kernel_rfl) ?_
                  refine ql_nil (e_cutq ?_)
                  exact ⟨rfl, rfl, rfl, rfl, rfl, (congrArg Value.bool (by first | rfl | (rw [hg1]; rfl) | simp [hg1])), trivial⟩
                · skip
                  refine ql_s (.int .i64 r3.2) (by kernel_rfl) ?_
                  refine ql_s (.bool (decide (r3.2 > 12))) (by kernel_rfl) ?_
                  refine ql_s (.bool (decide (r3.2 > 12))) (by kernel_rfl) ?_
                  refine ql_nil (e_cutq ?_)
                  exact ⟨rfl, rfl, rfl, rfl, rfl, (congrArg Value.bool (by first | rfl | (rw [hg1]; rfl) | simp [hg1])), trivial⟩
              intro _
              refine e_then ?_
              refine c_cond (((r3.1 == (-1)) || (decide (r3.2 > 12)))) rfl (fun ht6 => ?_) (fun ht6 => ?_)
              · skip
                replace hs3 := if_t ht6 hs3
                refine c_seq ?_
                refine c_quiet ?_
                refine ql_s (.int .i64 2) (by kernel_rfl) ?_
                refine ql_nil ?_
                refine e_then ?_
                refine c_ret ?_
                refine e_blk_ret ?_
                refine e_then_ret ?_
                obtain rfl := Option.some.inj hs3
                dsimp only at hx1
                refine e_then_ret ?_
                refine e_then_ret ?_
                obtain rfl := Option.some.inj hx1
                obtain rfl := hs2
                refine e_blk_ret ?_
                refine e_then_ret ?_
                dsimp only at hp
                refine e_then_ret ?_
                obtain rfl := Option.some.inj hp
                exact post_all (vs := [.int .i64 2]) (.int .i64 2) ⟨rfl, trivial⟩ rfl (.inl rfl) (fun w hS => ⟨rfl, (hS.lower hD1)⟩)
              · skip
                replace hs3 := if_f ht6 hs3
                refine c_skip ?_
                refine e_blk ?_
                obtain rfl := Option.some.inj hs3
                exact e_cut ⟨(), rfl, ⟨rfl, rfl, rfl, rfl, rfl, trivial⟩, (PH.le_refl _), rfl⟩
        · skip
          rintro φ2 D3 As2 ⟨s3, rfl, hI2, hD2, hA2⟩
          subst As2
          replace way0_h1 := way0_h1.mono hD2
          replace place0_c0_h1 := place0_c0_h1.mono hD2
          dsimp only at hx1
          refine e_frame _ hI2 ?_
          refine e_then ?_
          refine c_quiet ?_
          refine ql_s (.int .i64 (addI (i1 : Int) 1)) (by kernel_rfl) ?_
          refine ql_s (.int .i64 (addI (i1 : Int) 1)) (by kernel_rfl) ?_
          refine ql_nil ?_
          obtain rfl := Option.some.inj hx1
          exact e_cut ⟨j1, i1 + 1, (), by omega, by omega, ⟨rfl, rfl, rfl, rfl, (congrArg (Value.int .i64) (addI_succ (by omega))), trivial⟩, (PH.le_trans hD1 hD2), rfl, hs2⟩
    · skip
      rintro φ3 D1 As3 ⟨s1, rfl, hI3, hD3, hA3⟩
      subst As3
      replace place0_c0_h1 := place0_c0_h1.mono hD3
      dsimp only at hp
      refine e_frame _ hI3 ?_
      refine e_then ?_
      refine c_seq ?_
      refine c_quiet ?_
      refine ql_s (.int .i64 0) (by kernel_rfl) ?_
      refine ql_nil ?_
      refine e_then ?_
      refine c_ret ?_
      obtain rfl := Option.some.inj hp
      exact post_all (vs := [.int .i64 0]) (.int .i64 0) ⟨rfl, trivial⟩ rfl (.inl rfl) (fun w hS => ⟨rfl, (hS.lower hD3)⟩)

-- tarnfell/road.onField
set_option maxRecDepth 100000 in
set_option maxHeartbeats 4000000 in
theorem road_onField_s (f0 : S_api_Field) (f0_v1a : Option Addr) (f0_v1c : Nat) (way0 : List S_api_Point) (way0_v1a : Option Addr) (way0_v1c : Nat) (D : PH) (f0_h1 : RO (encF .f32) D (.slice f0_v1a f0.V.length f0_v1c) f0.V) (way0_h1 : RO encS_api_Point D (.slice way0_v1a way0.length way0_v1c) way0) (F : List Assert) (r : Int) (hp : road_onField_p f0 way0 = some r) : ∀ w : World, SInv D (F) w → Calls Try.prog 33 #[.agg #[.int .i64 f0.Region.X, .int .i64 f0.Region.Y, .int .i64 f0.Region.W, .int .i64 f0.Region.H, .slice f0_v1a f0.V.length f0_v1c], .slice way0_v1a way0.length way0_v1c] w (fun e w' => e = .returned (.int .i64 r) ∧ SInv D (F) w') := by
  intro w hS
  refine call_intro Try.func33 rfl Try.ntmps33 (Nat.le_of_ble_eq_true rfl) hS ?_
  clear hS w
  unfold road_onField_p at hp
  refine c_seq ?_
  refine c_region ?_
  refine l_box (cs := [.int .i64 f0.Region.X, .int .i64 f0.Region.Y, .int .i64 f0.Region.W, .int .i64 f0.Region.H, .slice f0_v1a f0.V.length f0_v1c]) rfl rfl (fun b2 => ?_)
  refine l_s (.int .i64 0) (by kernel_rfl) ?_
  refine l_nil ?_
  refine e_then ?_
  refine c_seq ?_
  refine c_seq ?_
  obtain ⟨r1, hr1, hp⟩ := bnd_some hp
  refine c_quiet ?_
  refine ql_q rfl (qs_ldpt (encW 5 (by decide)) fitv26 rfl 0 rfl (.agg #[.int .i64 f0.Region.X, .int .i64 f0.Region.Y, .int .i64 f0.Region.W, .int .i64 f0.Region.H, .slice f0_v1a f0.V.length f0_v1c]) (Nat.le_of_ble_eq_true rfl) rfl) ?_
  refine ql_call (v := .int .i64 r1) rfl (run_call (vs := [.agg #[.int .i64 f0.Region.X, .int .i64 f0.Region.Y, .int .i64 f0.Region.W, .int .i64 f0.Region.H, .slice f0_v1a f0.V.length f0_v1c]]) rfl Try.call75 rfl) (fun w hS => (field_Check_s f0 f0_v1a f0_v1c _ f0_h1 _ _ hr1 w (hS)).mono fun e w' h => ⟨h.1, h.2⟩) ?_
  refine ql_s (.int .i64 r1) (by kernel_rfl) ?_
  refine ql_nil ?_
  refine e_then ?_
  refine c_seq ?_
  refine c_quiet ?_
  refine ql_s (.int .i64 r1) (by kernel_rfl) ?_
  refine ql_s (.bool (r1 != 0)) (by kernel_rfl) ?_
  refine ql_nil ?_
  refine e_then ?_
  refine c_cond ((r1 != 0)) rfl (fun ht1 => ?_) (fun ht1 => ?_)
  · skip
    replace hp := if_t ht1 hp
    refine c_seq ?_
    refine c_quiet ?_
    refine ql_s (.int .i64 r1) (by kernel_rfl) ?_
    refine ql_s (.int .i64 r1) (by kernel_rfl) ?_
    refine ql_nil ?_
    refine e_drop ?_
    refine e_then ?_
    refine c_ret ?_
    refine e_then_ret ?_
    obtain rfl := Option.some.inj hp
    exact post_all (vs := [.int .i64 r1]) (.int .i64 r1) ⟨rfl, trivial⟩ rfl (.inl rfl) (fun w hS => ⟨rfl, hS⟩)
  · skip
    replace hp := if_f ht1 hp
    refine c_skip ?_
    refine e_then ?_
    refine c_seq ?_
    obtain ⟨r2, hr2, hp⟩ := bnd_some hp
    refine c_quiet ?_
    refine ql_s (.slice way0_v1a way0.length way0_v1c) (by kernel_rfl) ?_
    refine ql_s (.func (.func 77) #[] #[.pointer (some ⟨b2, 0, none⟩)]) (by kernel_rfl) ?_
    refine ql_call (v := .int .i64 r2) rfl (run_call (vs := [.slice way0_v1a way0.length way0_v1c, .func (.func 77) #[] #[.pointer (some ⟨b2, 0, none⟩)]]) rfl Try.call76 rfl) (fun w hS => (road_checkWay_s way0 way0_v1a way0_v1c b2 f0 f0_v1a f0_v1c _ way0_h1 f0_h1 _ _ hr2 w (hS)).mono fun e w' h => ⟨h.1, h.2⟩) ?_
    refine ql_s (.int .i64 r2) (by kernel_rfl) ?_
    refine ql_nil ?_
    refine e_drop ?_
    refine e_then ?_
    refine c_ret ?_
    obtain rfl := Option.some.inj hp
    exact post_all (vs := [.int .i64 r2]) (.int .i64 r2) ⟨rfl, trivial⟩ rfl (.inl rfl) (fun w hS => ⟨rfl, hS⟩)

-- tarnfell/road.heights
set_option maxRecDepth 100000 in
set_option maxHeartbeats 4000000 in
theorem road_heights_s (f0 : S_api_Field) (f0_v1a : Option Addr) (f0_v1c : Nat) (way0 : List S_api_Point) (way0_v1a : Option Addr) (way0_v1c : Nat) (D : PH) (f0_h1 : RO (encF .f32) D (.slice f0_v1a f0.V.length f0_v1c) f0.V) (way0_h1 : RO encS_api_Point D (.slice way0_v1a way0.length way0_v1c) way0) (F : List Assert) (r : (List Nat)) (hp : road_heights_p f0 way0 = some r) : ∀ w : World, SInv D (F) w → Calls Try.prog 48 #[.agg #[.int .i64 f0.Region.X, .int .i64 f0.Region.Y, .int .i64 f0.Region.W, .int .i64 f0.Region.H, .slice f0_v1a f0.V.length f0_v1c], .slice way0_v1a way0.length way0_v1c] w (fun e w' => ∃ (D1 : PH) (q_a1 : Option Addr) (q_cp1 : Nat), PH.le D D1 ∧ e = .returned (.slice q_a1 r.length q_cp1) ∧ RO (encF .f32) D1 (.slice q_a1 r.length q_cp1) r ∧ SInv D1 (F) w') := by
  intro w hS
  refine call_intro Try.func48 rfl Try.ntmps48 (Nat.le_of_ble_eq_true rfl) hS ?_
  clear hS w
  unfold road_heights_p at hp
  refine c_seq ?_
  refine c_region ?_
  refine l_box (cs := [.int .i64 f0.Region.X, .int .i64 f0.Region.Y, .int .i64 f0.Region.W, .int .i64 f0.Region.H, .slice f0_v1a f0.V.length f0_v1c]) rfl rfl (fun b2 => ?_)
  refine l_s (.slice none 0 0) (by kernel_rfl) ?_
  refine l_nil ?_
  refine e_then ?_
  refine c_seq ?_
  obtain ⟨l1, hl1, hp⟩ := bnd_some hp
  refine c_region ?_
  refine l_s (.slice way0_v1a way0.length way0_v1c) (by kernel_rfl) ?_
  refine l_s (.int .i64 (way0.length : Int)) (by kernel_rfl) ?_
  refine l_mkS (zs := [.float .f32 0]) hl1 rfl elem24 (by kernel_rfl) rfl rfl rfl (fun b4 cp2 => ?_)
  refine l_s (.slice (some ⟨b4, 0, none⟩) l1.length cp2) (by kernel_rfl) ?_
  refine l_nil ?_
  refine e_then ?_
  refine c_seq ?_
  refine c_seq ?_
  refine c_quiet ?_
  refine ql_s (.slice way0_v1a way0.length way0_v1c) (by kernel_rfl) ?_
  refine ql_s (.int .i64 (way0.length : Int)) (by kernel_rfl) ?_
  refine ql_s (.int .i64 0) (by kernel_rfl) ?_
  refine ql_nil ?_
  refine e_then ?_
  have hb0 : (way0.length : Int) ≤ 4611686018427387904 := by have := RO.bound way0_h1; omega
  have hm0 : way0.length = (way0.length : Int).toNat := by omega
  have hm1 := hm0; have hb1 := hb0; clear hm0 hb0
  obtain ⟨x1, hs1, hp⟩ := bnd_some hp
  obtain ⟨body1, hbody1, hs1⟩ := forS_gen hs1
  refine c_cut_end (fun φ1 D1 As1 => Is φ1 [(5, .slice (some ⟨b4, 0, none⟩) l1.length cp2)] ∧ PH.le D D1 ∧ As1 = OwnS D1 (encF .f32) 40 (.slice (some ⟨b4, 0, none⟩) l1.length cp2) x1 :: pt b2 [.int .i64 f0.Region.X, .int .i64 f0.Region.Y, .int .i64 f0.Region.W, .int .i64 f0.Region.H, .slice f0_v1a f0.V.length f0_v1c] 26 :: F) ?_ ?_
  · skip
    refine c_block ?_
    refine c_perm (fr1_perm 1 _) ?_
    refine c_perm (fr1_perm 1 _) ?_
    refine c_loop (fun k φ1 D2 As1 => ∃ (j1 i1 : Nat) (s1 : (List Nat)), k = j1 + 1 ∧ i1 + j1 = way0.length ∧ Is φ1 [(2, .pointer (some ⟨b2, 0, none⟩)), (5, .slice (some ⟨b4, 0, none⟩) l1.length cp2), (13, .slice way0_v1a way0.length way0_v1c), (14, .int .i64 (way0.length : Int)), (15, .int .i64 (i1 : Int))] ∧ PH.le D D2 ∧ As1 = OwnS D2 (encF .f32) 40 (.slice (some ⟨b4, 0, none⟩) l1.length cp2) s1 :: pt b2 [.int .i64 f0.Region.X, .int .i64 f0.Region.Y, .int .i64 f0.Region.W, .int .i64 f0.Region.H, .slice f0_v1a f0.V.length f0_v1c] 26 :: F ∧ forS body1 j1 i1 s1 = some x1) ⟨way0.length + 1, way0.length, 0, l1, rfl, Nat.zero_add _, ⟨rfl, rfl, rfl, rfl, rfl, trivial⟩, (PH.le_refl _), rfl, hs1⟩ ?_ ?_
    · rintro _ _ _ ⟨_, _, _, h0, _⟩; omega
    intro k1
    rintro φ1 D2 As1 ⟨j1, i1, s1, hk1, hij1, hI1, hD1, hA1, hs2⟩
    subst As1
    replace way0_h1 := way0_h1.mono hD1
    replace f0_h1 := f0_h1.mono hD1
    refine c_frame _ hI1 ?_
    obtain rfl : k1 = j1 := by omega
    clear hk1
    rcases k1 with _ | j1
    · skip
      refine c_seq ?_
      refine c_quiet ?_
      refine ql_s (.bool (decide ((i1 : Int) < (way0.length : Int)))) (by kernel_rfl) ?_
      refine ql_nil ?_
      refine e_then ?_
      refine c_seq ?_
      refine c_cond (decide ((i1 : Int) < (way0.length : Int))) rfl (fun ht1 => absurd ((dec_lt_f hm1 (by omega)).symm.trans ht1) (by simp)) (fun _ => ?_)
      refine c_exit ?_
      refine e_then_exit ?_
      refine e_then_exit ?_
      obtain rfl := Option.some.inj hs2
      refine e_blk_exit ?_
      refine e_perm (fr1_perm 1 _) ?_
      refine e_perm (fr1_perm 1 _) ?_
      exact e_cut ⟨⟨rfl, trivial⟩, hD1, rfl⟩
    · skip
      obtain ⟨y1, hx1, hs2⟩ := forS_some hs2
      replace hx1 := (congrFun (congrFun hbody1 i1) s1).trans hx1
      refine c_seq ?_
      refine c_quiet ?_
      refine ql_s (.bool (decide ((i1 : Int) < (way0.length : Int)))) (by kernel_rfl) ?_
      refine ql_nil ?_
      refine e_then ?_
      refine c_seq ?_
      refine c_cond (decide ((i1 : Int) < (way0.length : Int))) rfl (fun _ => ?_) (fun ht2 => absurd ((dec_lt_t hm1 (by omega)).symm.trans ht2) (by simp))
      refine c_skip ?_
      refine e_then ?_
      refine c_seq ?_
      refine c_block ?_
      refine c_seq ?_
      obtain ⟨x2, hx2, hx1⟩ := bnd_some hx1
      obtain ⟨b5, o1, h1, hq1⟩ := RO.at way0_h1 hx2
      obtain ⟨cs1, hc1, ha1⟩ := h1.cells
      obtain rfl := hc1
      refine c_region ?_
      refine l_s (.int .i64 (i1 : Int)) (by kernel_rfl) ?_
      refine l_q rfl (qs_idx hq1 Try.underlying27 fit71 rfl rfl) ?_
      refine l_q rfl (qs_ldC fit71 rfl ha1 rfl (.agg #[.int .i64 x2.X, .int .i64 x2.Y]) rfl) ?_
      refine l_alloc (zs := [.int .i64 0, .int .i64 0]) rfl (by kernel_rfl) (fun b7 => ?_)
      refine l_s (.int .i64 (i1 : Int)) (by kernel_rfl) ?_
      refine l_store (dd := none) (vs := [.int .i64 x2.X, .int .i64 x2.Y]) (cs' := [.int .i64 x2.X, .int .i64 x2.Y]) rfl (by kernel_rfl) (by kernel_rfl) rfl rfl (Nat.le_of_ble_eq_true rfl) rfl rfl ?_
      refine l_nil ?_
      refine e_then ?_
      refine c_seq ?_
      obtain ⟨r1, hr1, hx1⟩ := bnd_some hx1
      refine c_quiet ?_
      refine ql_s (.pointer (some ⟨b2, 0, none⟩)) (by kernel_rfl) ?_
      refine ql_q rfl (qs_ldpt (encW 4 (by decide)) fitv23 rfl 2 rfl (.agg #[.int .i64 f0.Region.X, .int .i64 f0.Region.Y, .int .i64 f0.Region.W, .int .i64 f0.Region.H]) (Nat.le_of_ble_eq_true rfl) rfl) ?_
      refine ql_s (.pointer (some ⟨b7, 0, none⟩)) (by kernel_rfl) ?_
      refine ql_q rfl (qs_ldpt encV fitv3 rfl 0 rfl (.int .i64 x2.X) (Nat.le_of_ble_eq_true rfl) rfl) ?_
      refine ql_s (.pointer (some ⟨b7, 1, none⟩)) (by kernel_rfl) ?_
      refine ql_q rfl (qs_ldpt encV fitv3 rfl 0 rfl (.int .i64 x2.Y) (Nat.le_of_ble_eq_true rfl) rfl) ?_
      refine ql_call (v := .tuple #[.int .i64 r1.1, .bool r1.2]) rfl (run_call (vs := [.agg #[.int .i64 f0.Region.X, .int .i64 f0.Region.Y, .int .i64 f0.Region.W, .int .i64 f0.Region.H], .int .i64 x2.X, .int .i64 x2.Y]) rfl Try.call73 rfl) (fun w hS => (field_Place_s f0.Region x2.X x2.Y _  _ _ hr1 w (hS)).mono fun e w' h => ⟨h.1, h.2⟩) ?_
      refine ql_s (.tuple #[.int .i64 r1.1, .bool r1.2]) (by kernel_rfl) ?_
      refine ql_s (.int .i64 r1.1) (by kernel_rfl) ?_
      refine ql_s (.bool r1.2) (by kernel_rfl) ?_
      refine ql_s (.int .i64 r1.1) (by kernel_rfl) ?_
      refine ql_s (.bool r1.2) (by kernel_rfl) ?_
      refine ql_nil ?_
      refine e_drop ?_
      refine e_then ?_
      obtain ⟨x3, hx3, hx1⟩ := bnd_some hx1
      obtain ⟨b8, o2, h2, hq2⟩ := RO.at f0_h1 hx3
      obtain ⟨x4, hx4, hx1⟩ := bnd_some hx1
      obtain ⟨l2, hl2, hx1⟩ := bnd_some hx1
      replace hl2 := Option.some.inj hl2
      refine c_adr (fun b9 hb2 hl3 hbd1 hcap1 => ?_)
      refine c_region ?_
      refine l_s (.slice (some ⟨b4, 0, none⟩) l1.length cp2) (by kernel_rfl) ?_
      refine l_s (.int .i64 (i1 : Int)) (by kernel_rfl) ?_
      refine l_s (.pointer (some ⟨b2, 4, none⟩)) (by kernel_rfl) ?_
      refine l_q rfl (qs_ldpt encV fitv24 rfl 1 rfl (.slice f0_v1a f0.V.length f0_v1c) (Nat.le_of_ble_eq_true rfl) rfl) ?_
      refine l_s (.int .i64 r1.1) (by kernel_rfl) ?_
      refine l_q rfl (qs_idx hq2 Try.underlying24 fit40 rfl rfl) ?_
      refine l_q rfl (qs_ldAtV fit40 rfl h2 valF) ?_
      refine l_q rfl (qs_idx (IsIdx.beg (e := encF .f32) hb2 hl3 hx4) Try.underlying24 fit40 rfl rfl) ?_
      refine l_stS (vs := [.float .f32 x3]) hb2 hl3 hl2 rfl fit40 rfl rfl rfl rfl (idx_some hx4).2.1 ?_
      refine l_nil ?_
      refine e_blk ?_
      refine e_then ?_
      refine c_quiet ?_
      refine ql_s (.int .i64 (addI (i1 : Int) 1)) (by kernel_rfl) ?_
      refine ql_s (.int .i64 (addI (i1 : Int) 1)) (by kernel_rfl) ?_
      refine ql_nil ?_
      refine e_perm (fr1_perm 1 _) ?_
      refine e_perm (fr1_perm 1 _) ?_
      obtain rfl := Option.some.inj hx1
      exact e_cut ⟨j1, i1 + 1, l2, by omega, by omega, ⟨rfl, rfl, rfl, rfl, (congrArg (Value.int .i64) (addI_succ (by omega))), trivial⟩, hD1, rfl, hs2⟩
  · skip
    rintro φ2 D1 As2 ⟨hI2, hD2, hA2⟩
    subst As2
    replace f0_h1 := f0_h1.mono hD2
    refine e_frame _ hI2 ?_
    refine e_then ?_
    refine c_seq ?_
    refine c_quiet ?_
    refine ql_s (.slice (some ⟨b4, 0, none⟩) l1.length cp2) (by kernel_rfl) ?_
    refine ql_s (.slice (some ⟨b4, 0, none⟩) l1.length cp2) (by kernel_rfl) ?_
    refine ql_nil ?_
    refine e_perm (fr1_perm 1 _) ?_
    refine e_drop ?_
    refine e_then ?_
    refine c_ret ?_
    refine e_adr (fun b10 hb3 hl4 hbd2 hcap2 => ?_)
    refine e_layS (PH.le_refl _) (fun D3 hle1 h3 => ?_)
    replace f0_h1 := f0_h1.mono hle1
    obtain rfl := Option.some.inj hp
    exact post_all (vs := [.slice (some ⟨b4, 0, none⟩) l1.length cp2]) (.slice (some ⟨b4, 0, none⟩) l1.length cp2) ⟨rfl, trivial⟩ rfl (.inl rfl) (fun w hS => ⟨D3, some ⟨b4, 0, none⟩, cp2, (PH.le_trans hD2 hle1), (by simp only [hl4]), (by rw [hl4]; exact h3), (by have h2 : SInv D3 (F) w := hS; simpa only [hl4] using h2)⟩)

-- tarnfell/water.StepLength
set_option maxRecDepth 100000 in
set_option maxHeartbeats 4000000 in
theorem water_StepLength_s (d0 : Int) (D : PH)  (F : List Assert) (r : Nat) (hp : water_StepLength_p d0 = some r) : ∀ w : World, SInv D (F) w → Calls Try.prog 106 #[.int .i64 d0] w (fun e w' => e = .returned (.float .f32 r) ∧ SInv D (F) w') := by
  intro w hS
  refine call_intro Try.func106 rfl Try.ntmps106 (Nat.le_of_ble_eq_true rfl) hS ?_
  clear hS w
  unfold water_StepLength_p at hp
  refine c_seq ?_
  refine c_quiet ?_
  refine ql_s (.float .f32 0) (by kernel_rfl) ?_
  refine ql_nil ?_
  refine e_then ?_
  refine c_seq ?_
  refine c_seq ?_
  refine c_quiet ?_
  refine ql_s (.int .i64 d0) (by kernel_rfl) ?_
  refine ql_q rfl (qs_idiv (r := remI d0 2) (by decide) rfl rfl rfl) ?_
  refine ql_s (.bool ((remI d0 2) == 1)) (by kernel_rfl) ?_
  refine ql_nil ?_
  refine e_then ?_
  refine c_cond (((remI d0 2) == 1)) rfl (fun ht1 => ?_) (fun ht1 => ?_)
  · skip
    replace hp := if_t ht1 hp
    refine c_seq ?_
    refine c_quiet ?_
    refine ql_s (.float .f32 1068827891) (by kernel_rfl) ?_
    refine ql_nil ?_
    refine e_then ?_
    refine c_ret ?_
    refine e_then_ret ?_
    obtain rfl := Option.some.inj hp
    exact post_all (vs := [.float .f32 1068827891]) (.float .f32 1068827891) ⟨rfl, trivial⟩ rfl (.inl rfl) (fun w hS => ⟨rfl, hS⟩)
  · skip
    replace hp := if_f ht1 hp
    refine c_skip ?_
    refine e_then ?_
    refine c_seq ?_
    refine c_quiet ?_
    refine ql_s (.float .f32 1065353216) (by kernel_rfl) ?_
    refine ql_nil ?_
    refine e_then ?_
    refine c_ret ?_
    obtain rfl := Option.some.inj hp
    exact post_all (vs := [.float .f32 1065353216]) (.float .f32 1065353216) ⟨rfl, trivial⟩ rfl (.inl rfl) (fun w hS => ⟨rfl, hS⟩)

-- tarnfell/road.length
set_option maxRecDepth 100000 in
set_option maxHeartbeats 4000000 in
theorem road_length_s (d0 : Int) (n0 : Int) (D : PH)  (F : List Assert) (r : Nat) (hp : road_length_p d0 n0 = some r) : ∀ w : World, SInv D (F) w → Calls Try.prog 85 #[.int .i64 d0, .int .i64 n0] w (fun e w' => e = .returned (.float .f32 r) ∧ SInv D (F) w') := by
  intro w hS
  refine call_intro Try.func85 rfl Try.ntmps85 (Nat.le_of_ble_eq_true rfl) hS ?_
  clear hS w
  unfold road_length_p at hp
  refine c_seq ?_
  refine c_quiet ?_
  refine ql_s (.float .f32 0) (by kernel_rfl) ?_
  refine ql_nil ?_
  refine e_then ?_
  refine c_seq ?_
  refine c_seq ?_
  refine c_quiet ?_
  refine ql_s (.int .i64 n0) (by kernel_rfl) ?_
  refine ql_s (.bool (n0 == 1)) (by kernel_rfl) ?_
  refine ql_nil ?_
  refine e_then ?_
  refine c_cond ((n0 == 1)) rfl (fun ht1 => ?_) (fun ht1 => ?_)
  · skip
    replace hp := if_t ht1 hp
    refine c_seq ?_
    obtain ⟨r1, hr1, hp⟩ := bnd_some hp
    refine c_quiet ?_
    refine ql_s (.int .i64 d0) (by kernel_rfl) ?_
    refine ql_call (v := .float .f32 r1) rfl (run_call (vs := [.int .i64 d0]) rfl Try.call106 rfl) (fun w hS => (water_StepLength_s d0 _  _ _ hr1 w (hS)).mono fun e w' h => ⟨h.1, h.2⟩) ?_
    refine ql_s (.float .f32 r1) (by kernel_rfl) ?_
    refine ql_nil ?_
    refine e_then ?_
    refine c_ret ?_
    refine e_then_ret ?_
    obtain rfl := Option.some.inj hp
    exact post_all (vs := [.float .f32 r1]) (.float .f32 r1) ⟨rfl, trivial⟩ rfl (.inl rfl) (fun w hS => ⟨rfl, hS⟩)
  · skip
    replace hp := if_f ht1 hp
    refine c_skip ?_
    refine e_then ?_
    refine c_seq ?_
    obtain ⟨r2, hr2, hp⟩ := bnd_some hp
    obtain ⟨r3, hr3, hp⟩ := bnd_some hp
    refine c_quiet ?_
    refine ql_s (.int .i64 n0) (by kernel_rfl) ?_
    refine ql_s (.float .f32 (fofI .f32 n0)) (by kernel_rfl) ?_
    refine ql_s (.int .i64 d0) (by kernel_rfl) ?_
    refine ql_call (v := .float .f32 r2) rfl (run_call (vs := [.int .i64 d0]) rfl Try.call106 rfl) (fun w hS => (water_StepLength_s d0 _  _ _ hr2 w (hS)).mono fun e w' h => ⟨h.1, h.2⟩) ?_
    refine ql_q rfl (qs_fop hr3 rfl rfl) ?_
    refine ql_s (.float .f32 r3) (by kernel_rfl) ?_
    refine ql_nil ?_
    refine e_then ?_
    refine c_ret ?_
    obtain rfl := Option.some.inj hp
    exact post_all (vs := [.float .f32 r3]) (.float .f32 r3) ⟨rfl, trivial⟩ rfl (.inl rfl) (fun w hS => ⟨rfl, hS⟩)

-- tarnfell/road.lengths
set_option maxRecDepth 100000 in
set_option maxHeartbeats 4000000 in
theorem road_lengths_s (way0 : List S_api_Point) (way0_v1a : Option Addr) (way0_v1c : Nat) (D : PH) (way0_h1 : RO encS_api_Point D (.slice way0_v1a way0.length way0_v1c) way0) (F : List Assert) (r : (List Nat)) (hp : road_lengths_p way0 = some r) : ∀ w : World, SInv D (F) w → Calls Try.prog 49 #[.slice way0_v1a way0.length way0_v1c] w (fun e w' => ∃ (D1 : PH) (q_a1 : Option Addr) (q_cp1 : Nat), PH.le D D1 ∧ e = .returned (.slice q_a1 r.length q_cp1) ∧ SInv D1 (OwnS D1 (encF .f32) 40 (.slice q_a1 r.length q_cp1) r :: F) w') := by
  intro w hS
  refine call_intro Try.func49 rfl Try.ntmps49 (Nat.le_of_ble_eq_true rfl) hS ?_
  clear hS w
  unfold road_lengths_p at hp
  refine c_seq ?_
  refine c_region ?_
  refine l_s (.slice none 0 0) (by kernel_rfl) ?_
  refine l_nilS D (encF .f32) 40 ?_
  refine l_nil ?_
  refine e_drop ?_
  refine e_then ?_
  refine c_seq ?_
  refine c_region ?_
  refine l_s (.slice none 0 0) (by kernel_rfl) ?_
  refine l_nilS D (encF .f32) 40 ?_
  refine l_nil ?_
  refine e_then ?_
  refine c_seq ?_
  refine c_seq ?_
  obtain ⟨l1, hl1, hp⟩ := bnd_some hp
  obtain ⟨a1, cp1, hv1, h1⟩ := RO.slc way0_h1 hl1
  refine c_quiet ?_
  refine ql_s (.slice way0_v1a way0.length way0_v1c) (by kernel_rfl) ?_
  refine ql_q rfl (qs_slice (e := encS_api_Point) Try.underlying27 fit71 rfl (RO.cap way0_h1).1 (RO.cap way0_h1).2 ⟨_, rfl⟩ rfl hl1 hv1) ?_
  refine ql_s (.int .i64 (l1.length : Int)) (by kernel_rfl) ?_
  refine ql_s (.int .i64 0) (by kernel_rfl) ?_
  refine ql_nil ?_
  refine e_then ?_
  have hb0 : (l1.length : Int) ≤ 4611686018427387904 := by have := RO.bound h1; omega
  have hm0 : l1.length = (l1.length : Int).toNat := by omega
  have hm1 := hm0; have hb1 := hb0; clear hm0 hb0
  obtain ⟨x1, hs1, hp⟩ := bnd_some hp
  obtain ⟨body1, hbody1, hs1⟩ := forS_gen hs1
  refine c_cut_end (fun φ1 D1 As1 => ∃ (a2 : Option Addr) (cp2 : Nat), Is φ1 [(3, .slice a2 x1.length cp2)] ∧ PH.le D D1 ∧ As1 = OwnS D1 (encF .f32) 40 (.slice a2 x1.length cp2) x1 :: F) ?_ ?_
  · skip
    refine c_block ?_
    refine c_loop (fun k φ1 D2 As1 => ∃ (j1 i1 : Nat) (s1 : (List Nat)) (a3 : Option Addr) (cp3 : Nat), k = j1 + 1 ∧ i1 + j1 = l1.length ∧ Is φ1 [(0, .slice way0_v1a way0.length way0_v1c), (3, .slice a3 s1.length cp3), (7, .slice a1 l1.length cp1), (8, .int .i64 (l1.length : Int)), (9, .int .i64 (i1 : Int))] ∧ PH.le D D2 ∧ As1 = OwnS D2 (encF .f32) 40 (.slice a3 s1.length cp3) s1 :: F ∧ forS body1 j1 i1 s1 = some x1) ⟨l1.length + 1, l1.length, 0, ([] : List Nat), none, 0, rfl, Nat.zero_add _, ⟨rfl, rfl, rfl, rfl, rfl, trivial⟩, (PH.le_refl _), rfl, hs1⟩ ?_ ?_
    · rintro _ _ _ ⟨_, _, _, _, _, h0, _⟩; omega
    intro k1
    rintro φ1 D2 As1 ⟨j1, i1, s1, a3, cp3, hk1, hij1, hI1, hD1, hA1, hs2⟩
    subst As1
    replace way0_h1 := way0_h1.mono hD1
    replace h1 := h1.mono hD1
    refine c_frame _ hI1 ?_
    obtain rfl : k1 = j1 := by omega
    clear hk1
    rcases k1 with _ | j1
    · skip
      refine c_seq ?_
      refine c_quiet ?_
      refine ql_s (.bool (decide ((i1 : Int) < (l1.length : Int)))) (by kernel_rfl) ?_
      refine ql_nil ?_
      refine e_then ?_
      refine c_seq ?_
      refine c_cond (decide ((i1 : Int) < (l1.length : Int))) rfl (fun ht1 => absurd ((dec_lt_f hm1 (by omega)).symm.trans ht1) (by simp)) (fun _ => ?_)
      refine c_exit ?_
      refine e_then_exit ?_
      refine e_then_exit ?_
      obtain rfl := Option.some.inj hs2
      refine e_blk_exit ?_
      exact e_cut ⟨a3, cp3, ⟨rfl, trivial⟩, hD1, rfl⟩
    · skip
      obtain ⟨y1, hx1, hs2⟩ := forS_some hs2
      replace hx1 := (congrFun (congrFun hbody1 i1) s1).trans hx1
      refine c_seq ?_
      refine c_quiet ?_
      refine ql_s (.bool (decide ((i1 : Int) < (l1.length : Int)))) (by kernel_rfl) ?_
      refine ql_nil ?_
      refine e_then ?_
      refine c_seq ?_
      refine c_cond (decide ((i1 : Int) < (l1.length : Int))) rfl (fun _ => ?_) (fun ht2 => absurd ((dec_lt_t hm1 (by omega)).symm.trans ht2) (by simp))
      refine c_skip ?_
      refine e_then ?_
      refine c_seq ?_
      refine c_block ?_
      refine c_seq ?_
      obtain ⟨x2, hx2, hx1⟩ := bnd_some hx1
      obtain ⟨b1, o1, h2, hq1⟩ := RO.at h1 hx2
      obtain ⟨cs1, hc1, ha1⟩ := h2.cells
      obtain rfl := hc1
      refine c_region ?_
      refine l_s (.int .i64 (i1 : Int)) (by kernel_rfl) ?_
      refine l_q rfl (qs_idx hq1 Try.underlying27 fit71 rfl rfl) ?_
      refine l_q rfl (qs_ldC fit71 rfl ha1 rfl (.agg #[.int .i64 x2.X, .int .i64 x2.Y]) rfl) ?_
      refine l_alloc (zs := [.int .i64 0, .int .i64 0]) rfl (by kernel_rfl) (fun b3 => ?_)
      refine l_s (.int .i64 (i1 : Int)) (by kernel_rfl) ?_
      refine l_store (dd := none) (vs := [.int .i64 x2.X, .int .i64 x2.Y]) (cs' := [.int .i64 x2.X, .int .i64 x2.Y]) rfl (by kernel_rfl) (by kernel_rfl) rfl rfl (Nat.le_of_ble_eq_true rfl) rfl rfl ?_
      refine l_nil ?_
      refine e_then ?_
      obtain ⟨x3, hx3, hx1⟩ := bnd_some hx1
      obtain ⟨b4, o2, h3, hq2⟩ := RO.at way0_h1 hx3
      obtain ⟨cs2, hc2, ha2⟩ := h3.cells
      obtain rfl := hc2
      obtain ⟨r1, hr1, hx1⟩ := bnd_some hx1
      obtain ⟨r2, hr2, hx1⟩ := bnd_some hx1
      obtain ⟨l2, hl2, hx1⟩ := bnd_some hx1
      refine c_order (B := [pt b3 [.int .i64 x2.X, .int .i64 x2.Y] 71]) (.q 0 (.q 1 (.q 2 (.q 3 (.q 4 (.q 5 (.q 6 (.q 7 (.q 8 (.q 9 (.e 10 (.e 11 (.q 12 .nil))))))))))))) hmix (by kernel_rfl) (NoPanic.blk (NoPanic.then (NoPanic.then (NoPanic.blk (NoPanic.then (NoPanic.then NoPanic.post)))))) ?_
      refine o_s (.slice a3 s1.length cp3) rfl (by kernel_rfl) ?_
      refine o_s (.slice way0_v1a way0.length way0_v1c) rfl (by kernel_rfl) ?_
      refine o_s (.int .i64 (i1 : Int)) rfl (by kernel_rfl) ?_
      refine o_qs rfl rfl (qs_idx hq2 Try.underlying27 fit71 rfl rfl) ?_
      refine o_qs rfl rfl (qs_ldC fit71 rfl ha2 rfl (.agg #[.int .i64 x3.X, .int .i64 x3.Y]) rfl) ?_
      refine o_qs rfl rfl (qs_ldpt (encW 2 (by decide)) fitv71 rfl 0 rfl (.agg #[.int .i64 x2.X, .int .i64 x2.Y]) (Nat.le_of_ble_eq_true rfl) rfl) ?_
      refine o_call (v := .tuple #[.int .i64 r1.1, .int .i64 r1.2]) rfl rfl (run_call (vs := [.agg #[.int .i64 x3.X, .int .i64 x3.Y], .agg #[.int .i64 x2.X, .int .i64 x2.Y]]) rfl Try.call86 rfl) (fun D' R' hD w hS => (road_Between_s x3 x2 _  _ _ hr1 w (hS)).mono fun e w' h => ⟨h.1, h.2⟩) ?_
      refine o_s (.int .i64 r1.1) rfl (by kernel_rfl) ?_
      refine o_s (.int .i64 r1.2) rfl (by kernel_rfl) ?_
      refine o_call (v := .float .f32 r2) rfl rfl (run_call (vs := [.int .i64 r1.1, .int .i64 r1.2]) rfl Try.call85 rfl) (fun D' R' hD w hS => (road_length_s r1.1 r1.2 _  _ _ hr2 w (hS)).mono fun e w' h => ⟨h.1, h.2⟩) ?_
      refine o_bslS (cs := [.float .f32 r2]) (E := 40) (e := encF .f32) ([r2] : List Nat) rfl rfl (PH.le_refl _) (by kernel_rfl) rfl rfl (Nat.le_of_ble_eq_true rfl) ⟨rfl, trivial⟩ (fun b6 cp6 => ?_)
      refine o_perm (fr1_perm 1 _) ?_
      refine o_app hl2 rfl rfl (PH.le_refl _) elem24 Try.underlying24 rfl rfl rfl (OwnS.src 2 rfl ⟨_, _, rfl⟩) (fun a5 cp7 => ?_)
      refine o_s (.slice a5 l2.length cp7) rfl (by kernel_rfl) ?_
      refine o_nil ?_
      refine e_drop ?_
      refine e_perm (fr1_perm 1 _) ?_
      refine e_drop ?_
      refine e_blk ?_
      refine e_then ?_
      refine c_quiet ?_
      refine ql_s (.int .i64 (addI (i1 : Int) 1)) (by kernel_rfl) ?_
      refine ql_s (.int .i64 (addI (i1 : Int) 1)) (by kernel_rfl) ?_
      refine ql_nil ?_
      obtain rfl := Option.some.inj hx1
      exact e_cut ⟨j1, i1 + 1, l2, a5, cp7, by omega, by omega, ⟨rfl, rfl, rfl, rfl, (congrArg (Value.int .i64) (addI_succ (by omega))), trivial⟩, hD1, rfl, hs2⟩
  · skip
    rintro φ2 D1 As2 ⟨a2, cp2, hI2, hD2, hA2⟩
    subst As2
    refine e_frame _ hI2 ?_
    refine e_then ?_
    refine c_seq ?_
    refine c_quiet ?_
    refine ql_s (.slice a2 x1.length cp2) (by kernel_rfl) ?_
    refine ql_s (.slice a2 x1.length cp2) (by kernel_rfl) ?_
    refine ql_nil ?_
    refine e_then ?_
    refine c_ret ?_
    obtain rfl := Option.some.inj hp
    exact post_all (vs := [.slice a2 x1.length cp2]) (.slice a2 x1.length cp2) ⟨rfl, trivial⟩ rfl (.inl rfl) (fun w hS => ⟨D1, a2, cp2, hD2, rfl, hS⟩)

-- slices.Clone[[]float32,float32]
set_option maxRecDepth 100000 in
set_option maxHeartbeats 4000000 in
theorem slices_Clone_float32_float32_s (s0 : List Nat) (s0_v1a : Option Addr) (s0_v1c : Nat) (D : PH) (s0_h1 : RO (encF .f32) D (.slice s0_v1a s0.length s0_v1c) s0) (F : List Assert) (r : (List Nat)) (hp : slices_Clone_float32_float32_p s0 = some r) : ∀ w : World, SInv D (F) w → Calls Try.prog 80 #[.slice s0_v1a s0.length s0_v1c] w (fun e w' => ∃ (D1 : PH) (q_a1 : Option Addr) (q_cp1 : Nat), PH.le D D1 ∧ e = .returned (.slice q_a1 r.length q_cp1) ∧ SInv D1 (OwnS D1 (encF .f32) 40 (.slice q_a1 r.length q_cp1) r :: F) w') := by
  intro w hS
  refine call_intro Try.func80 rfl Try.ntmps80 (Nat.le_of_ble_eq_true rfl) hS ?_
  clear hS w
  unfold slices_Clone_float32_float32_p at hp
  rcases s0_v1a with _ | s0_v1a
  · obtain rfl := RO.nil_eq s0_h1
    replace hp : (some ([] : List Nat)) = some r := hp
    refine c_seq ?_
    refine c_region ?_
    refine l_s (.slice none 0 0) (by kernel_rfl) ?_
    refine l_nilS D (encF .f32) 40 ?_
    refine l_nil ?_
    refine e_drop ?_
    refine e_then ?_
    refine c_seq ?_
    refine c_seq ?_
    refine c_quiet ?_
    refine ql_s (.slice none ([] : List Nat).length s0_v1c) (by kernel_rfl) ?_
    refine ql_q rfl (qs_eqnil Try.underlying24 rfl rfl (.inl rfl) (v := true) rfl) ?_
    refine ql_nil ?_
    refine e_then ?_
    refine c_cond true rfl (fun _ => ?_) (fun h => nomatch h)
    refine c_seq ?_
    refine c_region ?_
    refine l_s (.slice none 0 0) (by kernel_rfl) ?_
    refine l_nilS D (encF .f32) 40 ?_
    refine l_nil ?_
    refine e_then ?_
    refine c_ret ?_
    refine e_then_ret ?_
    obtain rfl := Option.some.inj hp
    exact post_all (vs := [.slice none 0 0]) (.slice none 0 0) ⟨rfl, trivial⟩ rfl (.inl rfl) (fun w hS => ⟨D, none, 0, (PH.le_refl _), rfl, hS⟩)
  refine c_seq ?_
  refine c_region ?_
  refine l_s (.slice none 0 0) (by kernel_rfl) ?_
  refine l_nilS D (encF .f32) 40 ?_
  refine l_nil ?_
  refine e_drop ?_
  refine e_then ?_
  refine c_seq ?_
  refine c_seq ?_
  refine c_quiet ?_
  refine ql_s (.slice (some s0_v1a) s0.length s0_v1c) (by kernel_rfl) ?_
  refine ql_q rfl (qs_eqnil Try.underlying24 rfl rfl (.inl rfl) (v := false) rfl) ?_
  refine ql_nil ?_
  refine e_then ?_
  refine c_cond false rfl (fun h => nomatch h) (fun _ => ?_)
  refine c_skip ?_
  refine e_then ?_
  refine c_seq ?_
  obtain ⟨l1, hl1, hp⟩ := bnd_some hp
  refine c_region ?_
  refine l_bslS (cs := []) (E := 40) (e := encF .f32) ([] : List Nat) rfl (by kernel_rfl) rfl rfl (Nat.le_of_ble_eq_true rfl) trivial (fun b2 cp3 => ?_)
  refine l_s (.slice (some s0_v1a) s0.length s0_v1c) (by kernel_rfl) ?_
  refine l_app hl1 rfl elem24 Try.underlying24 rfl rfl rfl (RO.src s0_h1) (fun a2 cp4 => ?_)
  refine l_s (.slice a2 l1.length cp4) (by kernel_rfl) ?_
  refine l_nil ?_
  refine e_then ?_
  refine c_ret ?_
  obtain rfl := Option.some.inj hp
  exact post_all (vs := [.slice a2 l1.length cp4]) (.slice a2 l1.length cp4) ⟨rfl, trivial⟩ rfl (.inl rfl) (fun w hS => ⟨D, a2, cp4, (PH.le_refl _), rfl, hS⟩)

-- tarnfell/road.filled
set_option maxRecDepth 100000 in
set_option maxHeartbeats 4000000 in
theorem road_filled_s (h0 : List Nat) (h0_v1a : Option Addr) (h0_v1c : Nat) (drops0 : List Nat) (drops0_v1a : Option Addr) (drops0_v1c : Nat) (D : PH) (h0_h1 : RO (encF .f32) D (.slice h0_v1a h0.length h0_v1c) h0) (drops0_h1 : RO (encF .f32) D (.slice drops0_v1a drops0.length drops0_v1c) drops0) (F : List Assert) (r : (List Nat)) (hp : road_filled_p h0 drops0 = some r) : ∀ w : World, SInv D (F) w → Calls Try.prog 51 #[.slice h0_v1a h0.length h0_v1c, .slice drops0_v1a drops0.length drops0_v1c] w (fun e w' => ∃ (D1 : PH) (q_a1 : Option Addr) (q_cp1 : Nat), PH.le D D1 ∧ e = .returned (.slice q_a1 r.length q_cp1) ∧ RO (encF .f32) D1 (.slice q_a1 r.length q_cp1) r ∧ SInv D1 (F) w') := by
  intro w hS
  refine call_intro Try.func51 rfl Try.ntmps51 (Nat.le_of_ble_eq_true rfl) hS ?_
  clear hS w
  unfold road_filled_p at hp
  refine c_seq ?_
  refine c_quiet ?_
  refine ql_s (.slice none 0 0) (by kernel_rfl) ?_
  refine ql_nil ?_
  refine e_then ?_
  refine c_seq ?_
  obtain ⟨r1, hr1, hp⟩ := bnd_some hp
  refine c_region ?_
  refine l_s (.slice h0_v1a h0.length h0_v1c) (by kernel_rfl) ?_
  refine l_call rfl rfl Try.call80 (vs := [.slice h0_v1a h0.length h0_v1c]) rfl (fun v D2 As2 => ∃ (a2 : Option Addr) (cp2 : Nat), PH.le D D2 ∧ v = .slice a2 r1.length cp2 ∧ As2 = OwnS D2 (encF .f32) 40 (.slice a2 r1.length cp2) r1 :: F) (fun w hS => (slices_Clone_float32_float32_s h0 h0_v1a h0_v1c _ h0_h1 _ _ hr1 w (hS)).mono fun e w' ⟨D2, a2, cp2, hle2, he, hS2⟩ => ⟨_, D2, _, he, ⟨a2, cp2, hle2, rfl, rfl⟩, hS2⟩) ?_
  rintro _ D2 As2 ⟨a2, cp2, hle2, rfl, hA2⟩
  subst As2
  replace h0_h1 := h0_h1.mono hle2
  replace drops0_h1 := drops0_h1.mono hle2
  refine l_s (.slice a2 r1.length cp2) (by kernel_rfl) ?_
  refine l_nil ?_
  refine e_then ?_
  refine c_seq ?_
  refine c_seq ?_
  refine c_quiet ?_
  refine ql_s (.slice drops0_v1a drops0.length drops0_v1c) (by kernel_rfl) ?_
  refine ql_s (.int .i64 (drops0.length : Int)) (by kernel_rfl) ?_
  refine ql_s (.int .i64 0) (by kernel_rfl) ?_
  refine ql_nil ?_
  refine e_then ?_
  have hb0 : (drops0.length : Int) ≤ 4611686018427387904 := by have := RO.bound drops0_h1; omega
  have hm0 : drops0.length = (drops0.length : Int).toNat := by omega
  have hm1 := hm0; have hb1 := hb0; clear hm0 hb0
  obtain ⟨x1, hs1, hp⟩ := bnd_some hp
  obtain ⟨body1, hbody1, hs1⟩ := forS_gen hs1
  refine c_cut_end (fun φ1 D3 As1 => Is φ1 [(1, .slice drops0_v1a drops0.length drops0_v1c), (5, .slice a2 r1.length cp2)] ∧ PH.le D2 D3 ∧ As1 = OwnS D3 (encF .f32) 40 (.slice a2 r1.length cp2) x1 :: F) ?_ ?_
  · skip
    refine c_block ?_
    refine c_loop (fun k φ1 D4 As1 => ∃ (j1 i1 : Nat) (s1 : (List Nat)), k = j1 + 1 ∧ i1 + j1 = drops0.length ∧ Is φ1 [(1, .slice drops0_v1a drops0.length drops0_v1c), (5, .slice a2 r1.length cp2), (13, .slice drops0_v1a drops0.length drops0_v1c), (14, .int .i64 (drops0.length : Int)), (15, .int .i64 (i1 : Int))] ∧ PH.le D2 D4 ∧ As1 = OwnS D4 (encF .f32) 40 (.slice a2 r1.length cp2) s1 :: F ∧ forS body1 j1 i1 s1 = some x1) ⟨drops0.length + 1, drops0.length, 0, r1, rfl, Nat.zero_add _, ⟨rfl, rfl, rfl, rfl, rfl, trivial⟩, (PH.le_refl _), rfl, hs1⟩ ?_ ?_
    · rintro _ _ _ ⟨_, _, _, h0, _⟩; omega
    intro k1
    rintro φ1 D4 As3 ⟨j1, i1, s1, hk1, hij1, hI1, hD1, hA3, hs2⟩
    subst As3
    replace drops0_h1 := drops0_h1.mono hD1
    refine c_frame _ hI1 ?_
    obtain rfl : k1 = j1 := by omega
    clear hk1
    rcases k1 with _ | j1
    · skip
      refine c_seq ?_
      refine c_quiet ?_
      refine ql_s (.bool (decide ((i1 : Int) < (drops0.length : Int)))) (by kernel_rfl) ?_
      refine ql_nil ?_
      refine e_then ?_
      refine c_seq ?_
      refine c_cond (decide ((i1 : Int) < (drops0.length : Int))) rfl (fun ht1 => absurd ((dec_lt_f hm1 (by omega)).symm.trans ht1) (by simp)) (fun _ => ?_)
      refine c_exit ?_
      refine e_then_exit ?_
      refine e_then_exit ?_
      obtain rfl := Option.some.inj hs2
      refine e_blk_exit ?_
      exact e_cut ⟨⟨rfl, rfl, trivial⟩, hD1, rfl⟩
    · skip
      obtain ⟨y1, hx1, hs2⟩ := forS_some hs2
      replace hx1 := (congrFun (congrFun hbody1 i1) s1).trans hx1
      refine c_seq ?_
      refine c_quiet ?_
      refine ql_s (.bool (decide ((i1 : Int) < (drops0.length : Int)))) (by kernel_rfl) ?_
      refine ql_nil ?_
      refine e_then ?_
      refine c_seq ?_
      refine c_cond (decide ((i1 : Int) < (drops0.length : Int))) rfl (fun _ => ?_) (fun ht2 => absurd ((dec_lt_t hm1 (by omega)).symm.trans ht2) (by simp))
      refine c_skip ?_
      refine e_then ?_
      refine c_seq ?_
      obtain ⟨s2, hs3, hx1⟩ := bnd_some hx1
      refine c_cut_end (fun φ1 D5 As1 => Is φ1 [(1, .slice drops0_v1a drops0.length drops0_v1c), (5, .slice a2 r1.length cp2), (13, .slice drops0_v1a drops0.length drops0_v1c), (14, .int .i64 (drops0.length : Int)), (15, .int .i64 (i1 : Int))] ∧ PH.le D4 D5 ∧ As1 = OwnS D5 (encF .f32) 40 (.slice a2 r1.length cp2) s2 :: F) ?_ ?_
      · skip
        refine c_block ?_
        refine c_seq ?_
        obtain ⟨x2, hx2, hs3⟩ := bnd_some hs3
        obtain ⟨b1, o1, h3, hq1⟩ := RO.at drops0_h1 hx2
        refine c_quiet ?_
        refine ql_s (.int .i64 (i1 : Int)) (by kernel_rfl) ?_
        refine ql_q rfl (qs_idx hq1 Try.underlying24 fit40 rfl rfl) ?_
        refine ql_q rfl (qs_ldAtV fit40 rfl h3 valF) ?_
        refine ql_s (.int .i64 (i1 : Int)) (by kernel_rfl) ?_
        refine ql_s (.float .f32 x2) (by kernel_rfl) ?_
        refine ql_nil ?_
        refine e_then ?_
        refine c_seq ?_
        obtain ⟨x3, hx3, hs3⟩ := bnd_some hs3
        obtain ⟨r2, hr2, hs3⟩ := bnd_some hs3
        refine c_adr (fun b2 hb2 hl1 hbd1 hcap1 => ?_)
        refine c_quiet ?_
        refine ql_s (.slice a2 r1.length cp2) (by kernel_rfl) ?_
        refine ql_s (.int .i64 (i1 : Int)) (by kernel_rfl) ?_
        refine ql_q rfl (qs_idx (IsIdx.beg (e := encF .f32) hb2 hl1 hx3) Try.underlying24 fit40 rfl rfl) ?_
        refine ql_q rfl (qs_ldS fit40 hb2 rfl rfl 0 rfl (idx_some hx3).2.2 (v := .float .f32 x3) valF) ?_
        refine ql_s (.float .f32 x2) (by kernel_rfl) ?_
        refine ql_q rfl (qs_fop hr2 rfl rfl) ?_
        refine ql_s (.float .f32 r2) (by kernel_rfl) ?_
        refine ql_nil ?_
        refine e_then ?_
        refine c_seq ?_
        obtain ⟨x4, hx4, hs3⟩ := bnd_some hs3
        refine c_quiet ?_
        refine ql_s (.float .f32 r2) (by kernel_rfl) ?_
        refine ql_s (.slice a2 r1.length cp2) (by kernel_rfl) ?_
        refine ql_s (.int .i64 (i1 : Int)) (by kernel_rfl) ?_
        refine ql_s (.int .i64 (addI (i1 : Int) 1)) (by kernel_rfl) ?_
        refine ql_q rfl (qs_idx (IsIdx.beg (e := encF .f32) hb2 hl1 hx4) Try.underlying24 fit40 rfl rfl) ?_
        refine ql_q rfl (qs_ldS fit40 hb2 rfl rfl 0 rfl (idx_some hx4).2.2 (v := .float .f32 x4) valF) ?_
        refine ql_s (.bool (fgt .f32 r2 x4)) (by kernel_rfl) ?_
        refine ql_nil ?_
        refine e_then ?_
        refine c_cond (fgt .f32 r2 x4) rfl (fun ht3 => ?_) (fun ht3 => ?_)
        · skip
          replace hs3 := if_t ht3 hs3
          obtain ⟨x5, hx5, hs3⟩ := bnd_some hs3
          obtain ⟨l1, hl2, hs3⟩ := bnd_some hs3
          replace hl2 := Option.some.inj hl2
          refine c_region ?_
          refine l_s (.slice a2 r1.length cp2) (by kernel_rfl) ?_
          refine l_s (.int .i64 (i1 : Int)) (by kernel_rfl) ?_
          refine l_s (.int .i64 (addI (i1 : Int) 1)) (by kernel_rfl) ?_
          refine l_s (.float .f32 r2) (by kernel_rfl) ?_
          refine l_q rfl (qs_idx (IsIdx.beg (e := encF .f32) hb2 hl1 hx5) Try.underlying24 fit40 rfl rfl) ?_
          refine l_stS (vs := [.float .f32 r2]) hb2 hl1 hl2 rfl fit40 rfl rfl rfl rfl (idx_some hx5).2.1 ?_
          refine l_nil ?_
          refine e_blk ?_
          obtain rfl := Option.some.inj hs3
          exact e_cut ⟨⟨rfl, rfl, rfl, rfl, rfl, trivial⟩, (PH.le_refl _), rfl⟩
        · skip
          replace hs3 := if_f ht3 hs3
          refine c_skip ?_
          refine e_blk ?_
          obtain rfl := Option.some.inj hs3
          exact e_cut ⟨⟨rfl, rfl, rfl, rfl, rfl, trivial⟩, (PH.le_refl _), rfl⟩
      · skip
        rintro φ2 D5 As4 ⟨hI2, hD2, hA4⟩
        subst As4
        replace drops0_h1 := drops0_h1.mono hD2
        refine e_frame _ hI2 ?_
        refine e_then ?_
        refine c_quiet ?_
        refine ql_s (.int .i64 (addI (i1 : Int) 1)) (by kernel_rfl) ?_
        refine ql_s (.int .i64 (addI (i1 : Int) 1)) (by kernel_rfl) ?_
        refine ql_nil ?_
        obtain rfl := Option.some.inj hx1
        exact e_cut ⟨j1, i1 + 1, s2, by omega, by omega, ⟨rfl, rfl, rfl, rfl, (congrArg (Value.int .i64) (addI_succ (by omega))), trivial⟩, (PH.le_trans hD1 hD2), rfl, hs2⟩
  · skip
    rintro φ3 D3 As5 ⟨hI3, hD3, hA5⟩
    subst As5
    replace drops0_h1 := drops0_h1.mono hD3
    refine e_frame _ hI3 ?_
    refine e_then ?_
    refine c_seq ?_
    refine c_seq ?_
    obtain ⟨i_1, hi_1, hp⟩ := bnd_some hp
    replace hi_1 := Option.some.inj hi_1
    refine c_quiet ?_
    refine ql_s (.slice drops0_v1a drops0.length drops0_v1c) (by kernel_rfl) ?_
    refine ql_s (.int .i64 (drops0.length : Int)) (by kernel_rfl) ?_
    refine ql_s (.int .i64 (subI (drops0.length : Int) 1)) (by kernel_rfl) ?_
    refine ql_s (.int .i64 i_1) (congrArg (fun z => some (Value.int .i64 z)) hi_1) ?_
    refine ql_nil ?_
    refine e_then ?_
    obtain ⟨x6, hs4, hp⟩ := bnd_some hp
    obtain ⟨body2, hbody2, hs4⟩ := loopP_gen hs4
    refine c_cut_end (fun φ1 D6 As1 => Is φ1 [(5, .slice a2 r1.length cp2)] ∧ PH.le D3 D6 ∧ As1 = OwnS D6 (encF .f32) 40 (.slice a2 r1.length cp2) x6 :: F) ?_ ?_
    · skip
      refine c_block ?_
      obtain ⟨kz1, hs4⟩ := loopP_ex hs4
      refine c_loop (fun k φ1 D7 As1 => ∃ (s3 : Int × (List Nat)), Is φ1 [(1, .slice drops0_v1a drops0.length drops0_v1c), (5, .slice a2 r1.length cp2), (9, .int .i64 s3.1)] ∧ PH.le D3 D7 ∧ As1 = OwnS D7 (encF .f32) 40 (.slice a2 r1.length cp2) s3.2 :: F ∧ iter body2 k s3 = some x6) ⟨kz1, (i_1, x1), ⟨rfl, rfl, rfl, trivial⟩, (PH.le_refl _), rfl, hs4⟩ ?_ ?_
      · rintro _ _ _ ⟨_, _, _, _, h0⟩; cases h0
      intro k2
      rintro φ4 D7 As6 ⟨s3, hI4, hD4, hA6, hs5⟩
      subst As6
      replace drops0_h1 := drops0_h1.mono hD4
      refine c_frame _ hI4 ?_
      obtain ⟨y2, hx6, hs5⟩ := iter_some hs5
      replace hx6 := (congrFun hbody2 s3).trans hx6
      refine c_seq ?_
      refine c_seq ?_
      refine c_quiet ?_
      refine ql_s (.int .i64 s3.1) (by kernel_rfl) ?_
      refine ql_s (.bool (decide (s3.1 ≥ 0))) (by kernel_rfl) ?_
      refine ql_nil ?_
      refine e_then ?_
      refine c_cond (decide (s3.1 ≥ 0)) rfl (fun ht4 => ?_) (fun ht4 => ?_)
      · skip
        replace hx6 := if_t ht4 hx6
        refine c_skip ?_
        refine e_then ?_
        refine c_seq ?_
        obtain ⟨s4, hs6, hx6⟩ := bnd_some hx6
        refine c_cut_end (fun φ1 D8 As1 => Is φ1 [(1, .slice drops0_v1a drops0.length drops0_v1c), (5, .slice a2 r1.length cp2), (9, .int .i64 s3.1)] ∧ PH.le D7 D8 ∧ As1 = OwnS D8 (encF .f32) 40 (.slice a2 r1.length cp2) s4 :: F) ?_ ?_
        · skip
          refine c_block ?_
          refine c_seq ?_
          obtain ⟨x7, hx7, hs6⟩ := bnd_some hs6
          obtain ⟨x8, hx8, hs6⟩ := bnd_some hs6
          obtain ⟨b3, o2, h4, hq2⟩ := RO.at drops0_h1 hx8
          obtain ⟨r3, hr3, hs6⟩ := bnd_some hs6
          refine c_adr (fun b4 hb3 hl3 hbd2 hcap2 => ?_)
          refine c_quiet_draw hmix (by kernel_rfl) ?_
          refine ql_s (.slice a2 r1.length cp2) (by kernel_rfl) ?_
          refine ql_s (.int .i64 s3.1) (by kernel_rfl) ?_
          refine ql_s (.int .i64 (addI s3.1 1)) (by kernel_rfl) ?_
          refine ql_q rfl (qs_idx (IsIdx.beg (e := encF .f32) hb3 hl3 hx7) Try.underlying24 fit40 rfl rfl) ?_
          refine ql_q rfl (qs_ldS fit40 hb3 rfl rfl 0 rfl (idx_some hx7).2.2 (v := .float .f32 x7) valF) ?_
          refine ql_s (.slice drops0_v1a drops0.length drops0_v1c) (by kernel_rfl) ?_
          refine ql_s (.int .i64 s3.1) (by kernel_rfl) ?_
          refine ql_q rfl (qs_idx hq2 Try.underlying24 fit40 rfl rfl) ?_
          refine ql_q rfl (qs_ldAtV fit40 rfl h4 valF) ?_
          refine ql_q rfl (qs_fop hr3 rfl rfl) ?_
          refine ql_s (.float .f32 r3) (by kernel_rfl) ?_
          refine ql_nil ?_
          refine e_then ?_
          refine c_seq ?_
          obtain ⟨x9, hx9, hs6⟩ := bnd_some hs6
          refine c_quiet ?_
          refine ql_s (.float .f32 r3) (by kernel_rfl) ?_
          refine ql_s (.slice a2 r1.length cp2) (by kernel_rfl) ?_
          refine ql_s (.int .i64 s3.1) (by kernel_rfl) ?_
          refine ql_q rfl (qs_idx (IsIdx.beg (e := encF .f32) hb3 hl3 hx9) Try.underlying24 fit40 rfl rfl) ?_
          refine ql_q rfl (qs_ldS fit40 hb3 rfl rfl 0 rfl (idx_some hx9).2.2 (v := .float .f32 x9) valF) ?_
          refine ql_s (.bool (fgt .f32 r3 x9)) (by kernel_rfl) ?_
          refine ql_nil ?_
          refine e_then ?_
          refine c_cond (fgt .f32 r3 x9) rfl (fun ht5 => ?_) (fun ht5 => ?_)
          · skip
            replace hs6 := if_t ht5 hs6
            obtain ⟨x10, hx10, hs6⟩ := bnd_some hs6
            obtain ⟨l2, hl4, hs6⟩ := bnd_some hs6
            replace hl4 := Option.some.inj hl4
            refine c_region ?_
            refine l_s (.slice a2 r1.length cp2) (by kernel_rfl) ?_
            refine l_s (.int .i64 s3.1) (by kernel_rfl) ?_
            refine l_s (.float .f32 r3) (by kernel_rfl) ?_
            refine l_q rfl (qs_idx (IsIdx.beg (e := encF .f32) hb3 hl3 hx10) Try.underlying24 fit40 rfl rfl) ?_
            refine l_stS (vs := [.float .f32 r3]) hb3 hl3 hl4 rfl fit40 rfl rfl rfl rfl (idx_some hx10).2.1 ?_
            refine l_nil ?_
            refine e_blk ?_
            obtain rfl := Option.some.inj hs6
            exact e_cut ⟨⟨rfl, rfl, rfl, trivial⟩, (PH.le_refl _), rfl⟩
          · skip
            replace hs6 := if_f ht5 hs6
            refine c_skip ?_
            refine e_blk ?_
            obtain rfl := Option.some.inj hs6
            exact e_cut ⟨⟨rfl, rfl, rfl, trivial⟩, (PH.le_refl _), rfl⟩
        · skip
          rintro φ5 D8 As7 ⟨hI5, hD5, hA7⟩
          subst As7
          replace drops0_h1 := drops0_h1.mono hD5
          refine e_frame _ hI5 ?_
          refine e_then ?_
          refine c_quiet ?_
          refine ql_s (.int .i64 s3.1) (by kernel_rfl) ?_
          refine ql_s (.int .i64 (subI s3.1 1)) (by kernel_rfl) ?_
          refine ql_s (.int .i64 (subI s3.1 1)) (by kernel_rfl) ?_
          refine ql_nil ?_
          obtain rfl := Option.some.inj hx6
          exact e_cut ⟨(subI s3.1 1, s4), ⟨rfl, rfl, rfl, trivial⟩, (PH.le_trans hD4 hD5), rfl, hs5⟩
      · skip
        replace hx6 := if_f ht4 hx6
        refine c_exit ?_
        refine e_then_exit ?_
        refine e_then_exit ?_
        obtain rfl := Option.some.inj hx6
        obtain rfl := hs5
        refine e_blk_exit ?_
        exact e_cut ⟨⟨rfl, trivial⟩, hD4, rfl⟩
    · skip
      rintro φ6 D6 As8 ⟨hI6, hD6, hA8⟩
      subst As8
      refine e_frame _ hI6 ?_
      refine e_then ?_
      refine c_seq ?_
      refine c_quiet ?_
      refine ql_s (.slice a2 r1.length cp2) (by kernel_rfl) ?_
      refine ql_s (.slice a2 r1.length cp2) (by kernel_rfl) ?_
      refine ql_nil ?_
      refine e_then ?_
      refine c_ret ?_
      refine e_adr (fun b5 hb4 hl5 hbd3 hcap3 => ?_)
      refine e_layS (PH.le_refl _) (fun D9 hle3 h5 => ?_)
      obtain rfl := Option.some.inj hp
      exact post_all (vs := [.slice a2 r1.length cp2]) (.slice a2 r1.length cp2) ⟨rfl, trivial⟩ rfl (.inl rfl) (fun w hS => ⟨D9, a2, cp2, (PH.le_trans (PH.le_trans (PH.le_trans hle2 hD3) hD6) hle3), (by simp only [hl5]), (by rw [hl5]; exact h5), (by have h2 : SInv D9 (F) w := hS; simpa only [hl5] using h2)⟩)

-- tarnfell/field.Value
set_option maxRecDepth 100000 in
set_option maxHeartbeats 4000000 in
theorem field_Value_s (v0 : Nat) (D : PH)  (F : List Assert) (r : Nat × Int) (hp : field_Value_p v0 = some r) : ∀ w : World, SInv D (F) w → Calls Try.prog 87 #[.float .f32 v0] w (fun e w' => e = .returned (.tuple #[.float .f32 r.1, .int .i64 r.2]) ∧ SInv D (F) w') := by
  intro w hS
  refine call_intro Try.func87 rfl Try.ntmps87 (Nat.le_of_ble_eq_true rfl) hS ?_
  clear hS w
  unfold field_Value_p at hp
  refine c_seq ?_
  refine c_quiet ?_
  refine ql_s (.float .f32 0) (by kernel_rfl) ?_
  refine ql_s (.int .i64 0) (by kernel_rfl) ?_
  refine ql_nil ?_
  refine e_then ?_
  refine c_seq ?_
  refine c_seq ?_
  obtain ⟨r1, hr1, hp⟩ := bnd_some hp
  refine c_quiet ?_
  refine ql_s (.float .f32 v0) (by kernel_rfl) ?_
  refine ql_call (v := .bool r1) rfl (run_call (vs := [.float .f32 v0]) rfl Try.call79 rfl) (fun w hS => (field_height_s v0 _  _ _ hr1 w (hS)).mono fun e w' h => ⟨h.1, h.2⟩) ?_
  refine ql_s (.bool (!r1)) (by kernel_rfl) ?_
  refine ql_nil ?_
  refine e_then ?_
  refine c_cond (!r1) rfl (fun ht1 => ?_) (fun ht1 => ?_)
  · skip
    replace hp := if_t ht1 hp
    refine c_seq ?_
    refine c_quiet ?_
    refine ql_s (.float .f32 0) (by kernel_rfl) ?_
    refine ql_s (.int .i64 3) (by kernel_rfl) ?_
    refine ql_nil ?_
    refine e_then ?_
    refine c_ret ?_
    refine e_then_ret ?_
    obtain rfl := Option.some.inj hp
    exact post_all (vs := [.float .f32 0, .int .i64 3]) (.tuple #[.float .f32 0, .int .i64 3]) ⟨rfl, rfl, trivial⟩ rfl (.inl rfl) (fun w hS => ⟨rfl, hS⟩)
  · skip
    replace hp := if_f ht1 hp
    refine c_skip ?_
    refine e_then ?_
    refine c_seq ?_
    refine c_quiet ?_
    refine ql_s (.float .f32 v0) (by kernel_rfl) ?_
    refine ql_s (.float .f32 v0) (by kernel_rfl) ?_
    refine ql_s (.int .i64 0) (by kernel_rfl) ?_
    refine ql_nil ?_
    refine e_then ?_
    refine c_ret ?_
    obtain rfl := Option.some.inj hp
    exact post_all (vs := [.float .f32 v0, .int .i64 0]) (.tuple #[.float .f32 v0, .int .i64 0]) ⟨rfl, rfl, trivial⟩ rfl (.inl rfl) (fun w hS => ⟨rfl, hS⟩)

-- tarnfell/road.values
set_option maxRecDepth 100000 in
set_option maxHeartbeats 4000000 in
theorem road_values_s (l0 : List Nat) (l0_v1a : Option Addr) (l0_v1c : Nat) (D : PH) (l0_h1 : RO (encF .f32) D (.slice l0_v1a l0.length l0_v1c) l0) (F : List Assert) (r : (List Nat) × Int) (hp : road_values_p l0 = some r) : ∀ w : World, SInv D (F) w → Calls Try.prog 50 #[.slice l0_v1a l0.length l0_v1c] w (fun e w' => ∃ (D1 : PH) (q_a1 : Option Addr) (q_cp1 : Nat), PH.le D D1 ∧ e = .returned (.tuple #[.slice q_a1 r.1.length q_cp1, .int .i64 r.2]) ∧ RO (encF .f32) D1 (.slice q_a1 r.1.length q_cp1) r.1 ∧ SInv D1 (F) w') := by
  intro w hS
  refine call_intro Try.func50 rfl Try.ntmps50 (Nat.le_of_ble_eq_true rfl) hS ?_
  clear hS w
  unfold road_values_p at hp
  refine c_seq ?_
  refine c_quiet ?_
  refine ql_s (.slice none 0 0) (by kernel_rfl) ?_
  refine ql_s (.int .i64 0) (by kernel_rfl) ?_
  refine ql_nil ?_
  refine e_then ?_
  refine c_seq ?_
  refine c_seq ?_
  refine c_quiet ?_
  refine ql_s (.slice l0_v1a l0.length l0_v1c) (by kernel_rfl) ?_
  refine ql_s (.int .i64 (l0.length : Int)) (by kernel_rfl) ?_
  refine ql_s (.int .i64 0) (by kernel_rfl) ?_
  refine ql_nil ?_
  refine e_then ?_
  have hb0 : (l0.length : Int) ≤ 4611686018427387904 := by have := RO.bound l0_h1; omega
  have hm0 : l0.length = (l0.length : Int).toNat := by omega
  have hm1 := hm0; have hb1 := hb0; clear hm0 hb0
  obtain ⟨x1, hs1, hp⟩ := bnd_some hp
  obtain ⟨body1, hbody1, hs1⟩ := forI_gen hs1
  refine c_cut_end (fun φ1 D1 As1 => ∃ (s1 : Unit), x1 = .go s1 ∧ Is φ1 [(0, .slice l0_v1a l0.length l0_v1c)] ∧ PH.le D D1 ∧ As1 = F) ?_ ?_
  · skip
    refine c_block ?_
    refine c_loop (fun k φ1 D2 As1 => ∃ (j1 i1 : Nat) (s2 : Unit), k = j1 + 1 ∧ i1 + j1 = l0.length ∧ Is φ1 [(0, .slice l0_v1a l0.length l0_v1c), (8, .slice l0_v1a l0.length l0_v1c), (9, .int .i64 (l0.length : Int)), (10, .int .i64 (i1 : Int))] ∧ PH.le D D2 ∧ As1 = F ∧ forI body1 j1 i1 s2 = some x1) ⟨l0.length + 1, l0.length, 0, (), rfl, Nat.zero_add _, ⟨rfl, rfl, rfl, rfl, trivial⟩, (PH.le_refl _), rfl, hs1⟩ ?_ ?_
    · rintro _ _ _ ⟨_, _, _, h0, _⟩; omega
    intro k1
    rintro φ1 D2 As1 ⟨j1, i1, s2, hk1, hij1, hI1, hD1, hA1, hs2⟩
    subst As1
    replace l0_h1 := l0_h1.mono hD1
    refine c_frame _ hI1 ?_
    obtain rfl : k1 = j1 := by omega
    clear hk1
    rcases k1 with _ | j1
    · skip
      refine c_seq ?_
      refine c_quiet ?_
      refine ql_s (.bool (decide ((i1 : Int) < (l0.length : Int)))) (by kernel_rfl) ?_
      refine ql_nil ?_
      refine e_then ?_
      refine c_seq ?_
      refine c_cond (decide ((i1 : Int) < (l0.length : Int))) rfl (fun ht1 => absurd ((dec_lt_f hm1 (by omega)).symm.trans ht1) (by simp)) (fun _ => ?_)
      refine c_exit ?_
      refine e_then_exit ?_
      refine e_then_exit ?_
      obtain rfl := Option.some.inj hs2
      refine e_blk_exit ?_
      exact e_cut ⟨(), rfl, ⟨rfl, trivial⟩, hD1, rfl⟩
    · skip
      obtain ⟨y1, hx1, hs2⟩ := forI_some hs2
      replace hx1 := (congrFun (congrFun hbody1 i1) s2).trans hx1
      refine c_seq ?_
      refine c_quiet ?_
      refine ql_s (.bool (decide ((i1 : Int) < (l0.length : Int)))) (by kernel_rfl) ?_
      refine ql_nil ?_
      refine e_then ?_
      refine c_seq ?_
      refine c_cond (decide ((i1 : Int) < (l0.length : Int))) rfl (fun _ => ?_) (fun ht2 => absurd ((dec_lt_t hm1 (by omega)).symm.trans ht2) (by simp))
      refine c_skip ?_
      refine e_then ?_
      refine c_seq ?_
      refine c_block ?_
      refine c_seq ?_
      obtain ⟨x2, hx2, hx1⟩ := bnd_some hx1
      obtain ⟨b1, o1, h1, hq1⟩ := RO.at l0_h1 hx2
      refine c_quiet ?_
      refine ql_q rfl (qs_idx hq1 Try.underlying24 fit40 rfl rfl) ?_
      refine ql_q rfl (qs_ldAtV fit40 rfl h1 valF) ?_
      refine ql_s (.float .f32 x2) (by kernel_rfl) ?_
      refine ql_nil ?_
      refine e_then ?_
      refine c_seq ?_
      obtain ⟨r1, hr1, hx1⟩ := bnd_some hx1
      refine c_quiet ?_
      refine ql_s (.float .f32 x2) (by kernel_rfl) ?_
      refine ql_call (v := .tuple #[.float .f32 r1.1, .int .i64 r1.2]) rfl (run_call (vs := [.float .f32 x2]) rfl Try.call87 rfl) (fun w hS => (field_Value_s x2 _  _ _ hr1 w (hS)).mono fun e w' h => ⟨h.1, h.2⟩) ?_
      refine ql_s (.tuple #[.float .f32 r1.1, .int .i64 r1.2]) (by kernel_rfl) ?_
      refine ql_s (.float .f32 r1.1) (by kernel_rfl) ?_
      refine ql_s (.int .i64 r1.2) (by kernel_rfl) ?_
      refine ql_s (.float .f32 r1.1) (by kernel_rfl) ?_
      refine ql_s (.int .i64 r1.2) (by kernel_rfl) ?_
      refine ql_nil ?_
      refine e_then ?_
      refine c_seq ?_
      refine c_quiet ?_
      refine ql_s (.int .i64 r1.2) (by kernel_rfl) ?_
      refine ql_s (.bool (r1.2 != 0)) (by kernel_rfl) ?_
      refine ql_nil ?_
      refine e_then ?_
      refine c_cond ((r1.2 != 0)) rfl (fun ht3 => ?_) (fun ht3 => ?_)
      · skip
        replace hx1 := if_t ht3 hx1
        refine c_seq ?_
        refine c_quiet ?_
        refine ql_s (.int .i64 r1.2) (by kernel_rfl) ?_
        refine ql_s (.slice none 0 0) (by kernel_rfl) ?_
        refine ql_s (.int .i64 r1.2) (by kernel_rfl) ?_
        refine ql_nil ?_
        refine e_then ?_
        refine c_ret ?_
        refine e_blk_ret ?_
        refine e_then_ret ?_
        refine e_then_ret ?_
        obtain rfl := Option.some.inj hx1
        obtain rfl := hs2
        refine e_blk_ret ?_
        refine e_then_ret ?_
        dsimp only at hp
        refine e_then_ret ?_
        obtain rfl := Option.some.inj hp
        exact post_all (vs := [.slice none 0 0, .int .i64 r1.2]) (.tuple #[.slice none 0 0, .int .i64 r1.2]) ⟨rfl, rfl, trivial⟩ rfl (.inl rfl) (fun w hS => ⟨D2, none, 0, hD1, rfl, (RO.nil _ _), hS⟩)
      · skip
        replace hx1 := if_f ht3 hx1
        refine c_skip ?_
        refine e_blk ?_
        refine e_then ?_
        refine c_quiet ?_
        refine ql_s (.int .i64 (addI (i1 : Int) 1)) (by kernel_rfl) ?_
        refine ql_s (.int .i64 (addI (i1 : Int) 1)) (by kernel_rfl) ?_
        refine ql_nil ?_
        obtain rfl := Option.some.inj hx1
        exact e_cut ⟨j1, i1 + 1, (), by omega, by omega, ⟨rfl, rfl, rfl, (congrArg (Value.int .i64) (addI_succ (by omega))), trivial⟩, hD1, rfl, hs2⟩
  · skip
    rintro φ2 D1 As2 ⟨s1, rfl, hI2, hD2, hA2⟩
    subst As2
    replace l0_h1 := l0_h1.mono hD2
    dsimp only at hp
    refine e_frame _ hI2 ?_
    refine e_then ?_
    refine c_seq ?_
    refine c_quiet ?_
    refine ql_s (.slice l0_v1a l0.length l0_v1c) (by kernel_rfl) ?_
    refine ql_s (.slice l0_v1a l0.length l0_v1c) (by kernel_rfl) ?_
    refine ql_s (.int .i64 0) (by kernel_rfl) ?_
    refine ql_nil ?_
    refine e_then ?_
    refine c_ret ?_
    obtain rfl := Option.some.inj hp
    exact post_all (vs := [.slice l0_v1a l0.length l0_v1c, .int .i64 0]) (.tuple #[.slice l0_v1a l0.length l0_v1c, .int .i64 0]) ⟨rfl, rfl, trivial⟩ rfl (.inl rfl) (fun w hS => ⟨D1, l0_v1a, l0_v1c, hD2, rfl, l0_h1, hS⟩)

-- tarnfell/road.cut
set_option maxRecDepth 100000 in
set_option maxHeartbeats 4000000 in
theorem road_cut_s (h0 : List Nat) (h0_v1a : Option Addr) (h0_v1c : Nat) (drops0 : List Nat) (drops0_v1a : Option Addr) (drops0_v1c : Nat) (D : PH) (h0_h1 : RO (encF .f32) D (.slice h0_v1a h0.length h0_v1c) h0) (drops0_h1 : RO (encF .f32) D (.slice drops0_v1a drops0.length drops0_v1c) drops0) (F : List Assert) (r : (List Nat)) (hp : road_cut_p h0 drops0 = some r) : ∀ w : World, SInv D (F) w → Calls Try.prog 52 #[.slice h0_v1a h0.length h0_v1c, .slice drops0_v1a drops0.length drops0_v1c] w (fun e w' => ∃ (D1 : PH) (q_a1 : Option Addr) (q_cp1 : Nat), PH.le D D1 ∧ e = .returned (.slice q_a1 r.length q_cp1) ∧ RO (encF .f32) D1 (.slice q_a1 r.length q_cp1) r ∧ SInv D1 (F) w') := by
  intro w hS
  refine call_intro Try.func52 rfl Try.ntmps52 (Nat.le_of_ble_eq_true rfl) hS ?_
  clear hS w
  unfold road_cut_p at hp
  refine c_seq ?_
  refine c_quiet ?_
  refine ql_s (.slice none 0 0) (by kernel_rfl) ?_
  refine ql_nil ?_
  refine e_then ?_
  refine c_seq ?_
  obtain ⟨r1, hr1, hp⟩ := bnd_some hp
  refine c_region ?_
  refine l_s (.slice h0_v1a h0.length h0_v1c) (by kernel_rfl) ?_
  refine l_call rfl rfl Try.call80 (vs := [.slice h0_v1a h0.length h0_v1c]) rfl (fun v D2 As2 => ∃ (a2 : Option Addr) (cp2 : Nat), PH.le D D2 ∧ v = .slice a2 r1.length cp2 ∧ As2 = OwnS D2 (encF .f32) 40 (.slice a2 r1.length cp2) r1 :: F) (fun w hS => (slices_Clone_float32_float32_s h0 h0_v1a h0_v1c _ h0_h1 _ _ hr1 w (hS)).mono fun e w' ⟨D2, a2, cp2, hle2, he, hS2⟩ => ⟨_, D2, _, he, ⟨a2, cp2, hle2, rfl, rfl⟩, hS2⟩) ?_
  rintro _ D2 As2 ⟨a2, cp2, hle2, rfl, hA2⟩
  subst As2
  replace h0_h1 := h0_h1.mono hle2
  replace drops0_h1 := drops0_h1.mono hle2
  refine l_s (.slice a2 r1.length cp2) (by kernel_rfl) ?_
  refine l_nil ?_
  refine e_then ?_
  refine c_seq ?_
  refine c_seq ?_
  refine c_quiet ?_
  refine ql_s (.slice drops0_v1a drops0.length drops0_v1c) (by kernel_rfl) ?_
  refine ql_s (.int .i64 (drops0.length : Int)) (by kernel_rfl) ?_
  refine ql_s (.int .i64 0) (by kernel_rfl) ?_
  refine ql_nil ?_
  refine e_then ?_
  have hb0 : (drops0.length : Int) ≤ 4611686018427387904 := by have := RO.bound drops0_h1; omega
  have hm0 : drops0.length = (drops0.length : Int).toNat := by omega
  have hm1 := hm0; have hb1 := hb0; clear hm0 hb0
  obtain ⟨x1, hs1, hp⟩ := bnd_some hp
  obtain ⟨body1, hbody1, hs1⟩ := forS_gen hs1
  refine c_cut_end (fun φ1 D3 As1 => Is φ1 [(1, .slice drops0_v1a drops0.length drops0_v1c), (5, .slice a2 r1.length cp2)] ∧ PH.le D2 D3 ∧ As1 = OwnS D3 (encF .f32) 40 (.slice a2 r1.length cp2) x1 :: F) ?_ ?_
  · skip
    refine c_block ?_
    refine c_loop (fun k φ1 D4 As1 => ∃ (j1 i1 : Nat) (s1 : (List Nat)), k = j1 + 1 ∧ i1 + j1 = drops0.length ∧ Is φ1 [(1, .slice drops0_v1a drops0.length drops0_v1c), (5, .slice a2 r1.length cp2), (13, .slice drops0_v1a drops0.length drops0_v1c), (14, .int .i64 (drops0.length : Int)), (15, .int .i64 (i1 : Int))] ∧ PH.le D2 D4 ∧ As1 = OwnS D4 (encF .f32) 40 (.slice a2 r1.length cp2) s1 :: F ∧ forS body1 j1 i1 s1 = some x1) ⟨drops0.length + 1, drops0.length, 0, r1, rfl, Nat.zero_add _, ⟨rfl, rfl, rfl, rfl, rfl, trivial⟩, (PH.le_refl _), rfl, hs1⟩ ?_ ?_
    · rintro _ _ _ ⟨_, _, _, h0, _⟩; omega
    intro k1
    rintro φ1 D4 As3 ⟨j1, i1, s1, hk1, hij1, hI1, hD1, hA3, hs2⟩
    subst As3
    replace drops0_h1 := drops0_h1.mono hD1
    refine c_frame _ hI1 ?_
    obtain rfl : k1 = j1 := by omega
    clear hk1
    rcases k1 with _ | j1
    · skip
      refine c_seq ?_
      refine c_quiet ?_
      refine ql_s (.bool (decide ((i1 : Int) < (drops0.length : Int)))) (by kernel_rfl) ?_
      refine ql_nil ?_
      refine e_then ?_
      refine c_seq ?_
      refine c_cond (decide ((i1 : Int) < (drops0.length : Int))) rfl (fun ht1 => absurd ((dec_lt_f hm1 (by omega)).symm.trans ht1) (by simp)) (fun _ => ?_)
      refine c_exit ?_
      refine e_then_exit ?_
      refine e_then_exit ?_
      obtain rfl := Option.some.inj hs2
      refine e_blk_exit ?_
      exact e_cut ⟨⟨rfl, rfl, trivial⟩, hD1, rfl⟩
    · skip
      obtain ⟨y1, hx1, hs2⟩ := forS_some hs2
      replace hx1 := (congrFun (congrFun hbody1 i1) s1).trans hx1
      refine c_seq ?_
      refine c_quiet ?_
      refine ql_s (.bool (decide ((i1 : Int) < (drops0.length : Int)))) (by kernel_rfl) ?_
      refine ql_nil ?_
      refine e_then ?_
      refine c_seq ?_
      refine c_cond (decide ((i1 : Int) < (drops0.length : Int))) rfl (fun _ => ?_) (fun ht2 => absurd ((dec_lt_t hm1 (by omega)).symm.trans ht2) (by simp))
      refine c_skip ?_
      refine e_then ?_
      refine c_seq ?_
      obtain ⟨s2, hs3, hx1⟩ := bnd_some hx1
      refine c_cut_end (fun φ1 D5 As1 => Is φ1 [(1, .slice drops0_v1a drops0.length drops0_v1c), (5, .slice a2 r1.length cp2), (13, .slice drops0_v1a drops0.length drops0_v1c), (14, .int .i64 (drops0.length : Int)), (15, .int .i64 (i1 : Int))] ∧ PH.le D4 D5 ∧ As1 = OwnS D5 (encF .f32) 40 (.slice a2 r1.length cp2) s2 :: F) ?_ ?_
      · skip
        refine c_block ?_
        refine c_seq ?_
        obtain ⟨x2, hx2, hs3⟩ := bnd_some hs3
        obtain ⟨b1, o1, h3, hq1⟩ := RO.at drops0_h1 hx2
        refine c_quiet ?_
        refine ql_s (.int .i64 (i1 : Int)) (by kernel_rfl) ?_
        refine ql_q rfl (qs_idx hq1 Try.underlying24 fit40 rfl rfl) ?_
        refine ql_q rfl (qs_ldAtV fit40 rfl h3 valF) ?_
        refine ql_s (.int .i64 (i1 : Int)) (by kernel_rfl) ?_
        refine ql_s (.float .f32 x2) (by kernel_rfl) ?_
        refine ql_nil ?_
        refine e_then ?_
        refine c_seq ?_
        obtain ⟨x3, hx3, hs3⟩ := bnd_some hs3
        obtain ⟨r2, hr2, hs3⟩ := bnd_some hs3
        refine c_adr (fun b2 hb2 hl1 hbd1 hcap1 => ?_)
        refine c_quiet ?_
        refine ql_s (.slice a2 r1.length cp2) (by kernel_rfl) ?_
        refine ql_s (.int .i64 (i1 : Int)) (by kernel_rfl) ?_
        refine ql_q rfl (qs_idx (IsIdx.beg (e := encF .f32) hb2 hl1 hx3) Try.underlying24 fit40 rfl rfl) ?_
        refine ql_q rfl (qs_ldS fit40 hb2 rfl rfl 0 rfl (idx_some hx3).2.2 (v := .float .f32 x3) valF) ?_
        refine ql_s (.float .f32 x2) (by kernel_rfl) ?_
        refine ql_q rfl (qs_fop hr2 rfl rfl) ?_
        refine ql_s (.float .f32 r2) (by kernel_rfl) ?_
        refine ql_nil ?_
        refine e_then ?_
        refine c_seq ?_
        obtain ⟨x4, hx4, hs3⟩ := bnd_some hs3
        refine c_quiet ?_
        refine ql_s (.float .f32 r2) (by kernel_rfl) ?_
        refine ql_s (.slice a2 r1.length cp2) (by kernel_rfl) ?_
        refine ql_s (.int .i64 (i1 : Int)) (by kernel_rfl) ?_
        refine ql_s (.int .i64 (addI (i1 : Int) 1)) (by kernel_rfl) ?_
        refine ql_q rfl (qs_idx (IsIdx.beg (e := encF .f32) hb2 hl1 hx4) Try.underlying24 fit40 rfl rfl) ?_
        refine ql_q rfl (qs_ldS fit40 hb2 rfl rfl 0 rfl (idx_some hx4).2.2 (v := .float .f32 x4) valF) ?_
        refine ql_s (.bool (flt .f32 r2 x4)) (by kernel_rfl) ?_
        refine ql_nil ?_
        refine e_then ?_
        refine c_cond (flt .f32 r2 x4) rfl (fun ht3 => ?_) (fun ht3 => ?_)
        · skip
          replace hs3 := if_t ht3 hs3
          obtain ⟨x5, hx5, hs3⟩ := bnd_some hs3
          obtain ⟨l1, hl2, hs3⟩ := bnd_some hs3
          replace hl2 := Option.some.inj hl2
          refine c_region ?_
          refine l_s (.slice a2 r1.length cp2) (by kernel_rfl) ?_
          refine l_s (.int .i64 (i1 : Int)) (by kernel_rfl) ?_
          refine l_s (.int .i64 (addI (i1 : Int) 1)) (by kernel_rfl) ?_
          refine l_s (.float .f32 r2) (by kernel_rfl) ?_
          refine l_q rfl (qs_idx (IsIdx.beg (e := encF .f32) hb2 hl1 hx5) Try.underlying24 fit40 rfl rfl) ?_
          refine l_stS (vs := [.float .f32 r2]) hb2 hl1 hl2 rfl fit40 rfl rfl rfl rfl (idx_some hx5).2.1 ?_
          refine l_nil ?_
          refine e_blk ?_
          obtain rfl := Option.some.inj hs3
          exact e_cut ⟨⟨rfl, rfl, rfl, rfl, rfl, trivial⟩, (PH.le_refl _), rfl⟩
        · skip
          replace hs3 := if_f ht3 hs3
          refine c_skip ?_
          refine e_blk ?_
          obtain rfl := Option.some.inj hs3
          exact e_cut ⟨⟨rfl, rfl, rfl, rfl, rfl, trivial⟩, (PH.le_refl _), rfl⟩
      · skip
        rintro φ2 D5 As4 ⟨hI2, hD2, hA4⟩
        subst As4
        replace drops0_h1 := drops0_h1.mono hD2
        refine e_frame _ hI2 ?_
        refine e_then ?_
        refine c_quiet ?_
        refine ql_s (.int .i64 (addI (i1 : Int) 1)) (by kernel_rfl) ?_
        refine ql_s (.int .i64 (addI (i1 : Int) 1)) (by kernel_rfl) ?_
        refine ql_nil ?_
        obtain rfl := Option.some.inj hx1
        exact e_cut ⟨j1, i1 + 1, s2, by omega, by omega, ⟨rfl, rfl, rfl, rfl, (congrArg (Value.int .i64) (addI_succ (by omega))), trivial⟩, (PH.le_trans hD1 hD2), rfl, hs2⟩
  · skip
    rintro φ3 D3 As5 ⟨hI3, hD3, hA5⟩
    subst As5
    replace drops0_h1 := drops0_h1.mono hD3
    refine e_frame _ hI3 ?_
    refine e_then ?_
    refine c_seq ?_
    refine c_seq ?_
    obtain ⟨i_1, hi_1, hp⟩ := bnd_some hp
    replace hi_1 := Option.some.inj hi_1
    refine c_quiet ?_
    refine ql_s (.slice drops0_v1a drops0.length drops0_v1c) (by kernel_rfl) ?_
    refine ql_s (.int .i64 (drops0.length : Int)) (by kernel_rfl) ?_
    refine ql_s (.int .i64 (subI (drops0.length : Int) 1)) (by kernel_rfl) ?_
    refine ql_s (.int .i64 i_1) (congrArg (fun z => some (Value.int .i64 z)) hi_1) ?_
    refine ql_nil ?_
    refine e_then ?_
    obtain ⟨x6, hs4, hp⟩ := bnd_some hp
    obtain ⟨body2, hbody2, hs4⟩ := loopP_gen hs4
    refine c_cut_end (fun φ1 D6 As1 => Is φ1 [(5, .slice a2 r1.length cp2)] ∧ PH.le D3 D6 ∧ As1 = OwnS D6 (encF .f32) 40 (.slice a2 r1.length cp2) x6 :: F) ?_ ?_
    · skip
      refine c_block ?_
      obtain ⟨kz1, hs4⟩ := loopP_ex hs4
      refine c_loop (fun k φ1 D7 As1 => ∃ (s3 : Int × (List Nat)), Is φ1 [(1, .slice drops0_v1a drops0.length drops0_v1c), (5, .slice a2 r1.length cp2), (9, .int .i64 s3.1)] ∧ PH.le D3 D7 ∧ As1 = OwnS D7 (encF .f32) 40 (.slice a2 r1.length cp2) s3.2 :: F ∧ iter body2 k s3 = some x6) ⟨kz1, (i_1, x1), ⟨rfl, rfl, rfl, trivial⟩, (PH.le_refl _), rfl, hs4⟩ ?_ ?_
      · rintro _ _ _ ⟨_, _, _, _, h0⟩; cases h0
      intro k2
      rintro φ4 D7 As6 ⟨s3, hI4, hD4, hA6, hs5⟩
      subst As6
      replace drops0_h1 := drops0_h1.mono hD4
      refine c_frame _ hI4 ?_
      obtain ⟨y2, hx6, hs5⟩ := iter_some hs5
      replace hx6 := (congrFun hbody2 s3).trans hx6
      refine c_seq ?_
      refine c_seq ?_
      refine c_quiet ?_
      refine ql_s (.int .i64 s3.1) (by kernel_rfl) ?_
      refine ql_s (.bool (decide (s3.1 ≥ 0))) (by kernel_rfl) ?_
      refine ql_nil ?_
      refine e_then ?_
      refine c_cond (decide (s3.1 ≥ 0)) rfl (fun ht4 => ?_) (fun ht4 => ?_)
      · skip
        replace hx6 := if_t ht4 hx6
        refine c_skip ?_
        refine e_then ?_
        refine c_seq ?_
        obtain ⟨s4, hs6, hx6⟩ := bnd_some hx6
        refine c_cut_end (fun φ1 D8 As1 => Is φ1 [(1, .slice drops0_v1a drops0.length drops0_v1c), (5, .slice a2 r1.length cp2), (9, .int .i64 s3.1)] ∧ PH.le D7 D8 ∧ As1 = OwnS D8 (encF .f32) 40 (.slice a2 r1.length cp2) s4 :: F) ?_ ?_
        · skip
          refine c_block ?_
          refine c_seq ?_
          obtain ⟨x7, hx7, hs6⟩ := bnd_some hs6
          obtain ⟨x8, hx8, hs6⟩ := bnd_some hs6
          obtain ⟨b3, o2, h4, hq2⟩ := RO.at drops0_h1 hx8
          obtain ⟨r3, hr3, hs6⟩ := bnd_some hs6
          refine c_adr (fun b4 hb3 hl3 hbd2 hcap2 => ?_)
          refine c_quiet_draw hmix (by kernel_rfl) ?_
          refine ql_s (.slice a2 r1.length cp2) (by kernel_rfl) ?_
          refine ql_s (.int .i64 s3.1) (by kernel_rfl) ?_
          refine ql_s (.int .i64 (addI s3.1 1)) (by kernel_rfl) ?_
          refine ql_q rfl (qs_idx (IsIdx.beg (e := encF .f32) hb3 hl3 hx7) Try.underlying24 fit40 rfl rfl) ?_
          refine ql_q rfl (qs_ldS fit40 hb3 rfl rfl 0 rfl (idx_some hx7).2.2 (v := .float .f32 x7) valF) ?_
          refine ql_s (.slice drops0_v1a drops0.length drops0_v1c) (by kernel_rfl) ?_
          refine ql_s (.int .i64 s3.1) (by kernel_rfl) ?_
          refine ql_q rfl (qs_idx hq2 Try.underlying24 fit40 rfl rfl) ?_
          refine ql_q rfl (qs_ldAtV fit40 rfl h4 valF) ?_
          refine ql_q rfl (qs_fop hr3 rfl rfl) ?_
          refine ql_s (.float .f32 r3) (by kernel_rfl) ?_
          refine ql_nil ?_
          refine e_then ?_
          refine c_seq ?_
          obtain ⟨x9, hx9, hs6⟩ := bnd_some hs6
          refine c_quiet ?_
          refine ql_s (.float .f32 r3) (by kernel_rfl) ?_
          refine ql_s (.slice a2 r1.length cp2) (by kernel_rfl) ?_
          refine ql_s (.int .i64 s3.1) (by kernel_rfl) ?_
          refine ql_q rfl (qs_idx (IsIdx.beg (e := encF .f32) hb3 hl3 hx9) Try.underlying24 fit40 rfl rfl) ?_
          refine ql_q rfl (qs_ldS fit40 hb3 rfl rfl 0 rfl (idx_some hx9).2.2 (v := .float .f32 x9) valF) ?_
          refine ql_s (.bool (flt .f32 r3 x9)) (by kernel_rfl) ?_
          refine ql_nil ?_
          refine e_then ?_
          refine c_cond (flt .f32 r3 x9) rfl (fun ht5 => ?_) (fun ht5 => ?_)
          · skip
            replace hs6 := if_t ht5 hs6
            obtain ⟨x10, hx10, hs6⟩ := bnd_some hs6
            obtain ⟨l2, hl4, hs6⟩ := bnd_some hs6
            replace hl4 := Option.some.inj hl4
            refine c_region ?_
            refine l_s (.slice a2 r1.length cp2) (by kernel_rfl) ?_
            refine l_s (.int .i64 s3.1) (by kernel_rfl) ?_
            refine l_s (.float .f32 r3) (by kernel_rfl) ?_
            refine l_q rfl (qs_idx (IsIdx.beg (e := encF .f32) hb3 hl3 hx10) Try.underlying24 fit40 rfl rfl) ?_
            refine l_stS (vs := [.float .f32 r3]) hb3 hl3 hl4 rfl fit40 rfl rfl rfl rfl (idx_some hx10).2.1 ?_
            refine l_nil ?_
            refine e_blk ?_
            obtain rfl := Option.some.inj hs6
            exact e_cut ⟨⟨rfl, rfl, rfl, trivial⟩, (PH.le_refl _), rfl⟩
          · skip
            replace hs6 := if_f ht5 hs6
            refine c_skip ?_
            refine e_blk ?_
            obtain rfl := Option.some.inj hs6
            exact e_cut ⟨⟨rfl, rfl, rfl, trivial⟩, (PH.le_refl _), rfl⟩
        · skip
          rintro φ5 D8 As7 ⟨hI5, hD5, hA7⟩
          subst As7
          replace drops0_h1 := drops0_h1.mono hD5
          refine e_frame _ hI5 ?_
          refine e_then ?_
          refine c_quiet ?_
          refine ql_s (.int .i64 s3.1) (by kernel_rfl) ?_
          refine ql_s (.int .i64 (subI s3.1 1)) (by kernel_rfl) ?_
          refine ql_s (.int .i64 (subI s3.1 1)) (by kernel_rfl) ?_
          refine ql_nil ?_
          obtain rfl := Option.some.inj hx6
          exact e_cut ⟨(subI s3.1 1, s4), ⟨rfl, rfl, rfl, trivial⟩, (PH.le_trans hD4 hD5), rfl, hs5⟩
      · skip
        replace hx6 := if_f ht4 hx6
        refine c_exit ?_
        refine e_then_exit ?_
        refine e_then_exit ?_
        obtain rfl := Option.some.inj hx6
        obtain rfl := hs5
        refine e_blk_exit ?_
        exact e_cut ⟨⟨rfl, trivial⟩, hD4, rfl⟩
    · skip
      rintro φ6 D6 As8 ⟨hI6, hD6, hA8⟩
      subst As8
      refine e_frame _ hI6 ?_
      refine e_then ?_
      refine c_seq ?_
      refine c_quiet ?_
      refine ql_s (.slice a2 r1.length cp2) (by kernel_rfl) ?_
      refine ql_s (.slice a2 r1.length cp2) (by kernel_rfl) ?_
      refine ql_nil ?_
      refine e_then ?_
      refine c_ret ?_
      refine e_adr (fun b5 hb4 hl5 hbd3 hcap3 => ?_)
      refine e_layS (PH.le_refl _) (fun D9 hle3 h5 => ?_)
      obtain rfl := Option.some.inj hp
      exact post_all (vs := [.slice a2 r1.length cp2]) (.slice a2 r1.length cp2) ⟨rfl, trivial⟩ rfl (.inl rfl) (fun w hS => ⟨D9, a2, cp2, (PH.le_trans (PH.le_trans (PH.le_trans hle2 hD3) hD6) hle3), (by simp only [hl5]), (by rw [hl5]; exact h5), (by have h2 : SInv D9 (F) w := hS; simpa only [hl5] using h2)⟩)

-- tarnfell/road.cut
set_option maxRecDepth 100000 in
set_option maxHeartbeats 4000000 in
theorem road_cut_v1_s (h0 : List Nat) (h0_v1a : Option Addr) (h0_v1c : Nat) (drops0 : List Nat) (drops0_v1a : Option Addr) (drops0_v1c : Nat) (D : PH) (h0_h1 : RO (encF .f32) D (.slice h0_v1a h0.length h0_v1c) h0) (drops0_h1 : RO (encF .f32) D (.slice drops0_v1a drops0.length drops0_v1c) drops0) (F : List Assert) (r : (List Nat)) (hp : road_cut_v1_p h0 drops0 = some r) : ∀ w : World, SInv D (F) w → Calls Try.prog 52 #[.slice h0_v1a h0.length h0_v1c, .slice drops0_v1a drops0.length drops0_v1c] w (fun e w' => ∃ (D1 : PH) (q_a1 : Option Addr) (q_cp1 : Nat), PH.le D D1 ∧ e = .returned (.slice q_a1 r.length q_cp1) ∧ SInv D1 (OwnS D1 (encF .f32) 40 (.slice q_a1 r.length q_cp1) r :: F) w') := by
  intro w hS
  refine call_intro Try.func52 rfl Try.ntmps52 (Nat.le_of_ble_eq_true rfl) hS ?_
  clear hS w
  unfold road_cut_v1_p at hp
  refine c_seq ?_
  refine c_region ?_
  refine l_s (.slice none 0 0) (by kernel_rfl) ?_
  refine l_nilS D (encF .f32) 40 ?_
  refine l_nil ?_
  refine e_drop ?_
  refine e_then ?_
  refine c_seq ?_
  obtain ⟨r1, hr1, hp⟩ := bnd_some hp
  refine c_region ?_
  refine l_s (.slice h0_v1a h0.length h0_v1c) (by kernel_rfl) ?_
  refine l_call rfl rfl Try.call80 (vs := [.slice h0_v1a h0.length h0_v1c]) rfl (fun v D2 As2 => ∃ (a2 : Option Addr) (cp2 : Nat), PH.le D D2 ∧ v = .slice a2 r1.length cp2 ∧ As2 = OwnS D2 (encF .f32) 40 (.slice a2 r1.length cp2) r1 :: F) (fun w hS => (slices_Clone_float32_float32_s h0 h0_v1a h0_v1c _ h0_h1 _ _ hr1 w (hS)).mono fun e w' ⟨D2, a2, cp2, hle2, he, hS2⟩ => ⟨_, D2, _, he, ⟨a2, cp2, hle2, rfl, rfl⟩, hS2⟩) ?_
  rintro _ D2 As2 ⟨a2, cp2, hle2, rfl, hA2⟩
  subst As2
  replace h0_h1 := h0_h1.mono hle2
  replace drops0_h1 := drops0_h1.mono hle2
  refine l_s (.slice a2 r1.length cp2) (by kernel_rfl) ?_
  refine l_nil ?_
  refine e_then ?_
  refine c_seq ?_
  refine c_seq ?_
  refine c_quiet ?_
  refine ql_s (.slice drops0_v1a drops0.length drops0_v1c) (by kernel_rfl) ?_
  refine ql_s (.int .i64 (drops0.length : Int)) (by kernel_rfl) ?_
  refine ql_s (.int .i64 0) (by kernel_rfl) ?_
  refine ql_nil ?_
  refine e_then ?_
  have hb0 : (drops0.length : Int) ≤ 4611686018427387904 := by have := RO.bound drops0_h1; omega
  have hm0 : drops0.length = (drops0.length : Int).toNat := by omega
  have hm1 := hm0; have hb1 := hb0; clear hm0 hb0
  obtain ⟨x1, hs1, hp⟩ := bnd_some hp
  obtain ⟨body1, hbody1, hs1⟩ := forS_gen hs1
  refine c_cut_end (fun φ1 D3 As1 => Is φ1 [(1, .slice drops0_v1a drops0.length drops0_v1c), (5, .slice a2 r1.length cp2)] ∧ PH.le D2 D3 ∧ As1 = OwnS D3 (encF .f32) 40 (.slice a2 r1.length cp2) x1 :: F) ?_ ?_
  · skip
    refine c_block ?_
    refine c_loop (fun k φ1 D4 As1 => ∃ (j1 i1 : Nat) (s1 : (List Nat)), k = j1 + 1 ∧ i1 + j1 = drops0.length ∧ Is φ1 [(1, .slice drops0_v1a drops0.length drops0_v1c), (5, .slice a2 r1.length cp2), (13, .slice drops0_v1a drops0.length drops0_v1c), (14, .int .i64 (drops0.length : Int)), (15, .int .i64 (i1 : Int))] ∧ PH.le D2 D4 ∧ As1 = OwnS D4 (encF .f32) 40 (.slice a2 r1.length cp2) s1 :: F ∧ forS body1 j1 i1 s1 = some x1) ⟨drops0.length + 1, drops0.length, 0, r1, rfl, Nat.zero_add _, ⟨rfl, rfl, rfl, rfl, rfl, trivial⟩, (PH.le_refl _), rfl, hs1⟩ ?_ ?_
    · rintro _ _ _ ⟨_, _, _, h0, _⟩; omega
    intro k1
    rintro φ1 D4 As3 ⟨j1, i1, s1, hk1, hij1, hI1, hD1, hA3, hs2⟩
    subst As3
    replace drops0_h1 := drops0_h1.mono hD1
    refine c_frame _ hI1 ?_
    obtain rfl : k1 = j1 := by omega
    clear hk1
    rcases k1 with _ | j1
    · skip
      refine c_seq ?_
      refine c_quiet ?_
      refine ql_s (.bool (decide ((i1 : Int) < (drops0.length : Int)))) (by kernel_rfl) ?_
      refine ql_nil ?_
      refine e_then ?_
      refine c_seq ?_
      refine c_cond (decide ((i1 : Int) < (drops0.length : Int))) rfl (fun ht1 => absurd ((dec_lt_f hm1 (by omega)).symm.trans ht1) (by simp)) (fun _ => ?_)
      refine c_exit ?_
      refine e_then_exit ?_
      refine e_then_exit ?_
      obtain rfl := Option.some.inj hs2
      refine e_blk_exit ?_
      exact e_cut ⟨⟨rfl, rfl, trivial⟩, hD1, rfl⟩
    · skip
      obtain ⟨y1, hx1, hs2⟩ := forS_some hs2
      replace hx1 := (congrFun (congrFun hbody1 i1) s1).trans hx1
      refine c_seq ?_
      refine c_quiet ?_
      refine ql_s (.bool (decide ((i1 : Int) < (drops0.length : Int)))) (by kernel_rfl) ?_
      refine ql_nil ?_
      refine e_then ?_
      refine c_seq ?_
      refine c_cond (decide ((i1 : Int) < (drops0.length : Int))) rfl (fun _ => ?_) (fun ht2 => absurd ((dec_lt_t hm1 (by omega)).symm.trans ht2) (by simp))
      refine c_skip ?_
      refine e_then ?_
      refine c_seq ?_
      obtain ⟨s2, hs3, hx1⟩ := bnd_some hx1
      refine c_cut_end (fun φ1 D5 As1 => Is φ1 [(1, .slice drops0_v1a drops0.length drops0_v1c), (5, .slice a2 r1.length cp2), (13, .slice drops0_v1a drops0.length drops0_v1c), (14, .int .i64 (drops0.length : Int)), (15, .int .i64 (i1 : Int))] ∧ PH.le D4 D5 ∧ As1 = OwnS D5 (encF .f32) 40 (.slice a2 r1.length cp2) s2 :: F) ?_ ?_
      · skip
        refine c_block ?_
        refine c_seq ?_
        obtain ⟨x2, hx2, hs3⟩ := bnd_some hs3
        obtain ⟨b1, o1, h3, hq1⟩ := RO.at drops0_h1 hx2
        refine c_quiet ?_
        refine ql_s (.int .i64 (i1 : Int)) (by kernel_rfl) ?_
        refine ql_q rfl (qs_idx hq1 Try.underlying24 fit40 rfl rfl) ?_
        refine ql_q rfl (qs_ldAtV fit40 rfl h3 valF) ?_
        refine ql_s (.int .i64 (i1 : Int)) (by kernel_rfl) ?_
        refine ql_s (.float .f32 x2) (by kernel_rfl) ?_
        refine ql_nil ?_
        refine e_then ?_
        refine c_seq ?_
        obtain ⟨x3, hx3, hs3⟩ := bnd_some hs3
        obtain ⟨r2, hr2, hs3⟩ := bnd_some hs3
        refine c_adr (fun b2 hb2 hl1 hbd1 hcap1 => ?_)
        refine c_quiet ?_
        refine ql_s (.slice a2 r1.length cp2) (by kernel_rfl) ?_
        refine ql_s (.int .i64 (i1 : Int)) (by kernel_rfl) ?_
        refine ql_q rfl (qs_idx (IsIdx.beg (e := encF .f32) hb2 hl1 hx3) Try.underlying24 fit40 rfl rfl) ?_
        refine ql_q rfl (qs_ldS fit40 hb2 rfl rfl 0 rfl (idx_some hx3).2.2 (v := .float .f32 x3) valF) ?_
        refine ql_s (.float .f32 x2) (by kernel_rfl) ?_
        refine ql_q rfl (qs_fop hr2 rfl rfl) ?_
        refine ql_s (.float .f32 r2) (by kernel_rfl) ?_
        refine ql_nil ?_
        refine e_then ?_
        refine c_seq ?_
        obtain ⟨x4, hx4, hs3⟩ := bnd_some hs3
        refine c_quiet ?_
        refine ql_s (.float .f32 r2) (by kernel_rfl) ?_
        refine ql_s (.slice a2 r1.length cp2) (by kernel_rfl) ?_
        refine ql_s (.int .i64 (i1 : Int)) (by kernel_rfl) ?_
        refine ql_s (.int .i64 (addI (i1 : Int) 1)) (by kernel_rfl) ?_
        refine ql_q rfl (qs_idx (IsIdx.beg (e := encF .f32) hb2 hl1 hx4) Try.underlying24 fit40 rfl rfl) ?_
        refine ql_q rfl (qs_ldS fit40 hb2 rfl rfl 0 rfl (idx_some hx4).2.2 (v := .float .f32 x4) valF) ?_
        refine ql_s (.bool (flt .f32 r2 x4)) (by kernel_rfl) ?_
        refine ql_nil ?_
        refine e_then ?_
        refine c_cond (flt .f32 r2 x4) rfl (fun ht3 => ?_) (fun ht3 => ?_)
        · skip
          replace hs3 := if_t ht3 hs3
          obtain ⟨x5, hx5, hs3⟩ := bnd_some hs3
          obtain ⟨l1, hl2, hs3⟩ := bnd_some hs3
          replace hl2 := Option.some.inj hl2
          refine c_region ?_
          refine l_s (.slice a2 r1.length cp2) (by kernel_rfl) ?_
          refine l_s (.int .i64 (i1 : Int)) (by kernel_rfl) ?_
          refine l_s (.int .i64 (addI (i1 : Int) 1)) (by kernel_rfl) ?_
          refine l_s (.float .f32 r2) (by kernel_rfl) ?_
          refine l_q rfl (qs_idx (IsIdx.beg (e := encF .f32) hb2 hl1 hx5) Try.underlying24 fit40 rfl rfl) ?_
          refine l_stS (vs := [.float .f32 r2]) hb2 hl1 hl2 rfl fit40 rfl rfl rfl rfl (idx_some hx5).2.1 ?_
          refine l_nil ?_
          refine e_blk ?_
          obtain rfl := Option.some.inj hs3
          exact e_cut ⟨⟨rfl, rfl, rfl, rfl, rfl, trivial⟩, (PH.le_refl _), rfl⟩
        · skip
          replace hs3 := if_f ht3 hs3
          refine c_skip ?_
          refine e_blk ?_
          obtain rfl := Option.some.inj hs3
          exact e_cut ⟨⟨rfl, rfl, rfl, rfl, rfl, trivial⟩, (PH.le_refl _), rfl⟩
      · skip
        rintro φ2 D5 As4 ⟨hI2, hD2, hA4⟩
        subst As4
        replace drops0_h1 := drops0_h1.mono hD2
        refine e_frame _ hI2 ?_
        refine e_then ?_
        refine c_quiet ?_
        refine ql_s (.int .i64 (addI (i1 : Int) 1)) (by kernel_rfl) ?_
        refine ql_s (.int .i64 (addI (i1 : Int) 1)) (by kernel_rfl) ?_
        refine ql_nil ?_
        obtain rfl := Option.some.inj hx1
        exact e_cut ⟨j1, i1 + 1, s2, by omega, by omega, ⟨rfl, rfl, rfl, rfl, (congrArg (Value.int .i64) (addI_succ (by omega))), trivial⟩, (PH.le_trans hD1 hD2), rfl, hs2⟩
  · skip
    rintro φ3 D3 As5 ⟨hI3, hD3, hA5⟩
    subst As5
    replace drops0_h1 := drops0_h1.mono hD3
    refine e_frame _ hI3 ?_
    refine e_then ?_
    refine c_seq ?_
    refine c_seq ?_
    obtain ⟨i_1, hi_1, hp⟩ := bnd_some hp
    replace hi_1 := Option.some.inj hi_1
    refine c_quiet ?_
    refine ql_s (.slice drops0_v1a drops0.length drops0_v1c) (by kernel_rfl) ?_
    refine ql_s (.int .i64 (drops0.length : Int)) (by kernel_rfl) ?_
    refine ql_s (.int .i64 (subI (drops0.length : Int) 1)) (by kernel_rfl) ?_
    refine ql_s (.int .i64 i_1) (congrArg (fun z => some (Value.int .i64 z)) hi_1) ?_
    refine ql_nil ?_
    refine e_then ?_
    obtain ⟨x6, hs4, hp⟩ := bnd_some hp
    obtain ⟨body2, hbody2, hs4⟩ := loopP_gen hs4
    refine c_cut_end (fun φ1 D6 As1 => Is φ1 [(5, .slice a2 r1.length cp2)] ∧ PH.le D3 D6 ∧ As1 = OwnS D6 (encF .f32) 40 (.slice a2 r1.length cp2) x6 :: F) ?_ ?_
    · skip
      refine c_block ?_
      obtain ⟨kz1, hs4⟩ := loopP_ex hs4
      refine c_loop (fun k φ1 D7 As1 => ∃ (s3 : Int × (List Nat)), Is φ1 [(1, .slice drops0_v1a drops0.length drops0_v1c), (5, .slice a2 r1.length cp2), (9, .int .i64 s3.1)] ∧ PH.le D3 D7 ∧ As1 = OwnS D7 (encF .f32) 40 (.slice a2 r1.length cp2) s3.2 :: F ∧ iter body2 k s3 = some x6) ⟨kz1, (i_1, x1), ⟨rfl, rfl, rfl, trivial⟩, (PH.le_refl _), rfl, hs4⟩ ?_ ?_
      · rintro _ _ _ ⟨_, _, _, _, h0⟩; cases h0
      intro k2
      rintro φ4 D7 As6 ⟨s3, hI4, hD4, hA6, hs5⟩
      subst As6
      replace drops0_h1 := drops0_h1.mono hD4
      refine c_frame _ hI4 ?_
      obtain ⟨y2, hx6, hs5⟩ := iter_some hs5
      replace hx6 := (congrFun hbody2 s3).trans hx6
      refine c_seq ?_
      refine c_seq ?_
      refine c_quiet ?_
      refine ql_s (.int .i64 s3.1) (by kernel_rfl) ?_
      refine ql_s (.bool (decide (s3.1 ≥ 0))) (by kernel_rfl) ?_
      refine ql_nil ?_
      refine e_then ?_
      refine c_cond (decide (s3.1 ≥ 0)) rfl (fun ht4 => ?_) (fun ht4 => ?_)
      · skip
        replace hx6 := if_t ht4 hx6
        refine c_skip ?_
        refine e_then ?_
        refine c_seq ?_
        obtain ⟨s4, hs6, hx6⟩ := bnd_some hx6
        refine c_cut_end (fun φ1 D8 As1 => Is φ1 [(1, .slice drops0_v1a drops0.length drops0_v1c), (5, .slice a2 r1.length cp2), (9, .int .i64 s3.1)] ∧ PH.le D7 D8 ∧ As1 = OwnS D8 (encF .f32) 40 (.slice a2 r1.length cp2) s4 :: F) ?_ ?_
        · skip
          refine c_block ?_
          refine c_seq ?_
          obtain ⟨x7, hx7, hs6⟩ := bnd_some hs6
          obtain ⟨x8, hx8, hs6⟩ := bnd_some hs6
          obtain ⟨b3, o2, h4, hq2⟩ := RO.at drops0_h1 hx8
          obtain ⟨r3, hr3, hs6⟩ := bnd_some hs6
          refine c_adr (fun b4 hb3 hl3 hbd2 hcap2 => ?_)
          refine c_quiet_draw hmix (by kernel_rfl) ?_
          refine ql_s (.slice a2 r1.length cp2) (by kernel_rfl) ?_
          refine ql_s (.int .i64 s3.1) (by kernel_rfl) ?_
          refine ql_s (.int .i64 (addI s3.1 1)) (by kernel_rfl) ?_
          refine ql_q rfl (qs_idx (IsIdx.beg (e := encF .f32) hb3 hl3 hx7) Try.underlying24 fit40 rfl rfl) ?_
          refine ql_q rfl (qs_ldS fit40 hb3 rfl rfl 0 rfl (idx_some hx7).2.2 (v := .float .f32 x7) valF) ?_
          refine ql_s (.slice drops0_v1a drops0.length drops0_v1c) (by kernel_rfl) ?_
          refine ql_s (.int .i64 s3.1) (by kernel_rfl) ?_
          refine ql_q rfl (qs_idx hq2 Try.underlying24 fit40 rfl rfl) ?_
          refine ql_q rfl (qs_ldAtV fit40 rfl h4 valF) ?_
          refine ql_q rfl (qs_fop hr3 rfl rfl) ?_
          refine ql_s (.float .f32 r3) (by kernel_rfl) ?_
          refine ql_nil ?_
          refine e_then ?_
          refine c_seq ?_
          obtain ⟨x9, hx9, hs6⟩ := bnd_some hs6
          refine c_quiet ?_
          refine ql_s (.float .f32 r3) (by kernel_rfl) ?_
          refine ql_s (.slice a2 r1.length cp2) (by kernel_rfl) ?_
          refine ql_s (.int .i64 s3.1) (by kernel_rfl) ?_
          refine ql_q rfl (qs_idx (IsIdx.beg (e := encF .f32) hb3 hl3 hx9) Try.underlying24 fit40 rfl rfl) ?_
          refine ql_q rfl (qs_ldS fit40 hb3 rfl rfl 0 rfl (idx_some hx9).2.2 (v := .float .f32 x9) valF) ?_
          refine ql_s (.bool (flt .f32 r3 x9)) (by kernel_rfl) ?_
          refine ql_nil ?_
          refine e_then ?_
          refine c_cond (flt .f32 r3 x9) rfl (fun ht5 => ?_) (fun ht5 => ?_)
          · skip
            replace hs6 := if_t ht5 hs6
            obtain ⟨x10, hx10, hs6⟩ := bnd_some hs6
            obtain ⟨l2, hl4, hs6⟩ := bnd_some hs6
            replace hl4 := Option.some.inj hl4
            refine c_region ?_
            refine l_s (.slice a2 r1.length cp2) (by kernel_rfl) ?_
            refine l_s (.int .i64 s3.1) (by kernel_rfl) ?_
            refine l_s (.float .f32 r3) (by kernel_rfl) ?_
            refine l_q rfl (qs_idx (IsIdx.beg (e := encF .f32) hb3 hl3 hx10) Try.underlying24 fit40 rfl rfl) ?_
            refine l_stS (vs := [.float .f32 r3]) hb3 hl3 hl4 rfl fit40 rfl rfl rfl rfl (idx_some hx10).2.1 ?_
            refine l_nil ?_
            refine e_blk ?_
            obtain rfl := Option.some.inj hs6
            exact e_cut ⟨⟨rfl, rfl, rfl, trivial⟩, (PH.le_refl _), rfl⟩
          · skip
            replace hs6 := if_f ht5 hs6
            refine c_skip ?_
            refine e_blk ?_
            obtain rfl := Option.some.inj hs6
            exact e_cut ⟨⟨rfl, rfl, rfl, trivial⟩, (PH.le_refl _), rfl⟩
        · skip
          rintro φ5 D8 As7 ⟨hI5, hD5, hA7⟩
          subst As7
          replace drops0_h1 := drops0_h1.mono hD5
          refine e_frame _ hI5 ?_
          refine e_then ?_
          refine c_quiet ?_
          refine ql_s (.int .i64 s3.1) (by kernel_rfl) ?_
          refine ql_s (.int .i64 (subI s3.1 1)) (by kernel_rfl) ?_
          refine ql_s (.int .i64 (subI s3.1 1)) (by kernel_rfl) ?_
          refine ql_nil ?_
          obtain rfl := Option.some.inj hx6
          exact e_cut ⟨(subI s3.1 1, s4), ⟨rfl, rfl, rfl, trivial⟩, (PH.le_trans hD4 hD5), rfl, hs5⟩
      · skip
        replace hx6 := if_f ht4 hx6
        refine c_exit ?_
        refine e_then_exit ?_
        refine e_then_exit ?_
        obtain rfl := Option.some.inj hx6
        obtain rfl := hs5
        refine e_blk_exit ?_
        exact e_cut ⟨⟨rfl, trivial⟩, hD4, rfl⟩
    · skip
      rintro φ6 D6 As8 ⟨hI6, hD6, hA8⟩
      subst As8
      refine e_frame _ hI6 ?_
      refine e_then ?_
      refine c_seq ?_
      refine c_quiet ?_
      refine ql_s (.slice a2 r1.length cp2) (by kernel_rfl) ?_
      refine ql_s (.slice a2 r1.length cp2) (by kernel_rfl) ?_
      refine ql_nil ?_
      refine e_then ?_
      refine c_ret ?_
      obtain rfl := Option.some.inj hp
      refine e_adr (fun b5 hb4 hl5 hbd3 hcap3 => ?_)
      exact post_all (vs := [.slice a2 r1.length cp2]) (.slice a2 r1.length cp2) ⟨rfl, trivial⟩ rfl (.inl rfl) (fun w hS => ⟨D6, a2, cp2, (PH.le_trans (PH.le_trans hle2 hD3) hD6), (by simp only [hl5]), (by have h2 : SInv D6 (OwnS D6 (encF .f32) 40 (.slice a2 r1.length cp2) x6 :: F) w := hS; simpa only [hl5] using h2)⟩)

-- tarnfell/road.Bed
set_option maxRecDepth 100000 in
set_option maxHeartbeats 4000000 in
theorem road_Bed_s (f0 : S_api_Field) (f0_v1a : Option Addr) (f0_v1c : Nat) (way0 : List S_api_Point) (way0_v1a : Option Addr) (way0_v1c : Nat) (how0 : Int) (most0 : Nat) (D : PH) (f0_h1 : RO (encF .f32) D (.slice f0_v1a f0.V.length f0_v1c) f0.V) (way0_h1 : RO encS_api_Point D (.slice way0_v1a way0.length way0_v1c) way0) (F : List Assert) (r : (List Nat) × Int) (hp : road_Bed_p f0 way0 how0 most0 = some r) : ∀ w : World, SInv D (F) w → Calls Try.prog 18 #[.agg #[.int .i64 f0.Region.X, .int .i64 f0.Region.Y, .int .i64 f0.Region.W, .int .i64 f0.Region.H, .slice f0_v1a f0.V.length f0_v1c], .slice way0_v1a way0.length way0_v1c, .int .i64 how0, .float .f32 most0] w (fun e w' => ∃ (D1 : PH) (q_a1 : Option Addr) (q_cp1 : Nat), PH.le D D1 ∧ e = .returned (.tuple #[.slice q_a1 r.1.length q_cp1, .int .i64 r.2]) ∧ RO (encF .f32) D1 (.slice q_a1 r.1.length q_cp1) r.1 ∧ SInv D1 (F) w') := by
  intro w hS
  refine call_intro Try.func18 rfl Try.ntmps18 (Nat.le_of_ble_eq_true rfl) hS ?_
  clear hS w
  unfold road_Bed_p at hp
  refine c_seq ?_
  refine c_region ?_
  refine l_box (cs := [.int .i64 f0.Region.X, .int .i64 f0.Region.Y, .int .i64 f0.Region.W, .int .i64 f0.Region.H, .slice f0_v1a f0.V.length f0_v1c]) rfl rfl (fun b2 => ?_)
  refine l_s (.slice none 0 0) (by kernel_rfl) ?_
  refine l_s (.int .i64 0) (by kernel_rfl) ?_
  refine l_nil ?_
  refine e_then ?_
  refine c_seq ?_
  refine c_seq ?_
  obtain ⟨r1, hr1, hp⟩ := bnd_some hp
  refine c_quiet ?_
  refine ql_q rfl (qs_ldpt (encW 5 (by decide)) fitv26 rfl 0 rfl (.agg #[.int .i64 f0.Region.X, .int .i64 f0.Region.Y, .int .i64 f0.Region.W, .int .i64 f0.Region.H, .slice f0_v1a f0.V.length f0_v1c]) (Nat.le_of_ble_eq_true rfl) rfl) ?_
  refine ql_s (.slice way0_v1a way0.length way0_v1c) (by kernel_rfl) ?_
  refine ql_call (v := .int .i64 r1) rfl (run_call (vs := [.agg #[.int .i64 f0.Region.X, .int .i64 f0.Region.Y, .int .i64 f0.Region.W, .int .i64 f0.Region.H, .slice f0_v1a f0.V.length f0_v1c], .slice way0_v1a way0.length way0_v1c]) rfl Try.call33 rfl) (fun w hS => (road_onField_s f0 f0_v1a f0_v1c way0 way0_v1a way0_v1c _ f0_h1 way0_h1 _ _ hr1 w (hS)).mono fun e w' h => ⟨h.1, h.2⟩) ?_
  refine ql_s (.int .i64 r1) (by kernel_rfl) ?_
  refine ql_nil ?_
  refine e_then ?_
  refine c_seq ?_
  refine c_quiet ?_
  refine ql_s (.int .i64 r1) (by kernel_rfl) ?_
  refine ql_s (.bool (r1 != 0)) (by kernel_rfl) ?_
  refine ql_nil ?_
  refine e_then ?_
  refine c_cond ((r1 != 0)) rfl (fun ht1 => ?_) (fun ht1 => ?_)
  · skip
    replace hp := if_t ht1 hp
    refine c_seq ?_
    refine c_quiet ?_
    refine ql_s (.int .i64 r1) (by kernel_rfl) ?_
    refine ql_s (.slice none 0 0) (by kernel_rfl) ?_
    refine ql_s (.int .i64 r1) (by kernel_rfl) ?_
    refine ql_nil ?_
    refine e_drop ?_
    refine e_then ?_
    refine c_ret ?_
    refine e_then_ret ?_
    obtain rfl := Option.some.inj hp
    exact post_all (vs := [.slice none 0 0, .int .i64 r1]) (.tuple #[.slice none 0 0, .int .i64 r1]) ⟨rfl, rfl, trivial⟩ rfl (.inl rfl) (fun w hS => ⟨D, none, 0, (PH.le_refl _), rfl, (RO.nil _ _), hS⟩)
  · skip
    replace hp := if_f ht1 hp
    refine c_skip ?_
    refine e_then ?_
    refine c_seq ?_
    refine c_seq ?_
    refine c_cutq_end [(1, .slice way0_v1a way0.length way0_v1c), (2, .int .i64 how0), (3, .float .f32 most0), (4, .pointer (some ⟨b2, 0, none⟩)), (30, .bool ((decide (how0 < 1)) || (decide (how0 > 3))))] ?_ ?_
    · skip
      refine c_quiet ?_
      refine ql_s (.int .i64 how0) (by kernel_rfl) ?_
      refine ql_s (.bool (decide (how0 < 1))) (by kernel_rfl) ?_
      refine ql_s (.bool (decide (how0 < 1))) (by kernel_rfl) ?_
      refine ql_case 27 (decide (how0 < 1)) rfl (fun hg1 => ?_) (fun hg1 => ?_)
      · skip
        refine ql_s undef (by kernel_rfl) ?_
        refine ql_s undef (by kernel_rfl) ?_
        refine ql_s (.bool true) (by kernel_rfl) ?_
        refine ql_nil (e_cutq ?_)
        exact ⟨rfl, rfl, rfl, rfl, (congrArg Value.bool (by first | rfl | (rw [hg1]; rfl) | simp [hg1])), trivial⟩
      · skip
        refine ql_s (.int .i64 how0) (by kernel_rfl) ?_
        refine ql_s (.bool (decide (how0 > 3))) (by kernel_rfl) ?_
        refine ql_s (.bool (decide (how0 > 3))) (by kernel_rfl) ?_
        refine ql_nil (e_cutq ?_)
        exact ⟨rfl, rfl, rfl, rfl, (congrArg Value.bool (by first | rfl | (rw [hg1]; rfl) | simp [hg1])), trivial⟩
    intro _
    refine e_then ?_
    refine c_cond (((decide (how0 < 1)) || (decide (how0 > 3)))) rfl (fun ht2 => ?_) (fun ht2 => ?_)
    · skip
      replace hp := if_t ht2 hp
      refine c_seq ?_
      refine c_quiet ?_
      refine ql_s (.slice none 0 0) (by kernel_rfl) ?_
      refine ql_s (.int .i64 1) (by kernel_rfl) ?_
      refine ql_nil ?_
      refine e_drop ?_
      refine e_then ?_
      refine c_ret ?_
      refine e_then_ret ?_
      obtain rfl := Option.some.inj hp
      exact post_all (vs := [.slice none 0 0, .int .i64 1]) (.tuple #[.slice none 0 0, .int .i64 1]) ⟨rfl, rfl, trivial⟩ rfl (.inl rfl) (fun w hS => ⟨D, none, 0, (PH.le_refl _), rfl, (RO.nil _ _), hS⟩)
    · skip
      replace hp := if_f ht2 hp
      refine c_skip ?_
      refine e_then ?_
      refine c_seq ?_
      refine c_seq ?_
      obtain ⟨r2, hr2, hp⟩ := bnd_some hp
      refine c_region ?_
      refine l_s (.float .f32 most0) (by kernel_rfl) ?_
      refine l_bslS (cs := [.float .f32 most0]) (E := 40) (e := encF .f32) ([most0] : List Nat) rfl (by kernel_rfl) rfl rfl (Nat.le_of_ble_eq_true rfl) ⟨rfl, trivial⟩ (fun b4 cp2 => ?_)
      refine l_callq (v := .int .i64 r2) rfl rfl Try.call34 (vs := [.slice (some ⟨b4, 0, none⟩) ([most0] : List Nat).length cp2]) rfl (fun w hS => (calls_thaw (PH.le_refl _) (hS) (fun D0' hLl0 hLr0 hS => (field_Heights_s ([most0] : List Nat) (some ⟨b4, 0, none⟩) cp2 _ hLr0 _ _ hr2 w (hS)).mono fun e w' h => ⟨h.1, h.2⟩)).mono fun e w' h => ⟨h.1, h.2⟩) ?_
      refine l_s (.int .i64 r2) (by kernel_rfl) ?_
      refine l_nil ?_
      refine e_drop ?_
      refine e_then ?_
      refine c_seq ?_
      refine c_quiet ?_
      refine ql_s (.int .i64 r2) (by kernel_rfl) ?_
      refine ql_s (.bool (r2 != 0)) (by kernel_rfl) ?_
      refine ql_nil ?_
      refine e_then ?_
      refine c_cond ((r2 != 0)) rfl (fun ht3 => ?_) (fun ht3 => ?_)
      · skip
        replace hp := if_t ht3 hp
        refine c_seq ?_
        refine c_quiet ?_
        refine ql_s (.int .i64 r2) (by kernel_rfl) ?_
        refine ql_s (.slice none 0 0) (by kernel_rfl) ?_
        refine ql_s (.int .i64 r2) (by kernel_rfl) ?_
        refine ql_nil ?_
        refine e_drop ?_
        refine e_then ?_
        refine c_ret ?_
        refine e_then_ret ?_
        obtain rfl := Option.some.inj hp
        exact post_all (vs := [.slice none 0 0, .int .i64 r2]) (.tuple #[.slice none 0 0, .int .i64 r2]) ⟨rfl, rfl, trivial⟩ rfl (.inl rfl) (fun w hS => ⟨D, none, 0, (PH.le_refl _), rfl, (RO.nil _ _), hS⟩)
      · skip
        replace hp := if_f ht3 hp
        refine c_skip ?_
        refine e_then ?_
        refine c_seq ?_
        refine c_seq ?_
        refine c_cutq_end [(1, .slice way0_v1a way0.length way0_v1c), (2, .int .i64 how0), (3, .float .f32 most0), (4, .pointer (some ⟨b2, 0, none⟩)), (42, .bool ((flt .f32 most0 0) || (fgt .f32 most0 1149239296)))] ?_ ?_
        · skip
          refine c_quiet ?_
          refine ql_s (.float .f32 most0) (by kernel_rfl) ?_
          refine ql_s (.bool (flt .f32 most0 0)) (by kernel_rfl) ?_
          refine ql_s (.bool (flt .f32 most0 0)) (by kernel_rfl) ?_
          refine ql_case 39 (flt .f32 most0 0) rfl (fun hg2 => ?_) (fun hg2 => ?_)
          · skip
            refine ql_s undef (by kernel_rfl) ?_
            refine ql_s undef (by kernel_rfl) ?_
            refine ql_s (.bool true) (by kernel_rfl) ?_
            refine ql_nil (e_cutq ?_)
            exact ⟨rfl, rfl, rfl, rfl, (congrArg Value.bool (by first | rfl | (rw [hg2]; rfl) | simp [hg2])), trivial⟩
          · skip
            refine ql_s (.float .f32 most0) (by kernel_rfl) ?_
            refine ql_s (.bool (fgt .f32 most0 1149239296)) (by kernel_rfl) ?_
            refine ql_s (.bool (fgt .f32 most0 1149239296)) (by kernel_rfl) ?_
            refine ql_nil (e_cutq ?_)
            exact ⟨rfl, rfl, rfl, rfl, (congrArg Value.bool (by first | rfl | (rw [hg2]; rfl) | simp [hg2])), trivial⟩
        intro _
        refine e_then ?_
        refine c_cond (((flt .f32 most0 0) || (fgt .f32 most0 1149239296))) rfl (fun ht4 => ?_) (fun ht4 => ?_)
        · skip
          replace hp := if_t ht4 hp
          refine c_seq ?_
          refine c_quiet ?_
          refine ql_s (.slice none 0 0) (by kernel_rfl) ?_
          refine ql_s (.int .i64 3) (by kernel_rfl) ?_
          refine ql_nil ?_
          refine e_drop ?_
          refine e_then ?_
          refine c_ret ?_
          refine e_then_ret ?_
          obtain rfl := Option.some.inj hp
          exact post_all (vs := [.slice none 0 0, .int .i64 3]) (.tuple #[.slice none 0 0, .int .i64 3]) ⟨rfl, rfl, trivial⟩ rfl (.inl rfl) (fun w hS => ⟨D, none, 0, (PH.le_refl _), rfl, (RO.nil _ _), hS⟩)
        · skip
          replace hp := if_f ht4 hp
          refine c_skip ?_
          refine e_then ?_
          refine c_seq ?_
          obtain ⟨r3, hr3, hp⟩ := bnd_some hp
          refine c_region ?_
          refine l_q rfl (qs_ldpt (encW 5 (by decide)) fitv26 rfl 0 rfl (.agg #[.int .i64 f0.Region.X, .int .i64 f0.Region.Y, .int .i64 f0.Region.W, .int .i64 f0.Region.H, .slice f0_v1a f0.V.length f0_v1c]) (Nat.le_of_ble_eq_true rfl) rfl) ?_
          refine l_s (.slice way0_v1a way0.length way0_v1c) (by kernel_rfl) ?_
          refine l_call rfl rfl Try.call48 (vs := [.agg #[.int .i64 f0.Region.X, .int .i64 f0.Region.Y, .int .i64 f0.Region.W, .int .i64 f0.Region.H, .slice f0_v1a f0.V.length f0_v1c], .slice way0_v1a way0.length way0_v1c]) rfl (fun v D2 As2 => ∃ (a2 : Option Addr) (cp4 : Nat), PH.le D D2 ∧ v = .slice a2 r3.length cp4 ∧ RO (encF .f32) D2 (.slice a2 r3.length cp4) r3 ∧ As2 = pt b2 [.int .i64 f0.Region.X, .int .i64 f0.Region.Y, .int .i64 f0.Region.W, .int .i64 f0.Region.H, .slice f0_v1a f0.V.length f0_v1c] 26 :: F) (fun w hS => (road_heights_s f0 f0_v1a f0_v1c way0 way0_v1a way0_v1c _ f0_h1 way0_h1 _ _ hr3 w (hS)).mono fun e w' ⟨D2, a2, cp4, hle2, he, h2, hS2⟩ => ⟨_, D2, _, he, ⟨a2, cp4, hle2, rfl, h2, rfl⟩, hS2⟩) ?_
          rintro _ D2 As2 ⟨a2, cp4, hle2, rfl, h2, hA2⟩
          subst As2
          replace way0_h1 := way0_h1.mono hle2
          replace f0_h1 := f0_h1.mono hle2
          refine l_s (.slice a2 r3.length cp4) (by kernel_rfl) ?_
          refine l_nil ?_
          refine e_drop ?_
          refine e_then ?_
          refine c_seq ?_
          obtain ⟨r4, hr4, hp⟩ := bnd_some hp
          refine c_region ?_
          refine l_s (.slice way0_v1a way0.length way0_v1c) (by kernel_rfl) ?_
          refine l_call rfl rfl Try.call49 (vs := [.slice way0_v1a way0.length way0_v1c]) rfl (fun v D4 As4 => ∃ (a4 : Option Addr) (cp6 : Nat), PH.le D2 D4 ∧ v = .slice a4 r4.length cp6 ∧ As4 = OwnS D4 (encF .f32) 40 (.slice a4 r4.length cp6) r4 :: F) (fun w hS => (road_lengths_s way0 way0_v1a way0_v1c _ way0_h1 _ _ hr4 w (hS)).mono fun e w' ⟨D4, a4, cp6, hle4, he, hS2⟩ => ⟨_, D4, _, he, ⟨a4, cp6, hle4, rfl, rfl⟩, hS2⟩) ?_
          rintro _ D4 As4 ⟨a4, cp6, hle4, rfl, hA4⟩
          subst As4
          replace way0_h1 := way0_h1.mono hle4
          replace h2 := h2.mono hle4
          replace f0_h1 := f0_h1.mono hle4
          refine l_s (.slice a4 r4.length cp6) (by kernel_rfl) ?_
          refine l_nil ?_
          refine e_then ?_
          refine c_seq ?_
          refine c_seq ?_
          refine c_quiet ?_
          refine ql_s (.slice a4 r4.length cp6) (by kernel_rfl) ?_
          refine ql_s (.int .i64 (r4.length : Int)) (by kernel_rfl) ?_
          refine ql_s (.int .i64 0) (by kernel_rfl) ?_
          refine ql_nil ?_
          refine e_then ?_
          refine c_adr (fun b5 hb1 hl1 hbd1 hcap1 => ?_)
          have hb0 : (r4.length : Int) ≤ 4611686018427387904 := by have h1 := (rfl : r4.length = r4.length); have h2 := hbd1; omega
          have hm0 : r4.length = (r4.length : Int).toNat := (Int.toNat_natCast _).symm
          have hm1 := hm0; have hb2 := hb0; clear hm0 hb0
          obtain ⟨x1, hs1, hp⟩ := bnd_some hp
          obtain ⟨body1, hbody1, hs1⟩ := forS_gen hs1
          refine c_cut_end (fun φ1 D5 As1 => Is φ1 [(2, .int .i64 how0), (12, .slice a2 r3.length cp4), (13, .slice a4 r4.length cp6)] ∧ PH.le D4 D5 ∧ As1 = OwnS D5 (encF .f32) 40 (.slice a4 r4.length cp6) x1 :: F) ?_ ?_
          · skip
            refine c_block ?_
            refine c_loop (fun k φ1 D6 As1 => ∃ (j1 i1 : Nat) (s1 : (List Nat)), k = j1 + 1 ∧ i1 + j1 = r4.length ∧ Is φ1 [(2, .int .i64 how0), (3, .float .f32 most0), (12, .slice a2 r3.length cp4), (13, .slice a4 r4.length cp6), (48, .slice a4 r4.length cp6), (49, .int .i64 (r4.length : Int)), (50, .int .i64 (i1 : Int))] ∧ PH.le D4 D6 ∧ As1 = OwnS D6 (encF .f32) 40 (.slice a4 r4.length cp6) s1 :: F ∧ forS body1 j1 i1 s1 = some x1) ⟨r4.length + 1, r4.length, 0, r4, rfl, Nat.zero_add _, ⟨rfl, rfl, rfl, rfl, rfl, rfl, rfl, trivial⟩, (PH.le_refl _), rfl, hs1⟩ ?_ ?_
            · rintro _ _ _ ⟨_, _, _, h0, _⟩; omega
            intro k1
            rintro φ1 D6 As5 ⟨j1, i1, s1, hk1, hij1, hI1, hD1, hA5, hs2⟩
            subst As5
            replace h2 := h2.mono hD1
            replace f0_h1 := f0_h1.mono hD1
            refine c_frame _ hI1 ?_
            obtain rfl : k1 = j1 := by omega
            clear hk1
            rcases k1 with _ | j1
            · skip
              refine c_seq ?_
              refine c_quiet ?_
              refine ql_s (.bool (decide ((i1 : Int) < (r4.length : Int)))) (by kernel_rfl) ?_
              refine ql_nil ?_
              refine e_then ?_
              refine c_seq ?_
              refine c_cond (decide ((i1 : Int) < (r4.length : Int))) rfl (fun ht5 => absurd ((dec_lt_f hm1 (by omega)).symm.trans ht5) (by simp)) (fun _ => ?_)
              refine c_exit ?_
              refine e_then_exit ?_
              refine e_then_exit ?_
              obtain rfl := Option.some.inj hs2
              refine e_blk_exit ?_
              exact e_cut ⟨⟨rfl, rfl, rfl, trivial⟩, hD1, rfl⟩
            · skip
              obtain ⟨y1, hx1, hs2⟩ := forS_some hs2
              replace hx1 := (congrFun (congrFun hbody1 i1) s1).trans hx1
              refine c_seq ?_
              refine c_quiet ?_
              refine ql_s (.bool (decide ((i1 : Int) < (r4.length : Int)))) (by kernel_rfl) ?_
              refine ql_nil ?_
              refine e_then ?_
              refine c_seq ?_
              refine c_cond (decide ((i1 : Int) < (r4.length : Int))) rfl (fun _ => ?_) (fun ht6 => absurd ((dec_lt_t hm1 (by omega)).symm.trans ht6) (by simp))
              refine c_skip ?_
              refine e_then ?_
              refine c_seq ?_
              refine c_block ?_
              refine c_seq ?_
              obtain ⟨x2, hx2, hx1⟩ := bnd_some hx1
              refine c_adr (fun b6 hb3 hl2 hbd2 hcap2 => ?_)
              refine c_quiet ?_
              refine ql_s (.int .i64 (i1 : Int)) (by kernel_rfl) ?_
              refine ql_q rfl (qs_idx (IsIdx.beg (e := encF .f32) hb3 hl2 hx2) Try.underlying24 fit40 rfl rfl) ?_
              refine ql_q rfl (qs_ldS fit40 hb3 rfl rfl 0 rfl (idx_some hx2).2.2 (v := .float .f32 x2) valF) ?_
              refine ql_s (.int .i64 (i1 : Int)) (by kernel_rfl) ?_
              refine ql_s (.float .f32 x2) (by kernel_rfl) ?_
              refine ql_nil ?_
              refine e_then ?_
              obtain ⟨r5, hr5, hx1⟩ := bnd_some hx1
              obtain ⟨x3, hx3, hx1⟩ := bnd_some hx1
              obtain ⟨l1, hl3, hx1⟩ := bnd_some hx1
              replace hl3 := Option.some.inj hl3
              refine c_region ?_
              refine l_s (.slice a4 r4.length cp6) (by kernel_rfl) ?_
              refine l_s (.int .i64 (i1 : Int)) (by kernel_rfl) ?_
              refine l_s (.float .f32 most0) (by kernel_rfl) ?_
              refine l_s (.float .f32 x2) (by kernel_rfl) ?_
              refine l_q rfl (qs_fop hr5 rfl rfl) ?_
              refine l_q rfl (qs_idx (IsIdx.beg (e := encF .f32) hb3 hl2 hx3) Try.underlying24 fit40 rfl rfl) ?_
              refine l_stS (vs := [.float .f32 r5]) hb3 hl2 hl3 rfl fit40 rfl rfl rfl rfl (idx_some hx3).2.1 ?_
              refine l_nil ?_
              refine e_blk ?_
              refine e_then ?_
              refine c_quiet ?_
              refine ql_s (.int .i64 (addI (i1 : Int) 1)) (by kernel_rfl) ?_
              refine ql_s (.int .i64 (addI (i1 : Int) 1)) (by kernel_rfl) ?_
              refine ql_nil ?_
              obtain rfl := Option.some.inj hx1
              exact e_cut ⟨j1, i1 + 1, l1, by omega, by omega, ⟨rfl, rfl, rfl, rfl, rfl, rfl, (congrArg (Value.int .i64) (addI_succ (by omega))), trivial⟩, hD1, rfl, hs2⟩
          · skip
            rintro φ2 D5 As6 ⟨hI2, hD2, hA6⟩
            subst As6
            replace h2 := h2.mono hD2
            replace f0_h1 := f0_h1.mono hD2
            refine e_frame _ hI2 ?_
            refine e_then ?_
            refine c_seq ?_
            refine c_seq ?_
            refine c_quiet ?_
            refine ql_s (.int .i64 how0) (by kernel_rfl) ?_
            refine ql_nil ?_
            refine e_then ?_
            refine c_block ?_
            refine c_seq ?_
            refine c_quiet ?_
            refine ql_s (.bool (how0 == 1)) (by kernel_rfl) ?_
            refine ql_s (.bool (how0 == 1)) (by kernel_rfl) ?_
            refine ql_nil ?_
            refine e_then ?_
            refine c_cond ((how0 == 1)) rfl (fun ht7 => ?_) (fun ht7 => ?_)
            · skip
              replace hp := if_t ht7 hp
              refine c_seq ?_
              obtain ⟨r6, hr6, hp⟩ := bnd_some hp
              obtain ⟨r7, hr7, hp⟩ := bnd_some hp
              refine c_adr (fun b7 hb4 hl4 hbd3 hcap3 => ?_)
              refine c_region ?_
              refine l_s (.slice a2 r3.length cp4) (by kernel_rfl) ?_
              refine l_s (.slice a4 r4.length cp6) (by kernel_rfl) ?_
              refine l_layS (PH.le_refl _) (fun D10 hle8 h8 => ?_)
              replace h2 := h2.mono hle8
              replace f0_h1 := f0_h1.mono hle8
              refine l_call rfl rfl Try.call51 (vs := [.slice a2 r3.length cp4, .slice a4 r4.length cp6]) rfl (fun v D11 As9 => ∃ (a7 : Option Addr) (cp9 : Nat), PH.le D10 D11 ∧ v = .slice a7 r6.length cp9 ∧ RO (encF .f32) D11 (.slice a7 r6.length cp9) r6 ∧ As9 = F) (fun w hS => (show Calls Try.prog 51 #[.slice a2 r3.length cp4, .slice a4 r4.length cp6] w (fun e w' => ∃ (D11 : PH) (a7 : Option Addr) (cp9 : Nat), PH.le D10 D11 ∧ e = .returned (.slice a7 r6.length cp9) ∧ RO (encF .f32) D11 (.slice a7 r6.length cp9) r6 ∧ SInv D11 (F) w') from by have hq := road_filled_s r3 a2 cp4 x1 a4 cp6 _ h2 (by rw [hl4]; exact h8) _ _ hr6 w (hS); (try simp only [hl4] at hq); exact hq).mono fun e w' ⟨D11, a7, cp9, hle9, he, h9, hS2⟩ => ⟨_, D11, _, he, ⟨a7, cp9, hle9, rfl, h9, rfl⟩, hS2⟩) ?_
              rintro _ D11 As9 ⟨a7, cp9, hle9, rfl, h9, hA9⟩
              subst As9
              replace h2 := h2.mono hle9
              replace h8 := h8.mono hle9
              replace f0_h1 := f0_h1.mono hle9
              refine l_call rfl rfl Try.call50 (vs := [.slice a7 r6.length cp9]) rfl (fun v D12 As10 => ∃ (a8 : Option Addr) (cp10 : Nat), PH.le D11 D12 ∧ v = .tuple #[.slice a8 r7.1.length cp10, .int .i64 r7.2] ∧ RO (encF .f32) D12 (.slice a8 r7.1.length cp10) r7.1 ∧ As10 = F) (fun w hS => (road_values_s r6 a7 cp9 _ h9 _ _ hr7 w (hS)).mono fun e w' ⟨D12, a8, cp10, hle10, he, h10, hS2⟩ => ⟨_, D12, _, he, ⟨a8, cp10, hle10, rfl, h10, rfl⟩, hS2⟩) ?_
              rintro _ D12 As10 ⟨a8, cp10, hle10, rfl, h10, hA10⟩
              subst As10
              replace h2 := h2.mono hle10
              replace h8 := h8.mono hle10
              replace h9 := h9.mono hle10
              replace f0_h1 := f0_h1.mono hle10
              refine l_s (.slice a8 r7.1.length cp10) (by kernel_rfl) ?_
              refine l_s (.int .i64 r7.2) (by kernel_rfl) ?_
              refine l_s (.slice a8 r7.1.length cp10) (by kernel_rfl) ?_
              refine l_s (.int .i64 r7.2) (by kernel_rfl) ?_
              refine l_nil ?_
              refine e_then ?_
              refine c_ret ?_
              refine e_blk_ret ?_
              refine e_then_ret ?_
              obtain rfl := Option.some.inj hp
              exact post_all (vs := [.slice a8 r7.1.length cp10, .int .i64 r7.2]) (.tuple #[.slice a8 r7.1.length cp10, .int .i64 r7.2]) ⟨rfl, rfl, trivial⟩ rfl (.inl rfl) (fun w hS => ⟨D12, a8, cp10, (PH.le_trans (PH.le_trans (PH.le_trans (PH.le_trans (PH.le_trans hle2 hle4) hD2) hle8) hle9) hle10), rfl, h10, hS⟩)
            · skip
              replace hp := if_f ht7 hp
              refine c_seq ?_
              refine c_quiet ?_
              refine ql_s (.bool (how0 == 2)) (by kernel_rfl) ?_
              refine ql_s (.bool (how0 == 2)) (by kernel_rfl) ?_
              refine ql_nil ?_
              refine e_then ?_
              refine c_cond ((how0 == 2)) rfl (fun ht8 => ?_) (fun ht8 => ?_)
              · skip
                replace hp := if_t ht8 hp
                refine c_seq ?_
                obtain ⟨r8, hr8, hp⟩ := bnd_some hp
                obtain ⟨r9, hr9, hp⟩ := bnd_some hp
                refine c_adr (fun b8 hb5 hl5 hbd4 hcap4 => ?_)
                refine c_region ?_
                refine l_s (.slice a2 r3.length cp4) (by kernel_rfl) ?_
                refine l_s (.slice a4 r4.length cp6) (by kernel_rfl) ?_
                refine l_layS (PH.le_refl _) (fun D16 hle14 h14 => ?_)
                replace h2 := h2.mono hle14
                replace f0_h1 := f0_h1.mono hle14
                refine l_call rfl rfl Try.call52 (vs := [.slice a2 r3.length cp4, .slice a4 r4.length cp6]) rfl (fun v D17 As13 => ∃ (a11 : Option Addr) (cp13 : Nat), PH.le D16 D17 ∧ v = .slice a11 r8.length cp13 ∧ RO (encF .f32) D17 (.slice a11 r8.length cp13) r8 ∧ As13 = F) (fun w hS => (show Calls Try.prog 52 #[.slice a2 r3.length cp4, .slice a4 r4.length cp6] w (fun e w' => ∃ (D17 : PH) (a11 : Option Addr) (cp13 : Nat), PH.le D16 D17 ∧ e = .returned (.slice a11 r8.length cp13) ∧ RO (encF .f32) D17 (.slice a11 r8.length cp13) r8 ∧ SInv D17 (F) w') from by have hq := road_cut_s r3 a2 cp4 x1 a4 cp6 _ h2 (by rw [hl5]; exact h14) _ _ hr8 w (hS); (try simp only [hl5] at hq); exact hq).mono fun e w' ⟨D17, a11, cp13, hle15, he, h15, hS2⟩ => ⟨_, D17, _, he, ⟨a11, cp13, hle15, rfl, h15, rfl⟩, hS2⟩) ?_
                rintro _ D17 As13 ⟨a11, cp13, hle15, rfl, h15, hA13⟩
                subst As13
                replace h2 := h2.mono hle15
                replace h14 := h14.mono hle15
                replace f0_h1 := f0_h1.mono hle15
                refine l_call rfl rfl Try.call50 (vs := [.slice a11 r8.length cp13]) rfl (fun v D18 As14 => ∃ (a12 : Option Addr) (cp14 : Nat), PH.le D17 D18 ∧ v = .tuple #[.slice a12 r9.1.length cp14, .int .i64 r9.2] ∧ RO (encF .f32) D18 (.slice a12 r9.1.length cp14) r9.1 ∧ As14 = F) (fun w hS => (road_values_s r8 a11 cp13 _ h15 _ _ hr9 w (hS)).mono fun e w' ⟨D18, a12, cp14, hle16, he, h16, hS2⟩ => ⟨_, D18, _, he, ⟨a12, cp14, hle16, rfl, h16, rfl⟩, hS2⟩) ?_
                rintro _ D18 As14 ⟨a12, cp14, hle16, rfl, h16, hA14⟩
                subst As14
                replace h2 := h2.mono hle16
                replace h14 := h14.mono hle16
                replace h15 := h15.mono hle16
                replace f0_h1 := f0_h1.mono hle16
                refine l_s (.slice a12 r9.1.length cp14) (by kernel_rfl) ?_
                refine l_s (.int .i64 r9.2) (by kernel_rfl) ?_
                refine l_s (.slice a12 r9.1.length cp14) (by kernel_rfl) ?_
                refine l_s (.int .i64 r9.2) (by kernel_rfl) ?_
                refine l_nil ?_
                refine e_then ?_
                refine c_ret ?_
                refine e_blk_ret ?_
                refine e_then_ret ?_
                obtain rfl := Option.some.inj hp
                exact post_all (vs := [.slice a12 r9.1.length cp14, .int .i64 r9.2]) (.tuple #[.slice a12 r9.1.length cp14, .int .i64 r9.2]) ⟨rfl, rfl, trivial⟩ rfl (.inl rfl) (fun w hS => ⟨D18, a12, cp14, (PH.le_trans (PH.le_trans (PH.le_trans (PH.le_trans (PH.le_trans hle2 hle4) hD2) hle14) hle15) hle16), rfl, h16, hS⟩)
              · skip
                replace hp := if_f ht8 hp
                refine c_skip ?_
                refine e_blk ?_
                refine e_then ?_
                refine c_seq ?_
                obtain ⟨r10, hr10, hp⟩ := bnd_some hp
                refine c_adr (fun b9 hb6 hl6 hbd5 hcap5 => ?_)
                refine c_region ?_
                refine l_s (.slice a2 r3.length cp4) (by kernel_rfl) ?_
                refine l_s (.slice a4 r4.length cp6) (by kernel_rfl) ?_
                refine l_layS (PH.le_refl _) (fun D21 hle19 h19 => ?_)
                replace h2 := h2.mono hle19
                replace f0_h1 := f0_h1.mono hle19
                refine l_call rfl rfl Try.call52 (vs := [.slice a2 r3.length cp4, .slice a4 r4.length cp6]) rfl (fun v D22 As16 => ∃ (a14 : Option Addr) (cp16 : Nat), PH.le D21 D22 ∧ v = .slice a14 r10.length cp16 ∧ As16 = OwnS D22 (encF .f32) 40 (.slice a14 r10.length cp16) r10 :: F) (fun w hS => (show Calls Try.prog 52 #[.slice a2 r3.length cp4, .slice a4 r4.length cp6] w (fun e w' => ∃ (D22 : PH) (a14 : Option Addr) (cp16 : Nat), PH.le D21 D22 ∧ e = .returned (.slice a14 r10.length cp16) ∧ SInv D22 (OwnS D22 (encF .f32) 40 (.slice a14 r10.length cp16) r10 :: F) w') from by have hq := road_cut_v1_s r3 a2 cp4 x1 a4 cp6 _ h2 (by rw [hl6]; exact h19) _ _ hr10 w (hS); (try simp only [hl6] at hq); exact hq).mono fun e w' ⟨D22, a14, cp16, hle20, he, hS2⟩ => ⟨_, D22, _, he, ⟨a14, cp16, hle20, rfl, rfl⟩, hS2⟩) ?_
                rintro _ D22 As16 ⟨a14, cp16, hle20, rfl, hA16⟩
                subst As16
                replace h2 := h2.mono hle20
                replace h19 := h19.mono hle20
                replace f0_h1 := f0_h1.mono hle20
                refine l_s (.slice a14 r10.length cp16) (by kernel_rfl) ?_
                refine l_nil ?_
                refine e_then ?_
                refine c_seq ?_
                refine c_seq ?_
                obtain ⟨r11, hr11, hp⟩ := bnd_some hp
                refine c_region ?_
                refine l_s (.slice a2 r3.length cp4) (by kernel_rfl) ?_
                refine l_s (.slice a4 r4.length cp6) (by kernel_rfl) ?_
                refine l_call rfl rfl Try.call51 (vs := [.slice a2 r3.length cp4, .slice a4 r4.length cp6]) rfl (fun v D24 As18 => ∃ (a16 : Option Addr) (cp18 : Nat), PH.le D22 D24 ∧ v = .slice a16 r11.length cp18 ∧ RO (encF .f32) D24 (.slice a16 r11.length cp18) r11 ∧ As18 = OwnS D22 (encF .f32) 40 (.slice a14 r10.length cp16) r10 :: F) (fun w hS => (show Calls Try.prog 51 #[.slice a2 r3.length cp4, .slice a4 r4.length cp6] w (fun e w' => ∃ (D24 : PH) (a16 : Option Addr) (cp18 : Nat), PH.le D22 D24 ∧ e = .returned (.slice a16 r11.length cp18) ∧ RO (encF .f32) D24 (.slice a16 r11.length cp18) r11 ∧ SInv D24 (OwnS D22 (encF .f32) 40 (.slice a14 r10.length cp16) r10 :: F) w') from by have hq := road_filled_s r3 a2 cp4 x1 a4 cp6 _ h2 (by rw [hl6]; exact h19) _ _ hr11 w (hS); (try simp only [hl6] at hq); exact hq).mono fun e w' ⟨D24, a16, cp18, hle22, he, h22, hS2⟩ => ⟨_, D24, _, he, ⟨a16, cp18, hle22, rfl, h22, rfl⟩, hS2⟩) ?_
                rintro _ D24 As18 ⟨a16, cp18, hle22, rfl, h22, hA18⟩
                subst As18
                replace h2 := h2.mono hle22
                replace h19 := h19.mono hle22
                replace f0_h1 := f0_h1.mono hle22
                refine l_s (.int .i64 (r11.length : Int)) (by kernel_rfl) ?_
                refine l_s (.int .i64 0) (by kernel_rfl) ?_
                refine l_nil ?_
                refine e_then ?_
                have hb0 : (r11.length : Int) ≤ 4611686018427387904 := by have := RO.bound h22; omega
                have hm0 : r11.length = (r11.length : Int).toNat := by omega
                have hm2 := hm0; have hb7 := hb0; clear hm0 hb0
                obtain ⟨x4, hs3, hp⟩ := bnd_some hp
                obtain ⟨body2, hbody2, hs3⟩ := forS_gen hs3
                refine c_cut_end (fun φ1 D25 As1 => Is φ1 [(16, .slice a14 r10.length cp16)] ∧ PH.le D24 D25 ∧ As1 = OwnS D25 (encF .f32) 40 (.slice a14 r10.length cp16) x4 :: F) ?_ ?_
                · skip
                  refine c_block ?_
                  refine c_imp (OwnS.mono hle22) ?_
                  refine c_loop (fun k φ1 D26 As1 => ∃ (j2 i2 : Nat) (s2 : (List Nat)), k = j2 + 1 ∧ i2 + j2 = r11.length ∧ Is φ1 [(16, .slice a14 r10.length cp16), (84, .slice a16 r11.length cp18), (85, .int .i64 (r11.length : Int)), (86, .int .i64 (i2 : Int))] ∧ PH.le D24 D26 ∧ As1 = OwnS D26 (encF .f32) 40 (.slice a14 r10.length cp16) s2 :: F ∧ forS body2 j2 i2 s2 = some x4) ⟨r11.length + 1, r11.length, 0, r10, rfl, Nat.zero_add _, ⟨rfl, rfl, rfl, rfl, trivial⟩, (PH.le_refl _), rfl, hs3⟩ ?_ ?_
                  · rintro _ _ _ ⟨_, _, _, h0, _⟩; omega
                  intro k2
                  rintro φ3 D26 As19 ⟨j2, i2, s2, hk2, hij2, hI3, hD3, hA19, hs4⟩
                  subst As19
                  replace h22 := h22.mono hD3
                  replace f0_h1 := f0_h1.mono hD3
                  refine c_frame _ hI3 ?_
                  obtain rfl : k2 = j2 := by omega
                  clear hk2
                  rcases k2 with _ | j2
                  · skip
                    refine c_seq ?_
                    refine c_quiet ?_
                    refine ql_s (.bool (decide ((i2 : Int) < (r11.length : Int)))) (by kernel_rfl) ?_
                    refine ql_nil ?_
                    refine e_then ?_
                    refine c_seq ?_
                    refine c_cond (decide ((i2 : Int) < (r11.length : Int))) rfl (fun ht9 => absurd ((dec_lt_f hm2 (by omega)).symm.trans ht9) (by simp)) (fun _ => ?_)
                    refine c_exit ?_
                    refine e_then_exit ?_
                    refine e_then_exit ?_
                    obtain rfl := Option.some.inj hs4
                    refine e_blk_exit ?_
                    exact e_cut ⟨⟨rfl, trivial⟩, hD3, rfl⟩
                  · skip
                    obtain ⟨y2, hx4, hs4⟩ := forS_some hs4
                    replace hx4 := (congrFun (congrFun hbody2 i2) s2).trans hx4
                    refine c_seq ?_
                    refine c_quiet ?_
                    refine ql_s (.bool (decide ((i2 : Int) < (r11.length : Int)))) (by kernel_rfl) ?_
                    refine ql_nil ?_
                    refine e_then ?_
                    refine c_seq ?_
                    refine c_cond (decide ((i2 : Int) < (r11.length : Int))) rfl (fun _ => ?_) (fun ht10 => absurd ((dec_lt_t hm2 (by omega)).symm.trans ht10) (by simp))
                    refine c_skip ?_
                    refine e_then ?_
                    refine c_seq ?_
                    refine c_block ?_
                    refine c_seq ?_
                    obtain ⟨x5, hx5, hx4⟩ := bnd_some hx4
                    obtain ⟨b10, o1, h23, hq1⟩ := RO.at h22 hx5
                    refine c_quiet ?_
                    refine ql_s (.int .i64 (i2 : Int)) (by kernel_rfl) ?_
                    refine ql_q rfl (qs_idx hq1 Try.underlying24 fit40 rfl rfl) ?_
                    refine ql_q rfl (qs_ldAtV fit40 rfl h23 valF) ?_
                    refine ql_s (.int .i64 (i2 : Int)) (by kernel_rfl) ?_
                    refine ql_s (.float .f32 x5) (by kernel_rfl) ?_
                    refine ql_nil ?_
                    refine e_then ?_
                    obtain ⟨x6, hx6, hx4⟩ := bnd_some hx4
                    obtain ⟨r12, hr12, hx4⟩ := bnd_some hx4
                    obtain ⟨r13, hr13, hx4⟩ := bnd_some hx4
                    obtain ⟨l2, hl7, hx4⟩ := bnd_some hx4
                    replace hl7 := Option.some.inj hl7
                    refine c_adr (fun b11 hb8 hl8 hbd6 hcap6 => ?_)
                    refine c_region ?_
                    refine l_s (.slice a14 r10.length cp16) (by kernel_rfl) ?_
                    refine l_s (.int .i64 (i2 : Int)) (by kernel_rfl) ?_
                    refine l_s (.slice a14 r10.length cp16) (by kernel_rfl) ?_
                    refine l_s (.int .i64 (i2 : Int)) (by kernel_rfl) ?_
                    refine l_q rfl (qs_idx (IsIdx.beg (e := encF .f32) hb8 hl8 hx6) Try.underlying24 fit40 rfl rfl) ?_
                    refine l_q rfl (qs_ldS fit40 hb8 rfl rfl 0 rfl (idx_some hx6).2.2 (v := .float .f32 x6) valF) ?_
                    refine l_s (.float .f32 x5) (by kernel_rfl) ?_
                    refine l_q rfl (qs_fop hr12 rfl rfl) ?_
                    refine l_q rfl (qs_fop hr13 rfl rfl) ?_
                    refine l_q rfl (qs_idx (IsIdx.beg (e := encF .f32) hb8 hl8 hx6) Try.underlying24 fit40 rfl rfl) ?_
                    refine l_stS (vs := [.float .f32 r13]) hb8 hl8 hl7 rfl fit40 rfl rfl rfl rfl (idx_some hx6).2.1 ?_
                    refine l_nil ?_
                    refine e_blk ?_
                    refine e_then ?_
                    refine c_quiet ?_
                    refine ql_s (.int .i64 (addI (i2 : Int) 1)) (by kernel_rfl) ?_
                    refine ql_s (.int .i64 (addI (i2 : Int) 1)) (by kernel_rfl) ?_
                    refine ql_nil ?_
                    obtain rfl := Option.some.inj hx4
                    exact e_cut ⟨j2, i2 + 1, l2, by omega, by omega, ⟨rfl, rfl, rfl, (congrArg (Value.int .i64) (addI_succ (by omega))), trivial⟩, hD3, rfl, hs4⟩
                · skip
                  rintro φ4 D25 As20 ⟨hI4, hD4, hA20⟩
                  subst As20
                  replace f0_h1 := f0_h1.mono hD4
                  refine e_frame _ hI4 ?_
                  refine e_then ?_
                  refine c_seq ?_
                  obtain ⟨r14, hr14, hp⟩ := bnd_some hp
                  refine c_adr (fun b12 hb9 hl9 hbd7 hcap7 => ?_)
                  refine c_region ?_
                  refine l_s (.slice a14 r10.length cp16) (by kernel_rfl) ?_
                  refine l_layS (PH.le_refl _) (fun D29 hle25 h26 => ?_)
                  replace f0_h1 := f0_h1.mono hle25
                  refine l_call rfl rfl Try.call50 (vs := [.slice a14 r10.length cp16]) rfl (fun v D30 As22 => ∃ (a18 : Option Addr) (cp20 : Nat), PH.le D29 D30 ∧ v = .tuple #[.slice a18 r14.1.length cp20, .int .i64 r14.2] ∧ RO (encF .f32) D30 (.slice a18 r14.1.length cp20) r14.1 ∧ As22 = F) (fun w hS => (show Calls Try.prog 50 #[.slice a14 r10.length cp16] w (fun e w' => ∃ (D30 : PH) (a18 : Option Addr) (cp20 : Nat), PH.le D29 D30 ∧ e = .returned (.tuple #[.slice a18 r14.1.length cp20, .int .i64 r14.2]) ∧ RO (encF .f32) D30 (.slice a18 r14.1.length cp20) r14.1 ∧ SInv D30 (F) w') from by have hq := road_values_s x4 a14 cp16 _ (by rw [hl9]; exact h26) _ _ hr14 w (hS); (try simp only [hl9] at hq); exact hq).mono fun e w' ⟨D30, a18, cp20, hle26, he, h27, hS2⟩ => ⟨_, D30, _, he, ⟨a18, cp20, hle26, rfl, h27, rfl⟩, hS2⟩) ?_
                  rintro _ D30 As22 ⟨a18, cp20, hle26, rfl, h27, hA22⟩
                  subst As22
                  replace h26 := h26.mono hle26
                  replace f0_h1 := f0_h1.mono hle26
                  refine l_s (.slice a18 r14.1.length cp20) (by kernel_rfl) ?_
                  refine l_s (.int .i64 r14.2) (by kernel_rfl) ?_
                  refine l_s (.slice a18 r14.1.length cp20) (by kernel_rfl) ?_
                  refine l_s (.int .i64 r14.2) (by kernel_rfl) ?_
                  refine l_nil ?_
                  refine e_then ?_
                  refine c_ret ?_
                  obtain rfl := Option.some.inj hp
                  exact post_all (vs := [.slice a18 r14.1.length cp20, .int .i64 r14.2]) (.tuple #[.slice a18 r14.1.length cp20, .int .i64 r14.2]) ⟨rfl, rfl, trivial⟩ rfl (.inl rfl) (fun w hS => ⟨D30, a18, cp20, (PH.le_trans (PH.le_trans (PH.le_trans (PH.le_trans (PH.le_trans (PH.le_trans (PH.le_trans (PH.le_trans hle2 hle4) hD2) hle19) hle20) hle22) hD4) hle25) hle26), rfl, h27, hS⟩)

-- tarnfell/road.lengths
set_option maxRecDepth 100000 in
set_option maxHeartbeats 4000000 in
theorem road_lengths_v1_s (way0 : List S_api_Point) (way0_v1a : Option Addr) (way0_v1c : Nat) (D : PH) (way0_h1 : RO encS_api_Point D (.slice way0_v1a way0.length way0_v1c) way0) (F : List Assert) (r : (List Nat)) (hp : road_lengths_v1_p way0 = some r) : ∀ w : World, SInv D (F) w → Calls Try.prog 49 #[.slice way0_v1a way0.length way0_v1c] w (fun e w' => ∃ (D1 : PH) (q_a1 : Option Addr) (q_cp1 : Nat), PH.le D D1 ∧ e = .returned (.slice q_a1 r.length q_cp1) ∧ RO (encF .f32) D1 (.slice q_a1 r.length q_cp1) r ∧ SInv D1 (F) w') := by
  intro w hS
  refine call_intro Try.func49 rfl Try.ntmps49 (Nat.le_of_ble_eq_true rfl) hS ?_
  clear hS w
  unfold road_lengths_v1_p at hp
  refine c_seq ?_
  refine c_quiet ?_
  refine ql_s (.slice none 0 0) (by kernel_rfl) ?_
  refine ql_nil ?_
  refine e_then ?_
  refine c_seq ?_
  refine c_region ?_
  refine l_s (.slice none 0 0) (by kernel_rfl) ?_
  refine l_nilS D (encF .f32) 40 ?_
  refine l_nil ?_
  refine e_then ?_
  refine c_seq ?_
  refine c_seq ?_
  obtain ⟨l1, hl1, hp⟩ := bnd_some hp
  obtain ⟨a1, cp1, hv1, h1⟩ := RO.slc way0_h1 hl1
  refine c_quiet ?_
  refine ql_s (.slice way0_v1a way0.length way0_v1c) (by kernel_rfl) ?_
  refine ql_q rfl (qs_slice (e := encS_api_Point) Try.underlying27 fit71 rfl (RO.cap way0_h1).1 (RO.cap way0_h1).2 ⟨_, rfl⟩ rfl hl1 hv1) ?_
  refine ql_s (.int .i64 (l1.length : Int)) (by kernel_rfl) ?_
  refine ql_s (.int .i64 0) (by kernel_rfl) ?_
  refine ql_nil ?_
  refine e_then ?_
  have hb0 : (l1.length : Int) ≤ 4611686018427387904 := by have := RO.bound h1; omega
  have hm0 : l1.length = (l1.length : Int).toNat := by omega
  have hm1 := hm0; have hb1 := hb0; clear hm0 hb0
  obtain ⟨x1, hs1, hp⟩ := bnd_some hp
  obtain ⟨body1, hbody1, hs1⟩ := forS_gen hs1
  refine c_cut_end (fun φ1 D1 As1 => ∃ (a2 : Option Addr) (cp2 : Nat), Is φ1 [(3, .slice a2 x1.length cp2)] ∧ PH.le D D1 ∧ As1 = OwnS D1 (encF .f32) 40 (.slice a2 x1.length cp2) x1 :: F) ?_ ?_
  · skip
    refine c_block ?_
    refine c_loop (fun k φ1 D2 As1 => ∃ (j1 i1 : Nat) (s1 : (List Nat)) (a3 : Option Addr) (cp3 : Nat), k = j1 + 1 ∧ i1 + j1 = l1.length ∧ Is φ1 [(0, .slice way0_v1a way0.length way0_v1c), (3, .slice a3 s1.length cp3), (7, .slice a1 l1.length cp1), (8, .int .i64 (l1.length : Int)), (9, .int .i64 (i1 : Int))] ∧ PH.le D D2 ∧ As1 = OwnS D2 (encF .f32) 40 (.slice a3 s1.length cp3) s1 :: F ∧ forS body1 j1 i1 s1 = some x1) ⟨l1.length + 1, l1.length, 0, ([] : List Nat), none, 0, rfl, Nat.zero_add _, ⟨rfl, rfl, rfl, rfl, rfl, trivial⟩, (PH.le_refl _), rfl, hs1⟩ ?_ ?_
    · rintro _ _ _ ⟨_, _, _, _, _, h0, _⟩; omega
    intro k1
    rintro φ1 D2 As1 ⟨j1, i1, s1, a3, cp3, hk1, hij1, hI1, hD1, hA1, hs2⟩
    subst As1
    replace way0_h1 := way0_h1.mono hD1
    replace h1 := h1.mono hD1
    refine c_frame _ hI1 ?_
    obtain rfl : k1 = j1 := by omega
    clear hk1
    rcases k1 with _ | j1
    · skip
      refine c_seq ?_
      refine c_quiet ?_
      refine ql_s (.bool (decide ((i1 : Int) < (l1.length : Int)))) (by kernel_rfl) ?_
      refine ql_nil ?_
      refine e_then ?_
      refine c_seq ?_
      refine c_cond (decide ((i1 : Int) < (l1.length : Int))) rfl (fun ht1 => absurd ((dec_lt_f hm1 (by omega)).symm.trans ht1) (by simp)) (fun _ => ?_)
      refine c_exit ?_
      refine e_then_exit ?_
      refine e_then_exit ?_
      obtain rfl := Option.some.inj hs2
      refine e_blk_exit ?_
      exact e_cut ⟨a3, cp3, ⟨rfl, trivial⟩, hD1, rfl⟩
    · skip
      obtain ⟨y1, hx1, hs2⟩ := forS_some hs2
      replace hx1 := (congrFun (congrFun hbody1 i1) s1).trans hx1
      refine c_seq ?_
      refine c_quiet ?_
      refine ql_s (.bool (decide ((i1 : Int) < (l1.length : Int)))) (by kernel_rfl) ?_
      refine ql_nil ?_
      refine e_then ?_
      refine c_seq ?_
      refine c_cond (decide ((i1 : Int) < (l1.length : Int))) rfl (fun _ => ?_) (fun ht2 => absurd ((dec_lt_t hm1 (by omega)).symm.trans ht2) (by simp))
      refine c_skip ?_
      refine e_then ?_
      refine c_seq ?_
      refine c_block ?_
      refine c_seq ?_
      obtain ⟨x2, hx2, hx1⟩ := bnd_some hx1
      obtain ⟨b1, o1, h2, hq1⟩ := RO.at h1 hx2
      obtain ⟨cs1, hc1, ha1⟩ := h2.cells
      obtain rfl := hc1
      refine c_region ?_
      refine l_s (.int .i64 (i1 : Int)) (by kernel_rfl) ?_
      refine l_q rfl (qs_idx hq1 Try.underlying27 fit71 rfl rfl) ?_
      refine l_q rfl (qs_ldC fit71 rfl ha1 rfl (.agg #[.int .i64 x2.X, .int .i64 x2.Y]) rfl) ?_
      refine l_alloc (zs := [.int .i64 0, .int .i64 0]) rfl (by kernel_rfl) (fun b3 => ?_)
      refine l_s (.int .i64 (i1 : Int)) (by kernel_rfl) ?_
      refine l_store (dd := none) (vs := [.int .i64 x2.X, .int .i64 x2.Y]) (cs' := [.int .i64 x2.X, .int .i64 x2.Y]) rfl (by kernel_rfl) (by kernel_rfl) rfl rfl (Nat.le_of_ble_eq_true rfl) rfl rfl ?_
      refine l_nil ?_
      refine e_then ?_
      obtain ⟨x3, hx3, hx1⟩ := bnd_some hx1
      obtain ⟨b4, o2, h3, hq2⟩ := RO.at way0_h1 hx3
      obtain ⟨cs2, hc2, ha2⟩ := h3.cells
      obtain rfl := hc2
      obtain ⟨r1, hr1, hx1⟩ := bnd_some hx1
      obtain ⟨r2, hr2, hx1⟩ := bnd_some hx1
      obtain ⟨l2, hl2, hx1⟩ := bnd_some hx1
      refine c_order (B := [pt b3 [.int .i64 x2.X, .int .i64 x2.Y] 71]) (.q 0 (.q 1 (.q 2 (.q 3 (.q 4 (.q 5 (.q 6 (.q 7 (.q 8 (.q 9 (.e 10 (.e 11 (.q 12 .nil))))))))))))) hmix (by kernel_rfl) (NoPanic.blk (NoPanic.then (NoPanic.then (NoPanic.blk (NoPanic.then (NoPanic.then NoPanic.post)))))) ?_
      refine o_s (.slice a3 s1.length cp3) rfl (by kernel_rfl) ?_
      refine o_s (.slice way0_v1a way0.length way0_v1c) rfl (by kernel_rfl) ?_
      refine o_s (.int .i64 (i1 : Int)) rfl (by kernel_rfl) ?_
      refine o_qs rfl rfl (qs_idx hq2 Try.underlying27 fit71 rfl rfl) ?_
      refine o_qs rfl rfl (qs_ldC fit71 rfl ha2 rfl (.agg #[.int .i64 x3.X, .int .i64 x3.Y]) rfl) ?_
      refine o_qs rfl rfl (qs_ldpt (encW 2 (by decide)) fitv71 rfl 0 rfl (.agg #[.int .i64 x2.X, .int .i64 x2.Y]) (Nat.le_of_ble_eq_true rfl) rfl) ?_
      refine o_call (v := .tuple #[.int .i64 r1.1, .int .i64 r1.2]) rfl rfl (run_call (vs := [.agg #[.int .i64 x3.X, .int .i64 x3.Y], .agg #[.int .i64 x2.X, .int .i64 x2.Y]]) rfl Try.call86 rfl) (fun D' R' hD w hS => (road_Between_s x3 x2 _  _ _ hr1 w (hS)).mono fun e w' h => ⟨h.1, h.2⟩) ?_
      refine o_s (.int .i64 r1.1) rfl (by kernel_rfl) ?_
      refine o_s (.int .i64 r1.2) rfl (by kernel_rfl) ?_
      refine o_call (v := .float .f32 r2) rfl rfl (run_call (vs := [.int .i64 r1.1, .int .i64 r1.2]) rfl Try.call85 rfl) (fun D' R' hD w hS => (road_length_s r1.1 r1.2 _  _ _ hr2 w (hS)).mono fun e w' h => ⟨h.1, h.2⟩) ?_
      refine o_bslS (cs := [.float .f32 r2]) (E := 40) (e := encF .f32) ([r2] : List Nat) rfl rfl (PH.le_refl _) (by kernel_rfl) rfl rfl (Nat.le_of_ble_eq_true rfl) ⟨rfl, trivial⟩ (fun b6 cp6 => ?_)
      refine o_perm (fr1_perm 1 _) ?_
      refine o_app hl2 rfl rfl (PH.le_refl _) elem24 Try.underlying24 rfl rfl rfl (OwnS.src 2 rfl ⟨_, _, rfl⟩) (fun a5 cp7 => ?_)
      refine o_s (.slice a5 l2.length cp7) rfl (by kernel_rfl) ?_
      refine o_nil ?_
      refine e_drop ?_
      refine e_perm (fr1_perm 1 _) ?_
      refine e_drop ?_
      refine e_blk ?_
      refine e_then ?_
      refine c_quiet ?_
      refine ql_s (.int .i64 (addI (i1 : Int) 1)) (by kernel_rfl) ?_
      refine ql_s (.int .i64 (addI (i1 : Int) 1)) (by kernel_rfl) ?_
      refine ql_nil ?_
      obtain rfl := Option.some.inj hx1
      exact e_cut ⟨j1, i1 + 1, l2, a5, cp7, by omega, by omega, ⟨rfl, rfl, rfl, rfl, (congrArg (Value.int .i64) (addI_succ (by omega))), trivial⟩, hD1, rfl, hs2⟩
  · skip
    rintro φ2 D1 As2 ⟨a2, cp2, hI2, hD2, hA2⟩
    subst As2
    refine e_frame _ hI2 ?_
    refine e_then ?_
    refine c_seq ?_
    refine c_quiet ?_
    refine ql_s (.slice a2 x1.length cp2) (by kernel_rfl) ?_
    refine ql_s (.slice a2 x1.length cp2) (by kernel_rfl) ?_
    refine ql_nil ?_
    refine e_then ?_
    refine c_ret ?_
    refine e_layS (PH.le_refl _) (fun D3 hle1 h4 => ?_)
    obtain rfl := Option.some.inj hp
    exact post_all (vs := [.slice a2 x1.length cp2]) (.slice a2 x1.length cp2) ⟨rfl, trivial⟩ rfl (.inl rfl) (fun w hS => ⟨D3, a2, cp2, (PH.le_trans hD2 hle1), rfl, h4, hS⟩)

-- math.Abs
set_option maxRecDepth 100000 in
set_option maxHeartbeats 4000000 in
theorem math_Abs_s (x0 : Nat) (D : PH)  (F : List Assert) (r : Nat) (hp : math_Abs_p x0 = some r) : ∀ w : World, SInv D (F) w → Calls Try.prog 108 #[.float .f64 x0] w (fun e w' => e = .returned (.float .f64 r) ∧ SInv D (F) w') := by
  intro w hS
  refine call_intro Try.func108 rfl Try.ntmps108 (Nat.le_of_ble_eq_true rfl) hS ?_
  clear hS w
  unfold math_Abs_p at hp
  refine c_seq ?_
  refine c_quiet ?_
  refine ql_s (.float .f64 0) (by kernel_rfl) ?_
  refine ql_nil ?_
  refine e_then ?_
  refine c_seq ?_
  refine c_quiet ?_
  refine ql_s (.float .f64 x0) (by kernel_rfl) ?_
  refine ql_q rfl (qs_extern Try.func124 rfl rfl (by kernel_rfl) ext124 (vs := [.float .f64 x0]) rfl (fun w => rfl)) ?_
  refine ql_q rfl (qs_bits (.inr (.inr (.inr rfl))) rfl rfl) ?_
  refine ql_q rfl (qs_extern Try.func123 rfl rfl (by kernel_rfl) ext123 (vs := [.int .u64 (bitsI .andNot .u64 (x0 : Int) 9223372036854775808)]) rfl (fun w => rfl)) ?_
  refine ql_s (.float .f64 ((bitsI .andNot .u64 (x0 : Int) 9223372036854775808).toNat)) (by kernel_rfl) ?_
  refine ql_nil ?_
  refine e_then ?_
  refine c_ret ?_
  obtain rfl := Option.some.inj hp
  exact post_all (vs := [.float .f64 ((bitsI .andNot .u64 (x0 : Int) 9223372036854775808).toNat)]) (.float .f64 ((bitsI .andNot .u64 (x0 : Int) 9223372036854775808).toNat)) ⟨rfl, trivial⟩ rfl (.inl rfl) (fun w hS => ⟨rfl, hS⟩)

-- tarnfell/noise.Magnitude
set_option maxRecDepth 100000 in
set_option maxHeartbeats 4000000 in
theorem noise_Magnitude_s (v0 : Nat) (D : PH)  (F : List Assert) (r : Nat) (hp : noise_Magnitude_p v0 = some r) : ∀ w : World, SInv D (F) w → Calls Try.prog 88 #[.float .f32 v0] w (fun e w' => e = .returned (.float .f32 r) ∧ SInv D (F) w') := by
  intro w hS
  refine call_intro Try.func88 rfl Try.ntmps88 (Nat.le_of_ble_eq_true rfl) hS ?_
  clear hS w
  unfold noise_Magnitude_p at hp
  refine c_seq ?_
  refine c_quiet ?_
  refine ql_s (.float .f32 0) (by kernel_rfl) ?_
  refine ql_nil ?_
  refine e_then ?_
  refine c_seq ?_
  obtain ⟨r1, hr1, hp⟩ := bnd_some hp
  obtain ⟨r2, hr2, hp⟩ := bnd_some hp
  obtain ⟨r3, hr3, hp⟩ := bnd_some hp
  refine c_quiet ?_
  refine ql_s (.float .f32 v0) (by kernel_rfl) ?_
  refine ql_q rfl (qs_fconv Try.underlying40 Try.underlying125 rfl hr1) ?_
  refine ql_call (v := .float .f64 r2) rfl (run_call (vs := [.float .f64 r1]) rfl Try.call108 rfl) (fun w hS => (math_Abs_s r1 _  _ _ hr2 w (hS)).mono fun e w' h => ⟨h.1, h.2⟩) ?_
  refine ql_q rfl (qs_fconv Try.underlying125 Try.underlying40 rfl hr3) ?_
  refine ql_s (.float .f32 r3) (by kernel_rfl) ?_
  refine ql_nil ?_
  refine e_then ?_
  refine c_ret ?_
  obtain rfl := Option.some.inj hp
  exact post_all (vs := [.float .f32 r3]) (.float .f32 r3) ⟨rfl, trivial⟩ rfl (.inl rfl) (fun w hS => ⟨rfl, hS⟩)

-- tarnfell/road.grade
set_option maxRecDepth 100000 in
set_option maxHeartbeats 4000000 in
theorem road_grade_s (a0 : Nat) (b0 : Nat) (long0 : Nat) (D : PH)  (F : List Assert) (r : Nat) (hp : road_grade_p a0 b0 long0 = some r) : ∀ w : World, SInv D (F) w → Calls Try.prog 53 #[.float .f32 a0, .float .f32 b0, .float .f32 long0] w (fun e w' => e = .returned (.float .f32 r) ∧ SInv D (F) w') := by
  intro w hS
  refine call_intro Try.func53 rfl Try.ntmps53 (Nat.le_of_ble_eq_true rfl) hS ?_
  clear hS w
  unfold road_grade_p at hp
  refine c_seq ?_
  refine c_quiet ?_
  refine ql_s (.float .f32 0) (by kernel_rfl) ?_
  refine ql_nil ?_
  refine e_then ?_
  refine c_seq ?_
  obtain ⟨r1, hr1, hp⟩ := bnd_some hp
  obtain ⟨r2, hr2, hp⟩ := bnd_some hp
  obtain ⟨r3, hr3, hp⟩ := bnd_some hp
  refine c_quiet ?_
  refine ql_s (.float .f32 b0) (by kernel_rfl) ?_
  refine ql_s (.float .f32 a0) (by kernel_rfl) ?_
  refine ql_q rfl (qs_fop hr1 rfl rfl) ?_
  refine ql_call (v := .float .f32 r2) rfl (run_call (vs := [.float .f32 r1]) rfl Try.call88 rfl) (fun w hS => (noise_Magnitude_s r1 _  _ _ hr2 w (hS)).mono fun e w' h => ⟨h.1, h.2⟩) ?_
  refine ql_s (.float .f32 long0) (by kernel_rfl) ?_
  refine ql_q rfl (qs_fop hr3 rfl rfl) ?_
  refine ql_s (.float .f32 r3) (by kernel_rfl) ?_
  refine ql_nil ?_
  refine e_then ?_
  refine c_ret ?_
  obtain rfl := Option.some.inj hp
  exact post_all (vs := [.float .f32 r3]) (.float .f32 r3) ⟨rfl, trivial⟩ rfl (.inl rfl) (fun w hS => ⟨rfl, hS⟩)

end Go.Proofs.Ythibohbaaljnkaa
