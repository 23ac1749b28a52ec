/- Own text, by program: that the code computes the pure functions. -/
import Derived.Test.YthibohbaaljnkaaPu
namespace Go.Proofs.Ythibohbaaljnkaa
open Sx
set_option linter.all false
variable [WB]

-- tarnfell/field.side
set_option maxRecDepth 100000 in
set_option maxHeartbeats 4000000 in
theorem field_side_s (n0 : Int) (D : PH)  (F : List Assert) (r : Bool) (hp : field_side_p n0 = some r) : ∀ w : World, SInv D (F) w → Calls Try.prog 90 #[.int .i64 n0] w (fun e w' => e = .returned (.bool r) ∧ SInv D (F) w') := by
  intro w hS
  refine call_intro Try.func90 rfl Try.ntmps90 (Nat.le_of_ble_eq_true rfl) hS ?_
  clear hS w
  unfold field_side_p at hp
  refine c_seq ?_
  refine c_quiet ?_
  refine ql_s (.bool false) (by kernel_rfl) ?_
  refine ql_nil ?_
  refine e_then ?_
  refine c_seq ?_
  refine c_cutq_end [(2, .bool ((decide (n0 ≥ 1)) && (decide (n0 ≤ 512))))] ?_ ?_
  · skip
    refine c_quiet ?_
    refine ql_s (.int .i64 n0) (by kernel_rfl) ?_
    refine ql_s (.bool (decide (n0 ≥ 1))) (by kernel_rfl) ?_
    refine ql_s (.bool (decide (n0 ≥ 1))) (by kernel_rfl) ?_
    refine ql_case 5 (decide (n0 ≥ 1)) rfl (fun hg1 => ?_) (fun hg1 => ?_)
    · skip
      refine ql_s (.int .i64 n0) (by kernel_rfl) ?_
      refine ql_s (.bool (decide (n0 ≤ 512))) (by kernel_rfl) ?_
      refine ql_s (.bool (decide (n0 ≤ 512))) (by kernel_rfl) ?_
      refine ql_s (.bool (decide (n0 ≤ 512))) (by kernel_rfl) ?_
      refine ql_nil (e_cutq ?_)
      exact ⟨(congrArg Value.bool (by first | rfl | (rw [hg1]; rfl) | simp [hg1])), trivial⟩
    · skip
      refine ql_s undef (by kernel_rfl) ?_
      refine ql_s undef (by kernel_rfl) ?_
      refine ql_s (.bool false) (by kernel_rfl) ?_
      refine ql_s (.bool false) (by kernel_rfl) ?_
      refine ql_nil (e_cutq ?_)
      exact ⟨(congrArg Value.bool (by first | rfl | (rw [hg1]; rfl) | simp [hg1])), trivial⟩
  intro _
  refine e_then ?_
  refine c_ret ?_
  obtain rfl := Option.some.inj hp
  exact post_all (vs := [.bool ((decide (n0 ≥ 1)) && (decide (n0 ≤ 512)))]) (.bool ((decide (n0 ≥ 1)) && (decide (n0 ≤ 512)))) ⟨rfl, trivial⟩ rfl (.inl rfl) (fun w hS => ⟨rfl, hS⟩)

-- tarnfell/field.CheckRegion
set_option maxRecDepth 100000 in
set_option maxHeartbeats 4000000 in
theorem field_CheckRegion_s (r0 : S_api_Region) (D : PH)  (F : List Assert) (r : Int) (hp : field_CheckRegion_p r0 = some r) : ∀ w : World, SInv D (F) w → Calls Try.prog 61 #[.agg #[.int .i64 r0.X, .int .i64 r0.Y, .int .i64 r0.W, .int .i64 r0.H]] w (fun e w' => e = .returned (.int .i64 r) ∧ SInv D (F) w') := by
  intro w hS
  refine call_intro Try.func61 rfl Try.ntmps61 (Nat.le_of_ble_eq_true rfl) hS ?_
  clear hS w
  unfold field_CheckRegion_p at hp
  refine c_seq ?_
  refine c_region ?_
  refine l_box (cs := [.int .i64 r0.X, .int .i64 r0.Y, .int .i64 r0.W, .int .i64 r0.H]) rfl rfl (fun b2 => ?_)
  refine l_s (.int .i64 0) (by kernel_rfl) ?_
  refine l_nil ?_
  refine e_then ?_
  refine c_seq ?_
  refine c_block ?_
  refine c_seq ?_
  obtain ⟨c1, hc1, hp⟩ := bnd_some hp
  refine c_cutq_end [(1, .pointer (some ⟨b2, 0, none⟩)), (3, .bool c1)] ?_ ?_
  · skip
    refine c_quiet ?_
    refine ql_s (.pointer (some ⟨b2, 2, none⟩)) (by kernel_rfl) ?_
    refine ql_q rfl (qs_ldpt encV fitv3 rfl 0 rfl (.int .i64 r0.W) (Nat.le_of_ble_eq_true rfl) rfl) ?_
    obtain ⟨r1, hr1, hc1⟩ := bnd_some hc1
    refine ql_call (v := .bool r1) rfl (run_call (vs := [.int .i64 r0.W]) rfl Try.call90 rfl) (fun w hS => (field_side_s r0.W _  _ _ hr1 w (hS)).mono fun e w' h => ⟨h.1, h.2⟩) ?_
    refine ql_s (.bool (!r1)) (by kernel_rfl) ?_
    refine ql_s (.bool (!r1)) (by kernel_rfl) ?_
    refine ql_case 8 (!r1) rfl (fun hg1 => ?_) (fun hg1 => ?_)
    · skip
      replace hc1 := if_t hg1 hc1
      refine ql_s undef (by kernel_rfl) ?_
      refine ql_s undef (by kernel_rfl) ?_
      refine ql_s undef (by kernel_rfl) ?_
      refine ql_s undef (by kernel_rfl) ?_
      refine ql_s (.bool true) (by kernel_rfl) ?_
      refine ql_s (.bool true) (by kernel_rfl) ?_
      refine ql_nil (e_cutq ?_)
      obtain rfl := Option.some.inj hc1
      exact ⟨rfl, rfl, trivial⟩
    · skip
      replace hc1 := if_f hg1 hc1
      refine ql_s (.pointer (some ⟨b2, 3, none⟩)) (by kernel_rfl) ?_
      refine ql_q rfl (qs_ldpt encV fitv3 rfl 0 rfl (.int .i64 r0.H) (Nat.le_of_ble_eq_true rfl) rfl) ?_
      obtain ⟨r2, hr2, hc1⟩ := bnd_some hc1
      refine ql_call (v := .bool r2) rfl (run_call (vs := [.int .i64 r0.H]) rfl Try.call90 rfl) (fun w hS => (field_side_s r0.H _  _ _ hr2 w (hS)).mono fun e w' h => ⟨h.1, h.2⟩) ?_
      refine ql_s (.bool (!r2)) (by kernel_rfl) ?_
      refine ql_s (.bool (!r2)) (by kernel_rfl) ?_
      refine ql_s (.bool (!r2)) (by kernel_rfl) ?_
      refine ql_nil (e_cutq ?_)
      obtain rfl := Option.some.inj hc1
      exact ⟨rfl, rfl, trivial⟩
  intro _
  refine e_then ?_
  refine c_cond (c1) rfl (fun ht1 => ?_) (fun ht1 => ?_)
  · skip
    replace hp := if_t ht1 hp
    refine c_seq ?_
    refine c_quiet ?_
    refine ql_s (.int .i64 3) (by kernel_rfl) ?_
    refine ql_nil ?_
    refine e_drop ?_
    refine e_then ?_
    refine c_ret ?_
    refine e_blk_ret ?_
    refine e_then_ret ?_
    obtain rfl := Option.some.inj hp
    exact post_all (vs := [.int .i64 3]) (.int .i64 3) ⟨rfl, trivial⟩ rfl (.inl rfl) (fun w hS => ⟨rfl, hS⟩)
  · skip
    replace hp := if_f ht1 hp
    refine c_seq ?_
    refine c_quiet ?_
    refine ql_s (.pointer (some ⟨b2, 2, none⟩)) (by kernel_rfl) ?_
    refine ql_q rfl (qs_ldpt encV fitv3 rfl 0 rfl (.int .i64 r0.W) (Nat.le_of_ble_eq_true rfl) rfl) ?_
    refine ql_s (.pointer (some ⟨b2, 3, none⟩)) (by kernel_rfl) ?_
    refine ql_q rfl (qs_ldpt encV fitv3 rfl 0 rfl (.int .i64 r0.H) (Nat.le_of_ble_eq_true rfl) rfl) ?_
    refine ql_s (.int .i64 (mulI r0.W r0.H)) (by kernel_rfl) ?_
    refine ql_s (.bool (decide ((mulI r0.W r0.H) > 65536))) (by kernel_rfl) ?_
    refine ql_s (.bool (decide ((mulI r0.W r0.H) > 65536))) (by kernel_rfl) ?_
    refine ql_nil ?_
    refine e_then ?_
    refine c_cond (decide ((mulI r0.W r0.H) > 65536)) rfl (fun ht2 => ?_) (fun ht2 => ?_)
    · skip
      replace hp := if_t ht2 hp
      refine c_seq ?_
      refine c_quiet ?_
      refine ql_s (.int .i64 4) (by kernel_rfl) ?_
      refine ql_nil ?_
      refine e_drop ?_
      refine e_then ?_
      refine c_ret ?_
      refine e_blk_ret ?_
      refine e_then_ret ?_
      obtain rfl := Option.some.inj hp
      exact post_all (vs := [.int .i64 4]) (.int .i64 4) ⟨rfl, trivial⟩ rfl (.inl rfl) (fun w hS => ⟨rfl, hS⟩)
    · skip
      replace hp := if_f ht2 hp
      refine c_seq ?_
      refine c_cutq_end [(21, .bool ((decide (r0.X < (-4194304))) || ((decide (r0.Y < (-4194304))) || ((decide (r0.X > (subI 4194304 r0.W))) || (decide (r0.Y > (subI 4194304 r0.H)))))))] ?_ ?_
      · skip
        refine c_quiet ?_
        refine ql_s (.pointer (some ⟨b2, 0, none⟩)) (by kernel_rfl) ?_
        refine ql_q rfl (qs_ldpt encV fitv3 rfl 0 rfl (.int .i64 r0.X) (Nat.le_of_ble_eq_true rfl) rfl) ?_
        refine ql_s (.bool (decide (r0.X < (-4194304)))) (by kernel_rfl) ?_
        refine ql_s (.bool (decide (r0.X < (-4194304)))) (by kernel_rfl) ?_
        refine ql_case 25 (decide (r0.X < (-4194304))) rfl (fun hg2 => ?_) (fun hg2 => ?_)
        · skip
          refine ql_s undef (by kernel_rfl) ?_
          refine ql_s undef (by kernel_rfl) ?_
          refine ql_s undef (by kernel_rfl) ?_
          refine ql_s (.bool true) (by kernel_rfl) ?_
          refine ql_s (.bool true) (by kernel_rfl) ?_
          refine ql_s undef (by kernel_rfl) ?_
          refine ql_s undef (by kernel_rfl) ?_
          refine ql_s undef (by kernel_rfl) ?_
          refine ql_s undef (by kernel_rfl) ?_
          refine ql_s undef (by kernel_rfl) ?_
          refine ql_s undef (by kernel_rfl) ?_
          refine ql_s (.bool true) (by kernel_rfl) ?_
          refine ql_s (.bool true) (by kernel_rfl) ?_
          refine ql_s undef (by kernel_rfl) ?_
          refine ql_s undef (by kernel_rfl) ?_
          refine ql_s undef (by kernel_rfl) ?_
          refine ql_s undef (by kernel_rfl) ?_
          refine ql_s undef (by kernel_rfl) ?_
          refine ql_s undef (by kernel_rfl) ?_
          refine ql_s (.bool true) (by kernel_rfl) ?_
          refine ql_s (.bool true) (by kernel_rfl) ?_
          refine ql_nil (e_cutq ?_)
          exact ⟨(congrArg Value.bool (by first | rfl | (rw [hg2]; rfl) | simp [hg2])), trivial⟩
        · skip
          refine ql_s (.pointer (some ⟨b2, 1, none⟩)) (by kernel_rfl) ?_
          refine ql_q rfl (qs_ldpt encV fitv3 rfl 0 rfl (.int .i64 r0.Y) (Nat.le_of_ble_eq_true rfl) rfl) ?_
          refine ql_s (.bool (decide (r0.Y < (-4194304)))) (by kernel_rfl) ?_
          refine ql_s (.bool (decide (r0.Y < (-4194304)))) (by kernel_rfl) ?_
          refine ql_s (.bool (decide (r0.Y < (-4194304)))) (by kernel_rfl) ?_
          refine ql_case 30 (decide (r0.Y < (-4194304))) rfl (fun hg3 => ?_) (fun hg3 => ?_)
          · skip
            refine ql_s undef (by kernel_rfl) ?_
            refine ql_s undef (by kernel_rfl) ?_
            refine ql_s undef (by kernel_rfl) ?_
            refine ql_s undef (by kernel_rfl) ?_
            refine ql_s undef (by kernel_rfl) ?_
            refine ql_s undef (by kernel_rfl) ?_
            refine ql_s (.bool true) (by kernel_rfl) ?_
            refine ql_s (.bool true) (by kernel_rfl) ?_
            refine ql_s undef (by kernel_rfl) ?_
            refine ql_s undef (by kernel_rfl) ?_
            refine ql_s undef (by kernel_rfl) ?_
            refine ql_s undef (by kernel_rfl) ?_
            refine ql_s undef (by kernel_rfl) ?_
            refine ql_s undef (by kernel_rfl) ?_
            refine ql_s (.bool true) (by kernel_rfl) ?_
            refine ql_s (.bool true) (by kernel_rfl) ?_
            refine ql_nil (e_cutq ?_)
            exact ⟨(congrArg Value.bool (by first | rfl | (rw [hg2, hg3]; rfl) | simp [hg2, hg3])), trivial⟩
          · skip
            refine ql_s (.pointer (some ⟨b2, 0, none⟩)) (by kernel_rfl) ?_
            refine ql_q rfl (qs_ldpt encV fitv3 rfl 0 rfl (.int .i64 r0.X) (Nat.le_of_ble_eq_true rfl) rfl) ?_
            refine ql_s (.pointer (some ⟨b2, 2, none⟩)) (by kernel_rfl) ?_
            refine ql_q rfl (qs_ldpt encV fitv3 rfl 0 rfl (.int .i64 r0.W) (Nat.le_of_ble_eq_true rfl) rfl) ?_
            refine ql_s (.int .i64 (subI 4194304 r0.W)) (by kernel_rfl) ?_
            refine ql_s (.bool (decide (r0.X > (subI 4194304 r0.W)))) (by kernel_rfl) ?_
            refine ql_s (.bool (decide (r0.X > (subI 4194304 r0.W)))) (by kernel_rfl) ?_
            refine ql_s (.bool (decide (r0.X > (subI 4194304 r0.W)))) (by kernel_rfl) ?_
            refine ql_case 38 (decide (r0.X > (subI 4194304 r0.W))) rfl (fun hg4 => ?_) (fun hg4 => ?_)
            · skip
              refine ql_s undef (by kernel_rfl) ?_
              refine ql_s undef (by kernel_rfl) ?_
              refine ql_s undef (by kernel_rfl) ?_
              refine ql_s undef (by kernel_rfl) ?_
              refine ql_s undef (by kernel_rfl) ?_
              refine ql_s undef (by kernel_rfl) ?_
              refine ql_s (.bool true) (by kernel_rfl) ?_
              refine ql_s (.bool true) (by kernel_rfl) ?_
              refine ql_nil (e_cutq ?_)
              exact ⟨(congrArg Value.bool (by first | rfl | (rw [hg2, hg3, hg4]; rfl) | simp [hg2, hg3, hg4])), trivial⟩
            · skip
              refine ql_s (.pointer (some ⟨b2, 1, none⟩)) (by kernel_rfl) ?_
              refine ql_q rfl (qs_ldpt encV fitv3 rfl 0 rfl (.int .i64 r0.Y) (Nat.le_of_ble_eq_true rfl) rfl) ?_
              refine ql_s (.pointer (some ⟨b2, 3, none⟩)) (by kernel_rfl) ?_
              refine ql_q rfl (qs_ldpt encV fitv3 rfl 0 rfl (.int .i64 r0.H) (Nat.le_of_ble_eq_true rfl) rfl) ?_
              refine ql_s (.int .i64 (subI 4194304 r0.H)) (by kernel_rfl) ?_
              refine ql_s (.bool (decide (r0.Y > (subI 4194304 r0.H)))) (by kernel_rfl) ?_
              refine ql_s (.bool (decide (r0.Y > (subI 4194304 r0.H)))) (by kernel_rfl) ?_
              refine ql_s (.bool (decide (r0.Y > (subI 4194304 r0.H)))) (by kernel_rfl) ?_
              refine ql_nil (e_cutq ?_)
              exact ⟨(congrArg Value.bool (by first | rfl | (rw [hg2, hg3, hg4]; rfl) | simp [hg2, hg3, hg4])), trivial⟩
      intro _
      refine e_then ?_
      refine c_cond (((decide (r0.X < (-4194304))) || ((decide (r0.Y < (-4194304))) || ((decide (r0.X > (subI 4194304 r0.W))) || (decide (r0.Y > (subI 4194304 r0.H))))))) rfl (fun ht3 => ?_) (fun ht3 => ?_)
      · skip
        replace hp := if_t ht3 hp
        refine c_seq ?_
        refine c_quiet ?_
        refine ql_s (.int .i64 5) (by kernel_rfl) ?_
        refine ql_nil ?_
        refine e_drop ?_
        refine e_then ?_
        refine c_ret ?_
        refine e_blk_ret ?_
        refine e_then_ret ?_
        obtain rfl := Option.some.inj hp
        exact post_all (vs := [.int .i64 5]) (.int .i64 5) ⟨rfl, trivial⟩ rfl (.inl rfl) (fun w hS => ⟨rfl, hS⟩)
      · skip
        replace hp := if_f ht3 hp
        refine c_skip ?_
        refine e_blk ?_
        refine e_then ?_
        refine c_seq ?_
        refine c_quiet ?_
        refine ql_s (.int .i64 0) (by kernel_rfl) ?_
        refine ql_nil ?_
        refine e_drop ?_
        refine e_then ?_
        refine c_ret ?_
        obtain rfl := Option.some.inj hp
        exact post_all (vs := [.int .i64 0]) (.int .i64 0) ⟨rfl, trivial⟩ rfl (.inl rfl) (fun w hS => ⟨rfl, hS⟩)

-- tarnfell/field.finite
set_option maxRecDepth 100000 in
set_option maxHeartbeats 4000000 in
theorem field_finite_s (v0 : Nat) (D : PH)  (F : List Assert) (r : Bool) (hp : field_finite_p v0 = some r) : ∀ w : World, SInv D (F) w → Calls Try.prog 78 #[.float .f32 v0] w (fun e w' => e = .returned (.bool r) ∧ SInv D (F) w') := by
  intro w hS
  refine call_intro Try.func78 rfl Try.ntmps78 (Nat.le_of_ble_eq_true rfl) hS ?_
  clear hS w
  unfold field_finite_p at hp
  refine c_seq ?_
  refine c_quiet ?_
  refine ql_s (.bool false) (by kernel_rfl) ?_
  refine ql_nil ?_
  refine e_then ?_
  refine c_seq ?_
  refine c_cutq_end [(2, .bool ((fge .f32 v0 4286578687) && (fle .f32 v0 2139095039)))] ?_ ?_
  · skip
    refine c_quiet ?_
    refine ql_s (.float .f32 v0) (by kernel_rfl) ?_
    refine ql_s (.bool (fge .f32 v0 4286578687)) (by kernel_rfl) ?_
    refine ql_s (.bool (fge .f32 v0 4286578687)) (by kernel_rfl) ?_
    refine ql_case 5 (fge .f32 v0 4286578687) rfl (fun hg1 => ?_) (fun hg1 => ?_)
    · skip
      refine ql_s (.float .f32 v0) (by kernel_rfl) ?_
      refine ql_s (.bool (fle .f32 v0 2139095039)) (by kernel_rfl) ?_
      refine ql_s (.bool (fle .f32 v0 2139095039)) (by kernel_rfl) ?_
      refine ql_s (.bool (fle .f32 v0 2139095039)) (by kernel_rfl) ?_
      refine ql_nil (e_cutq ?_)
      exact ⟨(congrArg Value.bool (by first | rfl | (rw [hg1]; rfl) | simp [hg1])), trivial⟩
    · skip
      refine ql_s undef (by kernel_rfl) ?_
      refine ql_s undef (by kernel_rfl) ?_
      refine ql_s (.bool false) (by kernel_rfl) ?_
      refine ql_s (.bool false) (by kernel_rfl) ?_
      refine ql_nil (e_cutq ?_)
      exact ⟨(congrArg Value.bool (by first | rfl | (rw [hg1]; rfl) | simp [hg1])), trivial⟩
  intro _
  refine e_then ?_
  refine c_ret ?_
  obtain rfl := Option.some.inj hp
  exact post_all (vs := [.bool ((fge .f32 v0 4286578687) && (fle .f32 v0 2139095039))]) (.bool ((fge .f32 v0 4286578687) && (fle .f32 v0 2139095039))) ⟨rfl, trivial⟩ rfl (.inl rfl) (fun w hS => ⟨rfl, hS⟩)

-- tarnfell/field.height
set_option maxRecDepth 100000 in
set_option maxHeartbeats 4000000 in
theorem field_height_s (v0 : Nat) (D : PH)  (F : List Assert) (r : Bool) (hp : field_height_p v0 = some r) : ∀ w : World, SInv D (F) w → Calls Try.prog 79 #[.float .f32 v0] w (fun e w' => e = .returned (.bool r) ∧ SInv D (F) w') := by
  intro w hS
  refine call_intro Try.func79 rfl Try.ntmps79 (Nat.le_of_ble_eq_true rfl) hS ?_
  clear hS w
  unfold field_height_p at hp
  refine c_seq ?_
  refine c_quiet ?_
  refine ql_s (.bool false) (by kernel_rfl) ?_
  refine ql_nil ?_
  refine e_then ?_
  refine c_seq ?_
  refine c_cutq_end [(2, .bool ((fge .f32 v0 3380609024) && (fle .f32 v0 1233125376)))] ?_ ?_
  · skip
    refine c_quiet ?_
    refine ql_s (.float .f32 v0) (by kernel_rfl) ?_
    refine ql_s (.bool (fge .f32 v0 3380609024)) (by kernel_rfl) ?_
    refine ql_s (.bool (fge .f32 v0 3380609024)) (by kernel_rfl) ?_
    refine ql_case 5 (fge .f32 v0 3380609024) rfl (fun hg1 => ?_) (fun hg1 => ?_)
    · skip
      refine ql_s (.float .f32 v0) (by kernel_rfl) ?_
      refine ql_s (.bool (fle .f32 v0 1233125376)) (by kernel_rfl) ?_
      refine ql_s (.bool (fle .f32 v0 1233125376)) (by kernel_rfl) ?_
      refine ql_s (.bool (fle .f32 v0 1233125376)) (by kernel_rfl) ?_
      refine ql_nil (e_cutq ?_)
      exact ⟨(congrArg Value.bool (by first | rfl | (rw [hg1]; rfl) | simp [hg1])), trivial⟩
    · skip
      refine ql_s undef (by kernel_rfl) ?_
      refine ql_s undef (by kernel_rfl) ?_
      refine ql_s (.bool false) (by kernel_rfl) ?_
      refine ql_s (.bool false) (by kernel_rfl) ?_
      refine ql_nil (e_cutq ?_)
      exact ⟨(congrArg Value.bool (by first | rfl | (rw [hg1]; rfl) | simp [hg1])), trivial⟩
  intro _
  refine e_then ?_
  refine c_ret ?_
  obtain rfl := Option.some.inj hp
  exact post_all (vs := [.bool ((fge .f32 v0 3380609024) && (fle .f32 v0 1233125376))]) (.bool ((fge .f32 v0 3380609024) && (fle .f32 v0 1233125376))) ⟨rfl, trivial⟩ rfl (.inl rfl) (fun w hS => ⟨rfl, hS⟩)

-- tarnfell/field.Heights
set_option maxRecDepth 100000 in
set_option maxHeartbeats 4000000 in
theorem field_Heights_s (l0 : List Nat) (l0_v1a : Option Addr) (l0_v1c : Nat) (D : PH) (l0_h1 : RO (encF .f32) D (.slice l0_v1a l0.length l0_v1c) l0) (F : List Assert) (r : Int) (hp : field_Heights_p l0 = some r) : ∀ w : World, SInv D (F) w → Calls Try.prog 34 #[.slice l0_v1a l0.length l0_v1c] w (fun e w' => e = .returned (.int .i64 r) ∧ SInv D (F) w') := by
  intro w hS
  refine call_intro Try.func34 rfl Try.ntmps34 (Nat.le_of_ble_eq_true rfl) hS ?_
  clear hS w
  unfold field_Heights_p at hp
  refine c_seq ?_
  refine c_quiet ?_
  refine ql_s (.int .i64 0) (by kernel_rfl) ?_
  refine ql_nil ?_
  refine e_then ?_
  refine c_seq ?_
  refine c_seq ?_
  refine c_quiet ?_
  refine ql_s (.slice l0_v1a l0.length l0_v1c) (by kernel_rfl) ?_
  refine ql_s (.int .i64 (l0.length : Int)) (by kernel_rfl) ?_
  refine ql_s (.int .i64 0) (by kernel_rfl) ?_
  refine ql_nil ?_
  refine e_then ?_
  have hb0 : (l0.length : Int) ≤ 4611686018427387904 := by have := RO.bound l0_h1; omega
  have hm0 : l0.length = (l0.length : Int).toNat := by omega
  have hm1 := hm0; have hb1 := hb0; clear hm0 hb0
  obtain ⟨x1, hs1, hp⟩ := bnd_some hp
  obtain ⟨body1, hbody1, hs1⟩ := forI_gen hs1
  refine c_cut_end (fun φ1 D1 As1 => ∃ (s1 : Unit), x1 = .go s1 ∧ Is φ1 [(0, .slice l0_v1a l0.length l0_v1c)] ∧ PH.le D D1 ∧ As1 = F) ?_ ?_
  · skip
    refine c_block ?_
    refine c_loop (fun k φ1 D2 As1 => ∃ (j1 i1 : Nat) (s2 : Unit), k = j1 + 1 ∧ i1 + j1 = l0.length ∧ Is φ1 [(0, .slice l0_v1a l0.length l0_v1c), (7, .slice l0_v1a l0.length l0_v1c), (8, .int .i64 (l0.length : Int)), (9, .int .i64 (i1 : Int))] ∧ PH.le D D2 ∧ As1 = F ∧ forI body1 j1 i1 s2 = some x1) ⟨l0.length + 1, l0.length, 0, (), rfl, Nat.zero_add _, ⟨rfl, rfl, rfl, rfl, trivial⟩, (PH.le_refl _), rfl, hs1⟩ ?_ ?_
    · rintro _ _ _ ⟨_, _, _, h0, _⟩; omega
    intro k1
    rintro φ1 D2 As1 ⟨j1, i1, s2, hk1, hij1, hI1, hD1, hA1, hs2⟩
    subst As1
    replace l0_h1 := l0_h1.mono hD1
    refine c_frame _ hI1 ?_
    obtain rfl : k1 = j1 := by omega
    clear hk1
    rcases k1 with _ | j1
    · skip
      refine c_seq ?_
      refine c_quiet ?_
      refine ql_s (.bool (decide ((i1 : Int) < (l0.length : Int)))) (by kernel_rfl) ?_
      refine ql_nil ?_
      refine e_then ?_
      refine c_seq ?_
      refine c_cond (decide ((i1 : Int) < (l0.length : Int))) rfl (fun ht1 => absurd ((dec_lt_f hm1 (by omega)).symm.trans ht1) (by simp)) (fun _ => ?_)
      refine c_exit ?_
      refine e_then_exit ?_
      refine e_then_exit ?_
      obtain rfl := Option.some.inj hs2
      refine e_blk_exit ?_
      exact e_cut ⟨(), rfl, ⟨rfl, trivial⟩, hD1, rfl⟩
    · skip
      obtain ⟨y1, hx1, hs2⟩ := forI_some hs2
      replace hx1 := (congrFun (congrFun hbody1 i1) s2).trans hx1
      refine c_seq ?_
      refine c_quiet ?_
      refine ql_s (.bool (decide ((i1 : Int) < (l0.length : Int)))) (by kernel_rfl) ?_
      refine ql_nil ?_
      refine e_then ?_
      refine c_seq ?_
      refine c_cond (decide ((i1 : Int) < (l0.length : Int))) rfl (fun _ => ?_) (fun ht2 => absurd ((dec_lt_t hm1 (by omega)).symm.trans ht2) (by simp))
      refine c_skip ?_
      refine e_then ?_
      refine c_seq ?_
      refine c_block ?_
      refine c_seq ?_
      obtain ⟨x2, hx2, hx1⟩ := bnd_some hx1
      obtain ⟨b1, o1, h1, hq1⟩ := RO.at l0_h1 hx2
      refine c_quiet ?_
      refine ql_q rfl (qs_idx hq1 Try.underlying24 fit40 rfl rfl) ?_
      refine ql_q rfl (qs_ldAtV fit40 rfl h1 valF) ?_
      refine ql_s (.float .f32 x2) (by kernel_rfl) ?_
      refine ql_nil ?_
      refine e_then ?_
      refine c_seq ?_
      obtain ⟨r1, hr1, hx1⟩ := bnd_some hx1
      refine c_quiet ?_
      refine ql_s (.float .f32 x2) (by kernel_rfl) ?_
      refine ql_call (v := .bool r1) rfl (run_call (vs := [.float .f32 x2]) rfl Try.call78 rfl) (fun w hS => (field_finite_s x2 _  _ _ hr1 w (hS)).mono fun e w' h => ⟨h.1, h.2⟩) ?_
      refine ql_s (.bool (!r1)) (by kernel_rfl) ?_
      refine ql_nil ?_
      refine e_then ?_
      refine c_cond (!r1) rfl (fun ht3 => ?_) (fun ht3 => ?_)
      · skip
        replace hx1 := if_t ht3 hx1
        refine c_seq ?_
        refine c_quiet ?_
        refine ql_s (.int .i64 2) (by kernel_rfl) ?_
        refine ql_nil ?_
        refine e_then ?_
        refine c_ret ?_
        refine e_blk_ret ?_
        refine e_then_ret ?_
        refine e_then_ret ?_
        obtain rfl := Option.some.inj hx1
        obtain rfl := hs2
        refine e_blk_ret ?_
        refine e_then_ret ?_
        dsimp only at hp
        refine e_then_ret ?_
        obtain rfl := Option.some.inj hp
        exact post_all (vs := [.int .i64 2]) (.int .i64 2) ⟨rfl, trivial⟩ rfl (.inl rfl) (fun w hS => ⟨rfl, (hS.lower hD1)⟩)
      · skip
        replace hx1 := if_f ht3 hx1
        refine c_skip ?_
        refine e_blk ?_
        refine e_then ?_
        refine c_quiet ?_
        refine ql_s (.int .i64 (addI (i1 : Int) 1)) (by kernel_rfl) ?_
        refine ql_s (.int .i64 (addI (i1 : Int) 1)) (by kernel_rfl) ?_
        refine ql_nil ?_
        obtain rfl := Option.some.inj hx1
        exact e_cut ⟨j1, i1 + 1, (), by omega, by omega, ⟨rfl, rfl, rfl, (congrArg (Value.int .i64) (addI_succ (by omega))), trivial⟩, hD1, rfl, hs2⟩
  · skip
    rintro φ2 D1 As2 ⟨s1, rfl, hI2, hD2, hA2⟩
    subst As2
    replace l0_h1 := l0_h1.mono hD2
    dsimp only at hp
    refine e_frame _ hI2 ?_
    refine e_then ?_
    refine c_seq ?_
    refine c_seq ?_
    refine c_quiet ?_
    refine ql_s (.slice l0_v1a l0.length l0_v1c) (by kernel_rfl) ?_
    refine ql_s (.int .i64 (l0.length : Int)) (by kernel_rfl) ?_
    refine ql_s (.int .i64 0) (by kernel_rfl) ?_
    refine ql_nil ?_
    refine e_then ?_
    have hb0 : (l0.length : Int) ≤ 4611686018427387904 := by have := RO.bound l0_h1; omega
    have hm0 : l0.length = (l0.length : Int).toNat := by omega
    have hm2 := hm0; have hb2 := hb0; clear hm0 hb0
    obtain ⟨x3, hs3, hp⟩ := bnd_some hp
    obtain ⟨body2, hbody2, hs3⟩ := forI_gen hs3
    refine c_cut_end (fun φ1 D3 As1 => ∃ (s3 : Unit), x3 = .go s3 ∧ Is φ1 [] ∧ PH.le D1 D3 ∧ As1 = F) ?_ ?_
    · skip
      refine c_block ?_
      refine c_loop (fun k φ1 D4 As1 => ∃ (j2 i2 : Nat) (s4 : Unit), k = j2 + 1 ∧ i2 + j2 = l0.length ∧ Is φ1 [(17, .slice l0_v1a l0.length l0_v1c), (18, .int .i64 (l0.length : Int)), (19, .int .i64 (i2 : Int))] ∧ PH.le D1 D4 ∧ As1 = F ∧ forI body2 j2 i2 s4 = some x3) ⟨l0.length + 1, l0.length, 0, (), rfl, Nat.zero_add _, ⟨rfl, rfl, rfl, trivial⟩, (PH.le_refl _), rfl, hs3⟩ ?_ ?_
      · rintro _ _ _ ⟨_, _, _, h0, _⟩; omega
      intro k2
      rintro φ3 D4 As3 ⟨j2, i2, s4, hk2, hij2, hI3, hD3, hA3, hs4⟩
      subst As3
      replace l0_h1 := l0_h1.mono hD3
      refine c_frame _ hI3 ?_
      obtain rfl : k2 = j2 := by omega
      clear hk2
      rcases k2 with _ | j2
      · skip
        refine c_seq ?_
        refine c_quiet ?_
        refine ql_s (.bool (decide ((i2 : Int) < (l0.length : Int)))) (by kernel_rfl) ?_
        refine ql_nil ?_
        refine e_then ?_
        refine c_seq ?_
        refine c_cond (decide ((i2 : Int) < (l0.length : Int))) rfl (fun ht4 => absurd ((dec_lt_f hm2 (by omega)).symm.trans ht4) (by simp)) (fun _ => ?_)
        refine c_exit ?_
        refine e_then_exit ?_
        refine e_then_exit ?_
        obtain rfl := Option.some.inj hs4
        refine e_blk_exit ?_
        exact e_cut ⟨(), rfl, trivial, hD3, rfl⟩
      · skip
        obtain ⟨y2, hx3, hs4⟩ := forI_some hs4
        replace hx3 := (congrFun (congrFun hbody2 i2) s4).trans hx3
        refine c_seq ?_
        refine c_quiet ?_
        refine ql_s (.bool (decide ((i2 : Int) < (l0.length : Int)))) (by kernel_rfl) ?_
        refine ql_nil ?_
        refine e_then ?_
        refine c_seq ?_
        refine c_cond (decide ((i2 : Int) < (l0.length : Int))) rfl (fun _ => ?_) (fun ht5 => absurd ((dec_lt_t hm2 (by omega)).symm.trans ht5) (by simp))
        refine c_skip ?_
        refine e_then ?_
        refine c_seq ?_
        refine c_block ?_
        refine c_seq ?_
        obtain ⟨x4, hx4, hx3⟩ := bnd_some hx3
        obtain ⟨b2, o2, h2, hq2⟩ := RO.at l0_h1 hx4
        refine c_quiet ?_
        refine ql_q rfl (qs_idx hq2 Try.underlying24 fit40 rfl rfl) ?_
        refine ql_q rfl (qs_ldAtV fit40 rfl h2 valF) ?_
        refine ql_s (.float .f32 x4) (by kernel_rfl) ?_
        refine ql_nil ?_
        refine e_then ?_
        refine c_seq ?_
        obtain ⟨r2, hr2, hx3⟩ := bnd_some hx3
        refine c_quiet ?_
        refine ql_s (.float .f32 x4) (by kernel_rfl) ?_
        refine ql_call (v := .bool r2) rfl (run_call (vs := [.float .f32 x4]) rfl Try.call79 rfl) (fun w hS => (field_height_s x4 _  _ _ hr2 w (hS)).mono fun e w' h => ⟨h.1, h.2⟩) ?_
        refine ql_s (.bool (!r2)) (by kernel_rfl) ?_
        refine ql_nil ?_
        refine e_then ?_
        refine c_cond (!r2) rfl (fun ht6 => ?_) (fun ht6 => ?_)
        · skip
          replace hx3 := if_t ht6 hx3
          refine c_seq ?_
          refine c_quiet ?_
          refine ql_s (.int .i64 3) (by kernel_rfl) ?_
          refine ql_nil ?_
          refine e_then ?_
          refine c_ret ?_
          refine e_blk_ret ?_
          refine e_then_ret ?_
          refine e_then_ret ?_
          obtain rfl := Option.some.inj hx3
          obtain rfl := hs4
          refine e_blk_ret ?_
          refine e_then_ret ?_
          dsimp only at hp
          refine e_then_ret ?_
          obtain rfl := Option.some.inj hp
          exact post_all (vs := [.int .i64 3]) (.int .i64 3) ⟨rfl, trivial⟩ rfl (.inl rfl) (fun w hS => ⟨rfl, (hS.lower (PH.le_trans hD2 hD3))⟩)
        · skip
          replace hx3 := if_f ht6 hx3
          refine c_skip ?_
          refine e_blk ?_
          refine e_then ?_
          refine c_quiet ?_
          refine ql_s (.int .i64 (addI (i2 : Int) 1)) (by kernel_rfl) ?_
          refine ql_s (.int .i64 (addI (i2 : Int) 1)) (by kernel_rfl) ?_
          refine ql_nil ?_
          obtain rfl := Option.some.inj hx3
          exact e_cut ⟨j2, i2 + 1, (), by omega, by omega, ⟨rfl, rfl, (congrArg (Value.int .i64) (addI_succ (by omega))), trivial⟩, hD3, rfl, hs4⟩
    · skip
      rintro φ4 D3 As4 ⟨s3, rfl, hI4, hD4, hA4⟩
      subst As4
      dsimp only at hp
      refine e_frame _ hI4 ?_
      refine e_then ?_
      refine c_seq ?_
      refine c_quiet ?_
      refine ql_s (.int .i64 0) (by kernel_rfl) ?_
      refine ql_nil ?_
      refine e_then ?_
      refine c_ret ?_
      obtain rfl := Option.some.inj hp
      exact post_all (vs := [.int .i64 0]) (.int .i64 0) ⟨rfl, trivial⟩ rfl (.inl rfl) (fun w hS => ⟨rfl, (hS.lower (PH.le_trans hD2 hD4))⟩)

-- tarnfell/field.Check
set_option maxRecDepth 100000 in
set_option maxHeartbeats 4000000 in
theorem field_Check_s (f0 : S_api_Field) (f0_v1a : Option Addr) (f0_v1c : Nat) (D : PH) (f0_h1 : RO (encF .f32) D (.slice f0_v1a f0.V.length f0_v1c) f0.V) (F : List Assert) (r : Int) (hp : field_Check_p f0 = some r) : ∀ w : World, SInv D (F) w → Calls Try.prog 75 #[.agg #[.int .i64 f0.Region.X, .int .i64 f0.Region.Y, .int .i64 f0.Region.W, .int .i64 f0.Region.H, .slice f0_v1a f0.V.length f0_v1c]] w (fun e w' => e = .returned (.int .i64 r) ∧ SInv D (F) w') := by
  intro w hS
  refine call_intro Try.func75 rfl Try.ntmps75 (Nat.le_of_ble_eq_true rfl) hS ?_
  clear hS w
  unfold field_Check_p at hp
  refine c_seq ?_
  refine c_region ?_
  refine l_box (cs := [.int .i64 f0.Region.X, .int .i64 f0.Region.Y, .int .i64 f0.Region.W, .int .i64 f0.Region.H, .slice f0_v1a f0.V.length f0_v1c]) rfl rfl (fun b2 => ?_)
  refine l_s (.int .i64 0) (by kernel_rfl) ?_
  refine l_nil ?_
  refine e_then ?_
  refine c_seq ?_
  refine c_seq ?_
  obtain ⟨r1, hr1, hp⟩ := bnd_some hp
  refine c_quiet ?_
  refine ql_s (.pointer (some ⟨b2, 0, none⟩)) (by kernel_rfl) ?_
  refine ql_q rfl (qs_ldpt (encW 4 (by decide)) fitv23 rfl 0 rfl (.agg #[.int .i64 f0.Region.X, .int .i64 f0.Region.Y, .int .i64 f0.Region.W, .int .i64 f0.Region.H]) (Nat.le_of_ble_eq_true rfl) rfl) ?_
  refine ql_call (v := .int .i64 r1) rfl (run_call (vs := [.agg #[.int .i64 f0.Region.X, .int .i64 f0.Region.Y, .int .i64 f0.Region.W, .int .i64 f0.Region.H]]) rfl Try.call61 rfl) (fun w hS => (field_CheckRegion_s f0.Region _  _ _ hr1 w (hS)).mono fun e w' h => ⟨h.1, h.2⟩) ?_
  refine ql_s (.int .i64 r1) (by kernel_rfl) ?_
  refine ql_nil ?_
  refine e_then ?_
  refine c_seq ?_
  refine c_quiet ?_
  refine ql_s (.int .i64 r1) (by kernel_rfl) ?_
  refine ql_s (.bool (r1 != 0)) (by kernel_rfl) ?_
  refine ql_nil ?_
  refine e_then ?_
  refine c_cond ((r1 != 0)) rfl (fun ht1 => ?_) (fun ht1 => ?_)
  · skip
    replace hp := if_t ht1 hp
    refine c_seq ?_
    refine c_quiet ?_
    refine ql_s (.int .i64 r1) (by kernel_rfl) ?_
    refine ql_s (.int .i64 r1) (by kernel_rfl) ?_
    refine ql_nil ?_
    refine e_drop ?_
    refine e_then ?_
    refine c_ret ?_
    refine e_then_ret ?_
    obtain rfl := Option.some.inj hp
    exact post_all (vs := [.int .i64 r1]) (.int .i64 r1) ⟨rfl, trivial⟩ rfl (.inl rfl) (fun w hS => ⟨rfl, hS⟩)
  · skip
    replace hp := if_f ht1 hp
    refine c_skip ?_
    refine e_then ?_
    refine c_seq ?_
    refine c_seq ?_
    refine c_quiet ?_
    refine ql_s (.pointer (some ⟨b2, 4, none⟩)) (by kernel_rfl) ?_
    refine ql_q rfl (qs_ldpt encV fitv24 rfl 0 rfl (.slice f0_v1a f0.V.length f0_v1c) (Nat.le_of_ble_eq_true rfl) rfl) ?_
    refine ql_s (.int .i64 (f0.V.length : Int)) (by kernel_rfl) ?_
    refine ql_s (.pointer (some ⟨b2, 0, none⟩)) (by kernel_rfl) ?_
    refine ql_s (.pointer (some ⟨b2, 2, none⟩)) (by kernel_rfl) ?_
    refine ql_q rfl (qs_ldpt encV fitv3 rfl 0 rfl (.int .i64 f0.Region.W) (Nat.le_of_ble_eq_true rfl) rfl) ?_
    refine ql_s (.pointer (some ⟨b2, 0, none⟩)) (by kernel_rfl) ?_
    refine ql_s (.pointer (some ⟨b2, 3, none⟩)) (by kernel_rfl) ?_
    refine ql_q rfl (qs_ldpt encV fitv3 rfl 0 rfl (.int .i64 f0.Region.H) (Nat.le_of_ble_eq_true rfl) rfl) ?_
    refine ql_s (.int .i64 (mulI f0.Region.W f0.Region.H)) (by kernel_rfl) ?_
    refine ql_s (.bool ((f0.V.length : Int) != (mulI f0.Region.W f0.Region.H))) (by kernel_rfl) ?_
    refine ql_nil ?_
    refine e_then ?_
    refine c_cond (((f0.V.length : Int) != (mulI f0.Region.W f0.Region.H))) rfl (fun ht2 => ?_) (fun ht2 => ?_)
    · skip
      replace hp := if_t ht2 hp
      refine c_seq ?_
      refine c_quiet ?_
      refine ql_s (.int .i64 2) (by kernel_rfl) ?_
      refine ql_nil ?_
      refine e_drop ?_
      refine e_then ?_
      refine c_ret ?_
      refine e_then_ret ?_
      obtain rfl := Option.some.inj hp
      exact post_all (vs := [.int .i64 2]) (.int .i64 2) ⟨rfl, trivial⟩ rfl (.inl rfl) (fun w hS => ⟨rfl, hS⟩)
    · skip
      replace hp := if_f ht2 hp
      refine c_skip ?_
      refine e_then ?_
      refine c_seq ?_
      obtain ⟨r2, hr2, hp⟩ := bnd_some hp
      refine c_quiet ?_
      refine ql_s (.pointer (some ⟨b2, 4, none⟩)) (by kernel_rfl) ?_
      refine ql_q rfl (qs_ldpt encV fitv24 rfl 0 rfl (.slice f0_v1a f0.V.length f0_v1c) (Nat.le_of_ble_eq_true rfl) rfl) ?_
      refine ql_call (v := .int .i64 r2) rfl (run_call (vs := [.slice f0_v1a f0.V.length f0_v1c]) rfl Try.call34 rfl) (fun w hS => (field_Heights_s f0.V f0_v1a f0_v1c _ f0_h1 _ _ hr2 w (hS)).mono fun e w' h => ⟨h.1, h.2⟩) ?_
      refine ql_s (.int .i64 r2) (by kernel_rfl) ?_
      refine ql_nil ?_
      refine e_drop ?_
      refine e_then ?_
      refine c_ret ?_
      obtain rfl := Option.some.inj hp
      exact post_all (vs := [.int .i64 r2]) (.int .i64 r2) ⟨rfl, trivial⟩ rfl (.inl rfl) (fun w hS => ⟨rfl, hS⟩)

-- tarnfell/road.amount
set_option maxRecDepth 100000 in
set_option maxHeartbeats 4000000 in
theorem road_amount_s (l0 : List S_api_Point) (l0_v1a : Option Addr) (l0_v1c : Nat) (D : PH) (l0_h1 : RO encS_api_Point D (.slice l0_v1a l0.length l0_v1c) l0) (F : List Assert) (r : Int) (hp : road_amount_p l0 = some r) : ∀ w : World, SInv D (F) w → Calls Try.prog 104 #[.slice l0_v1a l0.length l0_v1c] w (fun e w' => e = .returned (.int .i64 r) ∧ SInv D (F) w') := by
  intro w hS
  refine call_intro Try.func104 rfl Try.ntmps104 (Nat.le_of_ble_eq_true rfl) hS ?_
  clear hS w
  unfold road_amount_p at hp
  refine c_seq ?_
  refine c_quiet ?_
  refine ql_s (.int .i64 0) (by kernel_rfl) ?_
  refine ql_nil ?_
  refine e_then ?_
  refine c_seq ?_
  refine c_block ?_
  refine c_seq ?_
  refine c_quiet ?_
  refine ql_s (.slice l0_v1a l0.length l0_v1c) (by kernel_rfl) ?_
  refine ql_s (.int .i64 (l0.length : Int)) (by kernel_rfl) ?_
  refine ql_s (.bool ((l0.length : Int) == 0)) (by kernel_rfl) ?_
  refine ql_s (.bool ((l0.length : Int) == 0)) (by kernel_rfl) ?_
  refine ql_nil ?_
  refine e_then ?_
  refine c_cond (((l0.length : Int) == 0)) rfl (fun ht1 => ?_) (fun ht1 => ?_)
  · skip
    replace hp := if_t ht1 hp
    refine c_seq ?_
    refine c_quiet ?_
    refine ql_s (.int .i64 10) (by kernel_rfl) ?_
    refine ql_nil ?_
    refine e_then ?_
    refine c_ret ?_
    refine e_blk_ret ?_
    refine e_then_ret ?_
    obtain rfl := Option.some.inj hp
    exact post_all (vs := [.int .i64 10]) (.int .i64 10) ⟨rfl, trivial⟩ rfl (.inl rfl) (fun w hS => ⟨rfl, hS⟩)
  · skip
    replace hp := if_f ht1 hp
    refine c_seq ?_
    refine c_quiet ?_
    refine ql_s (.slice l0_v1a l0.length l0_v1c) (by kernel_rfl) ?_
    refine ql_s (.int .i64 (l0.length : Int)) (by kernel_rfl) ?_
    refine ql_s (.bool (decide ((l0.length : Int) > 65536))) (by kernel_rfl) ?_
    refine ql_s (.bool (decide ((l0.length : Int) > 65536))) (by kernel_rfl) ?_
    refine ql_nil ?_
    refine e_then ?_
    refine c_cond (decide ((l0.length : Int) > 65536)) rfl (fun ht2 => ?_) (fun ht2 => ?_)
    · skip
      replace hp := if_t ht2 hp
      refine c_seq ?_
      refine c_quiet ?_
      refine ql_s (.int .i64 4) (by kernel_rfl) ?_
      refine ql_nil ?_
      refine e_then ?_
      refine c_ret ?_
      refine e_blk_ret ?_
      refine e_then_ret ?_
      obtain rfl := Option.some.inj hp
      exact post_all (vs := [.int .i64 4]) (.int .i64 4) ⟨rfl, trivial⟩ rfl (.inl rfl) (fun w hS => ⟨rfl, hS⟩)
    · skip
      replace hp := if_f ht2 hp
      refine c_skip ?_
      refine e_blk ?_
      refine e_then ?_
      refine c_seq ?_
      refine c_quiet ?_
      refine ql_s (.int .i64 0) (by kernel_rfl) ?_
      refine ql_nil ?_
      refine e_then ?_
      refine c_ret ?_
      obtain rfl := Option.some.inj hp
      exact post_all (vs := [.int .i64 0]) (.int .i64 0) ⟨rfl, trivial⟩ rfl (.inl rfl) (fun w hS => ⟨rfl, hS⟩)

-- tarnfell/field.Place
set_option maxRecDepth 100000 in
set_option maxHeartbeats 4000000 in
theorem field_Place_s (r0 : S_api_Region) (x0 : Int) (y0 : Int) (D : PH)  (F : List Assert) (r : Int × Bool) (hp : field_Place_p r0 x0 y0 = some r) : ∀ w : World, SInv D (F) w → Calls Try.prog 73 #[.agg #[.int .i64 r0.X, .int .i64 r0.Y, .int .i64 r0.W, .int .i64 r0.H], .int .i64 x0, .int .i64 y0] w (fun e w' => e = .returned (.tuple #[.int .i64 r.1, .bool r.2]) ∧ SInv D (F) w') := by
  intro w hS
  refine call_intro Try.func73 rfl Try.ntmps73 (Nat.le_of_ble_eq_true rfl) hS ?_
  clear hS w
  unfold field_Place_p at hp
  refine c_seq ?_
  refine c_region ?_
  refine l_box (cs := [.int .i64 r0.X, .int .i64 r0.Y, .int .i64 r0.W, .int .i64 r0.H]) rfl rfl (fun b2 => ?_)
  refine l_s (.int .i64 0) (by kernel_rfl) ?_
  refine l_s (.bool false) (by kernel_rfl) ?_
  refine l_nil ?_
  refine e_then ?_
  refine c_seq ?_
  refine c_seq ?_
  refine c_cutq_end [(1, .int .i64 x0), (2, .int .i64 y0), (3, .pointer (some ⟨b2, 0, none⟩)), (35, .bool ((decide (x0 < r0.X)) || ((decide (y0 < r0.Y)) || ((decide (x0 ≥ (addI r0.X r0.W))) || (decide (y0 ≥ (addI r0.Y r0.H)))))))] ?_ ?_
  · skip
    refine c_quiet ?_
    refine ql_s (.int .i64 x0) (by kernel_rfl) ?_
    refine ql_s (.pointer (some ⟨b2, 0, none⟩)) (by kernel_rfl) ?_
    refine ql_q rfl (qs_ldpt encV fitv3 rfl 0 rfl (.int .i64 r0.X) (Nat.le_of_ble_eq_true rfl) rfl) ?_
    refine ql_s (.bool (decide (x0 < r0.X))) (by kernel_rfl) ?_
    refine ql_s (.bool (decide (x0 < r0.X))) (by kernel_rfl) ?_
    refine ql_case 12 (decide (x0 < r0.X)) rfl (fun hg1 => ?_) (fun hg1 => ?_)
    · skip
      refine ql_s undef (by kernel_rfl) ?_
      refine ql_s undef (by kernel_rfl) ?_
      refine ql_s undef (by kernel_rfl) ?_
      refine ql_s undef (by kernel_rfl) ?_
      refine ql_s (.bool true) (by kernel_rfl) ?_
      refine ql_s (.bool true) (by kernel_rfl) ?_
      refine ql_s undef (by kernel_rfl) ?_
      refine ql_s undef (by kernel_rfl) ?_
      refine ql_s undef (by kernel_rfl) ?_
      refine ql_s undef (by kernel_rfl) ?_
      refine ql_s undef (by kernel_rfl) ?_
      refine ql_s undef (by kernel_rfl) ?_
      refine ql_s undef (by kernel_rfl) ?_
      refine ql_s (.bool true) (by kernel_rfl) ?_
      refine ql_s (.bool true) (by kernel_rfl) ?_
      refine ql_s undef (by kernel_rfl) ?_
      refine ql_s undef (by kernel_rfl) ?_
      refine ql_s undef (by kernel_rfl) ?_
      refine ql_s undef (by kernel_rfl) ?_
      refine ql_s undef (by kernel_rfl) ?_
      refine ql_s undef (by kernel_rfl) ?_
      refine ql_s undef (by kernel_rfl) ?_
      refine ql_s (.bool true) (by kernel_rfl) ?_
      refine ql_nil (e_cutq ?_)
      exact ⟨rfl, rfl, rfl, (congrArg Value.bool (by first | rfl | (rw [hg1]; rfl) | simp [hg1])), trivial⟩
    · skip
      refine ql_s (.int .i64 y0) (by kernel_rfl) ?_
      refine ql_s (.pointer (some ⟨b2, 1, none⟩)) (by kernel_rfl) ?_
      refine ql_q rfl (qs_ldpt encV fitv3 rfl 0 rfl (.int .i64 r0.Y) (Nat.le_of_ble_eq_true rfl) rfl) ?_
      refine ql_s (.bool (decide (y0 < r0.Y))) (by kernel_rfl) ?_
      refine ql_s (.bool (decide (y0 < r0.Y))) (by kernel_rfl) ?_
      refine ql_s (.bool (decide (y0 < r0.Y))) (by kernel_rfl) ?_
      refine ql_case 18 (decide (y0 < r0.Y)) rfl (fun hg2 => ?_) (fun hg2 => ?_)
      · skip
        refine ql_s undef (by kernel_rfl) ?_
        refine ql_s undef (by kernel_rfl) ?_
        refine ql_s undef (by kernel_rfl) ?_
        refine ql_s undef (by kernel_rfl) ?_
        refine ql_s undef (by kernel_rfl) ?_
        refine ql_s undef (by kernel_rfl) ?_
        refine ql_s undef (by kernel_rfl) ?_
        refine ql_s (.bool true) (by kernel_rfl) ?_
        refine ql_s (.bool true) (by kernel_rfl) ?_
        refine ql_s undef (by kernel_rfl) ?_
        refine ql_s undef (by kernel_rfl) ?_
        refine ql_s undef (by kernel_rfl) ?_
        refine ql_s undef (by kernel_rfl) ?_
        refine ql_s undef (by kernel_rfl) ?_
        refine ql_s undef (by kernel_rfl) ?_
        refine ql_s undef (by kernel_rfl) ?_
        refine ql_s (.bool true) (by kernel_rfl) ?_
        refine ql_nil (e_cutq ?_)
        exact ⟨rfl, rfl, rfl, (congrArg Value.bool (by first | rfl | (rw [hg1, hg2]; rfl) | simp [hg1, hg2])), trivial⟩
      · skip
        refine ql_s (.int .i64 x0) (by kernel_rfl) ?_
        refine ql_s (.pointer (some ⟨b2, 0, none⟩)) (by kernel_rfl) ?_
        refine ql_q rfl (qs_ldpt encV fitv3 rfl 0 rfl (.int .i64 r0.X) (Nat.le_of_ble_eq_true rfl) rfl) ?_
        refine ql_s (.pointer (some ⟨b2, 2, none⟩)) (by kernel_rfl) ?_
        refine ql_q rfl (qs_ldpt encV fitv3 rfl 0 rfl (.int .i64 r0.W) (Nat.le_of_ble_eq_true rfl) rfl) ?_
        refine ql_s (.int .i64 (addI r0.X r0.W)) (by kernel_rfl) ?_
        refine ql_s (.bool (decide (x0 ≥ (addI r0.X r0.W)))) (by kernel_rfl) ?_
        refine ql_s (.bool (decide (x0 ≥ (addI r0.X r0.W)))) (by kernel_rfl) ?_
        refine ql_s (.bool (decide (x0 ≥ (addI r0.X r0.W)))) (by kernel_rfl) ?_
        refine ql_case 27 (decide (x0 ≥ (addI r0.X r0.W))) rfl (fun hg3 => ?_) (fun hg3 => ?_)
        · skip
          refine ql_s undef (by kernel_rfl) ?_
          refine ql_s undef (by kernel_rfl) ?_
          refine ql_s undef (by kernel_rfl) ?_
          refine ql_s undef (by kernel_rfl) ?_
          refine ql_s undef (by kernel_rfl) ?_
          refine ql_s undef (by kernel_rfl) ?_
          refine ql_s undef (by kernel_rfl) ?_
          refine ql_s (.bool true) (by kernel_rfl) ?_
          refine ql_nil (e_cutq ?_)
          exact ⟨rfl, rfl, rfl, (congrArg Value.bool (by first | rfl | (rw [hg1, hg2, hg3]; rfl) | simp [hg1, hg2, hg3])), trivial⟩
        · skip
          refine ql_s (.int .i64 y0) (by kernel_rfl) ?_
          refine ql_s (.pointer (some ⟨b2, 1, none⟩)) (by kernel_rfl) ?_
          refine ql_q rfl (qs_ldpt encV fitv3 rfl 0 rfl (.int .i64 r0.Y) (Nat.le_of_ble_eq_true rfl) rfl) ?_
          refine ql_s (.pointer (some ⟨b2, 3, none⟩)) (by kernel_rfl) ?_
          refine ql_q rfl (qs_ldpt encV fitv3 rfl 0 rfl (.int .i64 r0.H) (Nat.le_of_ble_eq_true rfl) rfl) ?_
          refine ql_s (.int .i64 (addI r0.Y r0.H)) (by kernel_rfl) ?_
          refine ql_s (.bool (decide (y0 ≥ (addI r0.Y r0.H)))) (by kernel_rfl) ?_
          refine ql_s (.bool (decide (y0 ≥ (addI r0.Y r0.H)))) (by kernel_rfl) ?_
          refine ql_nil (e_cutq ?_)
          exact ⟨rfl, rfl, rfl, (congrArg Value.bool (by first | rfl | (rw [hg1, hg2, hg3]; rfl) | simp [hg1, hg2, hg3])), trivial⟩
  intro _
  refine e_then ?_
  refine c_cond (((decide (x0 < r0.X)) || ((decide (y0 < r0.Y)) || ((decide (x0 ≥ (addI r0.X r0.W))) || (decide (y0 ≥ (addI r0.Y r0.H))))))) rfl (fun ht1 => ?_) (fun ht1 => ?_)
  · skip
    replace hp := if_t ht1 hp
    refine c_seq ?_
    refine c_quiet ?_
    refine ql_s (.int .i64 0) (by kernel_rfl) ?_
    refine ql_s (.bool false) (by kernel_rfl) ?_
    refine ql_nil ?_
    refine e_drop ?_
    refine e_then ?_
    refine c_ret ?_
    refine e_then_ret ?_
    obtain rfl := Option.some.inj hp
    exact post_all (vs := [.int .i64 0, .bool false]) (.tuple #[.int .i64 0, .bool false]) ⟨rfl, rfl, trivial⟩ rfl (.inl rfl) (fun w hS => ⟨rfl, hS⟩)
  · skip
    replace hp := if_f ht1 hp
    refine c_skip ?_
    refine e_then ?_
    refine c_seq ?_
    refine c_quiet ?_
    refine ql_s (.int .i64 y0) (by kernel_rfl) ?_
    refine ql_s (.pointer (some ⟨b2, 1, none⟩)) (by kernel_rfl) ?_
    refine ql_q rfl (qs_ldpt encV fitv3 rfl 0 rfl (.int .i64 r0.Y) (Nat.le_of_ble_eq_true rfl) rfl) ?_
    refine ql_s (.int .i64 (subI y0 r0.Y)) (by kernel_rfl) ?_
    refine ql_s (.pointer (some ⟨b2, 2, none⟩)) (by kernel_rfl) ?_
    refine ql_q rfl (qs_ldpt encV fitv3 rfl 0 rfl (.int .i64 r0.W) (Nat.le_of_ble_eq_true rfl) rfl) ?_
    refine ql_s (.int .i64 (mulI (subI y0 r0.Y) r0.W)) (by kernel_rfl) ?_
    refine ql_s (.int .i64 x0) (by kernel_rfl) ?_
    refine ql_s (.int .i64 (addI (mulI (subI y0 r0.Y) r0.W) x0)) (by kernel_rfl) ?_
    refine ql_s (.pointer (some ⟨b2, 0, none⟩)) (by kernel_rfl) ?_
    refine ql_q rfl (qs_ldpt encV fitv3 rfl 0 rfl (.int .i64 r0.X) (Nat.le_of_ble_eq_true rfl) rfl) ?_
    refine ql_s (.int .i64 (subI (addI (mulI (subI y0 r0.Y) r0.W) x0) r0.X)) (by kernel_rfl) ?_
    refine ql_s (.int .i64 (subI (addI (mulI (subI y0 r0.Y) r0.W) x0) r0.X)) (by kernel_rfl) ?_
    refine ql_s (.bool true) (by kernel_rfl) ?_
    refine ql_nil ?_
    refine e_drop ?_
    refine e_then ?_
    refine c_ret ?_
    obtain rfl := Option.some.inj hp
    exact post_all (vs := [.int .i64 (subI (addI (mulI (subI y0 r0.Y) r0.W) x0) r0.X), .bool true]) (.tuple #[.int .i64 (subI (addI (mulI (subI y0 r0.Y) r0.W) x0) r0.X), .bool true]) ⟨rfl, rfl, trivial⟩ rfl (.inl rfl) (fun w hS => ⟨rfl, hS⟩)

-- tarnfell/road.inside
set_option maxRecDepth 100000 in
set_option maxHeartbeats 4000000 in
theorem road_inside_s (f0 : S_api_Field) (f0_v1a : Option Addr) (f0_v1c : Nat) (l0 : List S_api_Point) (l0_v1a : Option Addr) (l0_v1c : Nat) (D : PH) (f0_h1 : RO (encF .f32) D (.slice f0_v1a f0.V.length f0_v1c) f0.V) (l0_h1 : RO encS_api_Point D (.slice l0_v1a l0.length l0_v1c) l0) (F : List Assert) (r : Int) (hp : road_inside_p f0 l0 = some r) : ∀ w : World, SInv D (F) w → Calls Try.prog 71 #[.agg #[.int .i64 f0.Region.X, .int .i64 f0.Region.Y, .int .i64 f0.Region.W, .int .i64 f0.Region.H, .slice f0_v1a f0.V.length f0_v1c], .slice l0_v1a l0.length l0_v1c] w (fun e w' => e = .returned (.int .i64 r) ∧ SInv D (F) w') := by
  intro w hS
  refine call_intro Try.func71 rfl Try.ntmps71 (Nat.le_of_ble_eq_true rfl) hS ?_
  clear hS w
  unfold road_inside_p at hp
  refine c_seq ?_
  refine c_region ?_
  refine l_box (cs := [.int .i64 f0.Region.X, .int .i64 f0.Region.Y, .int .i64 f0.Region.W, .int .i64 f0.Region.H, .slice f0_v1a f0.V.length f0_v1c]) rfl rfl (fun b2 => ?_)
  refine l_s (.int .i64 0) (by kernel_rfl) ?_
  refine l_nil ?_
  refine e_then ?_
  refine c_seq ?_
  refine c_seq ?_
  refine c_quiet ?_
  refine ql_s (.slice l0_v1a l0.length l0_v1c) (by kernel_rfl) ?_
  refine ql_s (.int .i64 (l0.length : Int)) (by kernel_rfl) ?_
  refine ql_s (.int .i64 0) (by kernel_rfl) ?_
  refine ql_nil ?_
  refine e_then ?_
  have hb0 : (l0.length : Int) ≤ 4611686018427387904 := by have := RO.bound l0_h1; omega
  have hm0 : l0.length = (l0.length : Int).toNat := by omega
  have hm1 := hm0; have hb1 := hb0; clear hm0 hb0
  obtain ⟨x1, hs1, hp⟩ := bnd_some hp
  obtain ⟨body1, hbody1, hs1⟩ := forI_gen hs1
  refine c_cut_end (fun φ1 D1 As1 => ∃ (s1 : Unit), x1 = .go s1 ∧ Is φ1 [] ∧ PH.le D D1 ∧ As1 = pt b2 [.int .i64 f0.Region.X, .int .i64 f0.Region.Y, .int .i64 f0.Region.W, .int .i64 f0.Region.H, .slice f0_v1a f0.V.length f0_v1c] 26 :: F) ?_ ?_
  · skip
    refine c_block ?_
    refine c_loop (fun k φ1 D2 As1 => ∃ (j1 i1 : Nat) (s2 : Unit), k = j1 + 1 ∧ i1 + j1 = l0.length ∧ Is φ1 [(2, .pointer (some ⟨b2, 0, none⟩)), (9, .slice l0_v1a l0.length l0_v1c), (10, .int .i64 (l0.length : Int)), (11, .int .i64 (i1 : Int))] ∧ PH.le D D2 ∧ As1 = pt b2 [.int .i64 f0.Region.X, .int .i64 f0.Region.Y, .int .i64 f0.Region.W, .int .i64 f0.Region.H, .slice f0_v1a f0.V.length f0_v1c] 26 :: F ∧ forI body1 j1 i1 s2 = some x1) ⟨l0.length + 1, l0.length, 0, (), rfl, Nat.zero_add _, ⟨rfl, rfl, rfl, rfl, trivial⟩, (PH.le_refl _), rfl, hs1⟩ ?_ ?_
    · rintro _ _ _ ⟨_, _, _, h0, _⟩; omega
    intro k1
    rintro φ1 D2 As1 ⟨j1, i1, s2, hk1, hij1, hI1, hD1, hA1, hs2⟩
    subst As1
    replace l0_h1 := l0_h1.mono hD1
    replace f0_h1 := f0_h1.mono hD1
    refine c_frame _ hI1 ?_
    obtain rfl : k1 = j1 := by omega
    clear hk1
    rcases k1 with _ | j1
    · skip
      refine c_seq ?_
      refine c_quiet ?_
      refine ql_s (.bool (decide ((i1 : Int) < (l0.length : Int)))) (by kernel_rfl) ?_
      refine ql_nil ?_
      refine e_then ?_
      refine c_seq ?_
      refine c_cond (decide ((i1 : Int) < (l0.length : Int))) rfl (fun ht1 => absurd ((dec_lt_f hm1 (by omega)).symm.trans ht1) (by simp)) (fun _ => ?_)
      refine c_exit ?_
      refine e_then_exit ?_
      refine e_then_exit ?_
      obtain rfl := Option.some.inj hs2
      refine e_blk_exit ?_
      exact e_cut ⟨(), rfl, trivial, hD1, rfl⟩
    · skip
      obtain ⟨y1, hx1, hs2⟩ := forI_some hs2
      replace hx1 := (congrFun (congrFun hbody1 i1) s2).trans hx1
      refine c_seq ?_
      refine c_quiet ?_
      refine ql_s (.bool (decide ((i1 : Int) < (l0.length : Int)))) (by kernel_rfl) ?_
      refine ql_nil ?_
      refine e_then ?_
      refine c_seq ?_
      refine c_cond (decide ((i1 : Int) < (l0.length : Int))) rfl (fun _ => ?_) (fun ht2 => absurd ((dec_lt_t hm1 (by omega)).symm.trans ht2) (by simp))
      refine c_skip ?_
      refine e_then ?_
      refine c_seq ?_
      refine c_block ?_
      refine c_seq ?_
      obtain ⟨x2, hx2, hx1⟩ := bnd_some hx1
      obtain ⟨b3, o1, h1, hq1⟩ := RO.at l0_h1 hx2
      obtain ⟨cs1, hc1, ha1⟩ := h1.cells
      obtain rfl := hc1
      refine c_region ?_
      refine l_q rfl (qs_idx hq1 Try.underlying27 fit71 rfl rfl) ?_
      refine l_q rfl (qs_ldC fit71 rfl ha1 rfl (.agg #[.int .i64 x2.X, .int .i64 x2.Y]) rfl) ?_
      refine l_alloc (zs := [.int .i64 0, .int .i64 0]) rfl (by kernel_rfl) (fun b5 => ?_)
      refine l_store (dd := none) (vs := [.int .i64 x2.X, .int .i64 x2.Y]) (cs' := [.int .i64 x2.X, .int .i64 x2.Y]) rfl (by kernel_rfl) (by kernel_rfl) rfl rfl (Nat.le_of_ble_eq_true rfl) rfl rfl ?_
      refine l_nil ?_
      refine e_then ?_
      refine c_seq ?_
      obtain ⟨r1, hr1, hx1⟩ := bnd_some hx1
      refine c_quiet ?_
      refine ql_s (.pointer (some ⟨b2, 0, none⟩)) (by kernel_rfl) ?_
      refine ql_q rfl (qs_ldpt (encW 4 (by decide)) fitv23 rfl 1 rfl (.agg #[.int .i64 f0.Region.X, .int .i64 f0.Region.Y, .int .i64 f0.Region.W, .int .i64 f0.Region.H]) (Nat.le_of_ble_eq_true rfl) rfl) ?_
      refine ql_s (.pointer (some ⟨b5, 0, none⟩)) (by kernel_rfl) ?_
      refine ql_q rfl (qs_ldpt encV fitv3 rfl 0 rfl (.int .i64 x2.X) (Nat.le_of_ble_eq_true rfl) rfl) ?_
      refine ql_s (.pointer (some ⟨b5, 1, none⟩)) (by kernel_rfl) ?_
      refine ql_q rfl (qs_ldpt encV fitv3 rfl 0 rfl (.int .i64 x2.Y) (Nat.le_of_ble_eq_true rfl) rfl) ?_
      refine ql_call (v := .tuple #[.int .i64 r1.1, .bool r1.2]) rfl (run_call (vs := [.agg #[.int .i64 f0.Region.X, .int .i64 f0.Region.Y, .int .i64 f0.Region.W, .int .i64 f0.Region.H], .int .i64 x2.X, .int .i64 x2.Y]) rfl Try.call73 rfl) (fun w hS => (field_Place_s f0.Region x2.X x2.Y _  _ _ hr1 w (hS)).mono fun e w' h => ⟨h.1, h.2⟩) ?_
      refine ql_s (.tuple #[.int .i64 r1.1, .bool r1.2]) (by kernel_rfl) ?_
      refine ql_s (.int .i64 r1.1) (by kernel_rfl) ?_
      refine ql_s (.bool r1.2) (by kernel_rfl) ?_
      refine ql_s (.int .i64 r1.1) (by kernel_rfl) ?_
      refine ql_s (.bool r1.2) (by kernel_rfl) ?_
      refine ql_nil ?_
      refine e_drop ?_
      refine e_then ?_
      refine c_seq ?_
      refine c_quiet ?_
      refine ql_s (.bool r1.2) (by kernel_rfl) ?_
      refine ql_s (.bool (!r1.2)) (by kernel_rfl) ?_
      refine ql_nil ?_
      refine e_then ?_
      refine c_cond (!r1.2) rfl (fun ht3 => ?_) (fun ht3 => ?_)
      · skip
        replace hx1 := if_t ht3 hx1
        refine c_seq ?_
        refine c_quiet ?_
        refine ql_s (.int .i64 5) (by kernel_rfl) ?_
        refine ql_nil ?_
        refine e_drop ?_
        refine e_then ?_
        refine c_ret ?_
        refine e_blk_ret ?_
        refine e_then_ret ?_
        refine e_then_ret ?_
        obtain rfl := Option.some.inj hx1
        obtain rfl := hs2
        refine e_blk_ret ?_
        refine e_then_ret ?_
        dsimp only at hp
        refine e_then_ret ?_
        obtain rfl := Option.some.inj hp
        exact post_all (vs := [.int .i64 5]) (.int .i64 5) ⟨rfl, trivial⟩ rfl (.inl rfl) (fun w hS => ⟨rfl, (hS.lower hD1)⟩)
      · skip
        replace hx1 := if_f ht3 hx1
        refine c_skip ?_
        refine e_blk ?_
        refine e_then ?_
        refine c_quiet ?_
        refine ql_s (.int .i64 (addI (i1 : Int) 1)) (by kernel_rfl) ?_
        refine ql_s (.int .i64 (addI (i1 : Int) 1)) (by kernel_rfl) ?_
        refine ql_nil ?_
        obtain rfl := Option.some.inj hx1
        exact e_cut ⟨j1, i1 + 1, (), by omega, by omega, ⟨rfl, rfl, rfl, (congrArg (Value.int .i64) (addI_succ (by omega))), trivial⟩, hD1, rfl, hs2⟩
  · skip
    rintro φ2 D1 As2 ⟨s1, rfl, hI2, hD2, hA2⟩
    subst As2
    replace f0_h1 := f0_h1.mono hD2
    dsimp only at hp
    refine e_frame _ hI2 ?_
    refine e_then ?_
    refine c_seq ?_
    refine c_quiet ?_
    refine ql_s (.int .i64 0) (by kernel_rfl) ?_
    refine ql_nil ?_
    refine e_drop ?_
    refine e_then ?_
    refine c_ret ?_
    obtain rfl := Option.some.inj hp
    exact post_all (vs := [.int .i64 0]) (.int .i64 0) ⟨rfl, trivial⟩ rfl (.inl rfl) (fun w hS => ⟨rfl, (hS.lower hD2)⟩)

-- tarnfell/road.onField$1
set_option maxRecDepth 100000 in
set_option maxHeartbeats 4000000 in
theorem road_onField_1_s (p0 : S_api_Point) (b_p00 : Nat) (p00 : S_api_Field) (p00_v1a : Option Addr) (p00_v1c : Nat) (D : PH) (p00_h1 : RO (encF .f32) D (.slice p00_v1a p00.V.length p00_v1c) p00.V) (F : List Assert) (r : Int) (hp : road_onField_1_p p0 p00 = some r) : ∀ w : World, SInv D (pt b_p00 [.int .i64 p00.Region.X, .int .i64 p00.Region.Y, .int .i64 p00.Region.W, .int .i64 p00.Region.H, .slice p00_v1a p00.V.length p00_v1c] 26 :: F) w → Calls Try.prog 77 #[.agg #[.int .i64 p0.X, .int .i64 p0.Y], .pointer (some ⟨b_p00, 0, none⟩)] w (fun e w' => e = .returned (.int .i64 r) ∧ SInv D (pt b_p00 [.int .i64 p00.Region.X, .int .i64 p00.Region.Y, .int .i64 p00.Region.W, .int .i64 p00.Region.H, .slice p00_v1a p00.V.length p00_v1c] 26 :: F) w') := by
  intro w hS
  refine call_intro Try.func77 rfl Try.ntmps77 (Nat.le_of_ble_eq_true rfl) hS ?_
  clear hS w
  unfold road_onField_1_p at hp
  refine c_seq ?_
  refine c_region ?_
  refine l_box (cs := [.int .i64 p0.X, .int .i64 p0.Y]) rfl rfl (fun b2 => ?_)
  refine l_s (.int .i64 0) (by kernel_rfl) ?_
  refine l_nil ?_
  refine e_then ?_
  refine c_seq ?_
  obtain ⟨r1, hr1, hp⟩ := bnd_some hp
  refine c_region ?_
  refine l_q rfl (qs_ldpt (encW 5 (by decide)) fitv26 rfl 1 rfl (.agg #[.int .i64 p00.Region.X, .int .i64 p00.Region.Y, .int .i64 p00.Region.W, .int .i64 p00.Region.H, .slice p00_v1a p00.V.length p00_v1c]) (Nat.le_of_ble_eq_true rfl) rfl) ?_
  refine l_q rfl (qs_ldpt (encW 2 (by decide)) fitv71 rfl 0 rfl (.agg #[.int .i64 p0.X, .int .i64 p0.Y]) (Nat.le_of_ble_eq_true rfl) rfl) ?_
  refine l_bslS (cs := [.int .i64 p0.X, .int .i64 p0.Y]) (E := 71) (e := encS_api_Point) ([p0] : List S_api_Point) rfl (by kernel_rfl) rfl rfl (Nat.le_of_ble_eq_true rfl) ⟨rfl, trivial⟩ (fun b4 cp2 => ?_)
  refine l_callq (v := .int .i64 r1) rfl rfl Try.call71 (vs := [.agg #[.int .i64 p00.Region.X, .int .i64 p00.Region.Y, .int .i64 p00.Region.W, .int .i64 p00.Region.H, .slice p00_v1a p00.V.length p00_v1c], .slice (some ⟨b4, 0, none⟩) ([p0] : List S_api_Point).length cp2]) rfl (fun w hS => (calls_thaw (PH.le_refl _) (hS) (fun D0' hLl0 hLr0 hS => (road_inside_s p00 p00_v1a p00_v1c ([p0] : List S_api_Point) (some ⟨b4, 0, none⟩) cp2 _ (p00_h1.mono hLl0) hLr0 _ _ hr1 w (hS)).mono fun e w' h => ⟨h.1, h.2⟩)).mono fun e w' h => ⟨h.1, h.2⟩) ?_
  refine l_s (.int .i64 r1) (by kernel_rfl) ?_
  refine l_nil ?_
  refine e_drop ?_
  refine e_drop ?_
  refine e_then ?_
  refine c_ret ?_
  obtain rfl := Option.some.inj hp
  exact post_all (vs := [.int .i64 r1]) (.int .i64 r1) ⟨rfl, trivial⟩ rfl (.inl rfl) (fun w hS => ⟨rfl, hS⟩)

-- tarnfell/water.Toward
set_option maxRecDepth 100000 in
set_option maxHeartbeats 4000000 in
theorem water_Toward_s (d0 : Int) (D : PH)  (F : List Assert) (r : S_api_Point) (hp : water_Toward_p d0 = some r) : ∀ w : World, SInv D (F) w → Calls Try.prog 122 #[.int .i64 d0] w (fun e w' => e = .returned (.agg #[.int .i64 r.X, .int .i64 r.Y]) ∧ SInv D (F) w') := by
  intro w hS
  refine call_intro Try.func122 rfl Try.ntmps122 (Nat.le_of_ble_eq_true rfl) hS ?_
  clear hS w
  unfold water_Toward_p at hp
  refine c_seq ?_
  refine c_region ?_
  refine l_alloc (zs := [.int .i64 0, .int .i64 0]) rfl (by kernel_rfl) (fun b2 => ?_)
  refine l_nil ?_
  refine e_then ?_
  refine c_seq ?_
  refine c_region ?_
  refine l_s (.agg #[.int .i64 1, .int .i64 0]) (by kernel_rfl) ?_
  refine l_s (.agg #[.int .i64 1, .int .i64 1]) (by kernel_rfl) ?_
  refine l_s (.agg #[.int .i64 0, .int .i64 1]) (by kernel_rfl) ?_
  refine l_s (.agg #[.int .i64 (-1), .int .i64 1]) (by kernel_rfl) ?_
  refine l_s (.agg #[.int .i64 (-1), .int .i64 0]) (by kernel_rfl) ?_
  refine l_s (.agg #[.int .i64 (-1), .int .i64 (-1)]) (by kernel_rfl) ?_
  refine l_s (.agg #[.int .i64 0, .int .i64 (-1)]) (by kernel_rfl) ?_
  refine l_s (.agg #[.int .i64 1, .int .i64 (-1)]) (by kernel_rfl) ?_
  refine l_q rfl (qs_bldArr (zs := [.int .i64 0, .int .i64 0, .int .i64 0, .int .i64 0, .int .i64 0, .int .i64 0, .int .i64 0, .int .i64 0, .int .i64 0, .int .i64 0, .int .i64 0, .int .i64 0, .int .i64 0, .int .i64 0, .int .i64 0, .int .i64 0]) (cs := [.int .i64 1, .int .i64 0, .int .i64 1, .int .i64 1, .int .i64 0, .int .i64 1, .int .i64 (-1), .int .i64 1, .int .i64 (-1), .int .i64 0, .int .i64 (-1), .int .i64 (-1), .int .i64 0, .int .i64 (-1), .int .i64 1, .int .i64 (-1)]) Try.underlying185 (by kernel_rfl) (by kernel_rfl) (by kernel_rfl)) ?_
  refine l_alloc (zs := [.int .i64 0, .int .i64 0, .int .i64 0, .int .i64 0, .int .i64 0, .int .i64 0, .int .i64 0, .int .i64 0, .int .i64 0, .int .i64 0, .int .i64 0, .int .i64 0, .int .i64 0, .int .i64 0, .int .i64 0, .int .i64 0]) rfl (by kernel_rfl) (fun b4 => ?_)
  refine l_store (dd := none) (vs := [.int .i64 1, .int .i64 0, .int .i64 1, .int .i64 1, .int .i64 0, .int .i64 1, .int .i64 (-1), .int .i64 1, .int .i64 (-1), .int .i64 0, .int .i64 (-1), .int .i64 (-1), .int .i64 0, .int .i64 (-1), .int .i64 1, .int .i64 (-1)]) (cs' := [.int .i64 1, .int .i64 0, .int .i64 1, .int .i64 1, .int .i64 0, .int .i64 1, .int .i64 (-1), .int .i64 1, .int .i64 (-1), .int .i64 0, .int .i64 (-1), .int .i64 (-1), .int .i64 0, .int .i64 (-1), .int .i64 1, .int .i64 (-1)]) rfl (by kernel_rfl) (by kernel_rfl) rfl rfl (Nat.le_of_ble_eq_true rfl) rfl rfl ?_
  refine l_nil ?_
  refine e_then ?_
  refine c_seq ?_
  obtain ⟨x1, hx1, hp⟩ := bnd_some hp
  refine c_region ?_
  refine l_s (.int .i64 d0) (by kernel_rfl) ?_
  refine l_q rfl (qs_idxAP Try.underlying185 (by kernel_rfl) (sz := 2) (by kernel_rfl) rfl rfl (idx_some hx1).1 (idx_lt hx1 rfl)) ?_
  refine l_q rfl (qs_ldAP (D0 := D) (cs := [.int .i64 1, .int .i64 0, .int .i64 1, .int .i64 1, .int .i64 0, .int .i64 1, .int .i64 (-1), .int .i64 1, .int .i64 (-1), .int .i64 0, .int .i64 (-1), .int .i64 (-1), .int .i64 0, .int .i64 (-1), .int .i64 1, .int .i64 (-1)]) fit71 (off := 0) (xs := ([(⟨1, 0⟩ : S_api_Point), (⟨1, 1⟩ : S_api_Point), (⟨0, 1⟩ : S_api_Point), (⟨(-1), 1⟩ : S_api_Point), (⟨(-1), 0⟩ : S_api_Point), (⟨(-1), (-1)⟩ : S_api_Point), (⟨0, (-1)⟩ : S_api_Point), (⟨1, (-1)⟩ : S_api_Point)] : List S_api_Point)) rfl rfl 0 rfl ⟨rfl, rfl, rfl, rfl, rfl, rfl, rfl, rfl, trivial⟩ hx1 (v := .agg #[.int .i64 x1.X, .int .i64 x1.Y]) (fun cs hcs => by rw [show cs = _ from hcs]; rfl)) ?_
  refine l_perm (fr1_perm 1 _) ?_
  refine l_store (dd := none) (vs := [.int .i64 x1.X, .int .i64 x1.Y]) (cs' := [.int .i64 x1.X, .int .i64 x1.Y]) rfl (by kernel_rfl) (by kernel_rfl) rfl rfl (Nat.le_of_ble_eq_true rfl) rfl rfl ?_
  refine l_nil ?_
  refine e_perm (fr1_perm 1 _) ?_
  refine e_drop ?_
  refine e_then ?_
  refine c_ret ?_
  obtain rfl := Option.some.inj hp
  exact post_all (vs := [.agg #[.int .i64 x1.X, .int .i64 x1.Y]]) (.agg #[.int .i64 x1.X, .int .i64 x1.Y]) ⟨⟨_, 0, _, _, 2, by decide, rfl, rfl, .inr ⟨fitv71, rfl, rfl⟩⟩, trivial⟩ rfl (.inl rfl) (fun w hS => ⟨rfl, hS.tail⟩)

-- tarnfell/water.Direction
set_option maxRecDepth 100000 in
set_option maxHeartbeats 4000000 in
theorem water_Direction_s (a0 : S_api_Point) (b0 : S_api_Point) (D : PH)  (F : List Assert) (r : Int) (hp : water_Direction_p a0 b0 = some r) : ∀ w : World, SInv D (F) w → Calls Try.prog 107 #[.agg #[.int .i64 a0.X, .int .i64 a0.Y], .agg #[.int .i64 b0.X, .int .i64 b0.Y]] w (fun e w' => e = .returned (.int .i64 r) ∧ SInv D (F) w') := by
  intro w hS
  refine call_intro Try.func107 rfl Try.ntmps107 (Nat.le_of_ble_eq_true rfl) hS ?_
  clear hS w
  unfold water_Direction_p at hp
  refine c_seq ?_
  refine c_region ?_
  refine l_box (cs := [.int .i64 a0.X, .int .i64 a0.Y]) rfl rfl (fun b3 => ?_)
  refine l_box (cs := [.int .i64 b0.X, .int .i64 b0.Y]) rfl rfl (fun b4 => ?_)
  refine l_s (.int .i64 0) (by kernel_rfl) ?_
  refine l_nil ?_
  refine e_then ?_
  refine c_seq ?_
  refine c_seq ?_
  refine c_quiet ?_
  refine ql_s (.int .i64 0) (by kernel_rfl) ?_
  refine ql_nil ?_
  refine e_then ?_
  have hm0 : (8 : Nat) = ((8 : Int)).toNat := rfl
  have hb0 : ((8 : Int)) ≤ 4611686018427387904 := by decide
  have hm1 := hm0; have hb1 := hb0; clear hm0 hb0
  obtain ⟨x1, hs1, hp⟩ := bnd_some hp
  obtain ⟨body1, hbody1, hs1⟩ := forI_gen hs1
  refine c_cut_end (fun φ1 D1 As1 => ∃ (s1 : Unit), x1 = .go s1 ∧ Is φ1 [] ∧ PH.le D D1 ∧ As1 = pt b4 [.int .i64 b0.X, .int .i64 b0.Y] 71 :: pt b3 [.int .i64 a0.X, .int .i64 a0.Y] 71 :: F) ?_ ?_
  · skip
    refine c_block ?_
    refine c_perm (fr1_perm 1 _) ?_
    refine c_perm (fr1_perm 1 _) ?_
    refine c_loop (fun k φ1 D2 As1 => ∃ (j1 i1 : Nat) (s2 : Unit), k = j1 + 1 ∧ i1 + j1 = 8 ∧ Is φ1 [(2, .pointer (some ⟨b3, 0, none⟩)), (3, .pointer (some ⟨b4, 0, none⟩)), (7, .int .i64 (i1 : Int))] ∧ PH.le D D2 ∧ As1 = pt b4 [.int .i64 b0.X, .int .i64 b0.Y] 71 :: pt b3 [.int .i64 a0.X, .int .i64 a0.Y] 71 :: F ∧ forI body1 j1 i1 s2 = some x1) ⟨8 + 1, 8, 0, (), rfl, Nat.zero_add _, ⟨rfl, rfl, rfl, trivial⟩, (PH.le_refl _), rfl, hs1⟩ ?_ ?_
    · rintro _ _ _ ⟨_, _, _, h0, _⟩; omega
    intro k1
    rintro φ1 D2 As1 ⟨j1, i1, s2, hk1, hij1, hI1, hD1, hA1, hs2⟩
    subst As1
    refine c_frame _ hI1 ?_
    obtain rfl : k1 = j1 := by omega
    clear hk1
    rcases k1 with _ | j1
    · skip
      refine c_seq ?_
      refine c_quiet ?_
      refine ql_s (.bool (decide ((i1 : Int) < 8))) (by kernel_rfl) ?_
      refine ql_nil ?_
      refine e_then ?_
      refine c_seq ?_
      refine c_cond (decide ((i1 : Int) < 8)) rfl (fun ht1 => absurd ((dec_lt_f hm1 (by omega)).symm.trans ht1) (by simp)) (fun _ => ?_)
      refine c_exit ?_
      refine e_then_exit ?_
      refine e_then_exit ?_
      obtain rfl := Option.some.inj hs2
      refine e_blk_exit ?_
      refine e_perm (fr1_perm 1 _) ?_
      refine e_perm (fr1_perm 1 _) ?_
      exact e_cut ⟨(), rfl, trivial, hD1, rfl⟩
    · skip
      obtain ⟨y1, hx1, hs2⟩ := forI_some hs2
      replace hx1 := (congrFun (congrFun hbody1 i1) s2).trans hx1
      refine c_seq ?_
      refine c_quiet ?_
      refine ql_s (.bool (decide ((i1 : Int) < 8))) (by kernel_rfl) ?_
      refine ql_nil ?_
      refine e_then ?_
      refine c_seq ?_
      refine c_cond (decide ((i1 : Int) < 8)) rfl (fun _ => ?_) (fun ht2 => absurd ((dec_lt_t hm1 (by omega)).symm.trans ht2) (by simp))
      refine c_skip ?_
      refine e_then ?_
      refine c_seq ?_
      refine c_block ?_
      refine c_seq ?_
      refine c_quiet ?_
      refine ql_s (.int .i64 (i1 : Int)) (by kernel_rfl) ?_
      refine ql_s (.int .i64 (i1 : Int)) (by kernel_rfl) ?_
      refine ql_nil ?_
      refine e_then ?_
      refine c_seq ?_
      obtain ⟨r1, hr1, hx1⟩ := bnd_some hx1
      refine c_region ?_
      refine l_s (.int .i64 (i1 : Int)) (by kernel_rfl) ?_
      refine l_callq (v := .agg #[.int .i64 r1.X, .int .i64 r1.Y]) rfl rfl Try.call122 (vs := [.int .i64 (i1 : Int)]) rfl (fun w hS => (water_Toward_s (i1 : Int) _  _ _ hr1 w (hS)).mono fun e w' h => ⟨h.1, h.2⟩) ?_
      refine l_alloc (zs := [.int .i64 0, .int .i64 0]) rfl (by kernel_rfl) (fun b6 => ?_)
      refine l_store (dd := none) (vs := [.int .i64 r1.X, .int .i64 r1.Y]) (cs' := [.int .i64 r1.X, .int .i64 r1.Y]) rfl (by kernel_rfl) (by kernel_rfl) rfl rfl (Nat.le_of_ble_eq_true rfl) rfl rfl ?_
      refine l_nil ?_
      refine e_then ?_
      refine c_seq ?_
      refine c_cutq_end [(2, .pointer (some ⟨b3, 0, none⟩)), (3, .pointer (some ⟨b4, 0, none⟩)), (5, .int .i64 (i1 : Int)), (7, .int .i64 (i1 : Int)), (29, .bool (((addI a0.X r1.X) == b0.X) && ((addI a0.Y r1.Y) == b0.Y)))] ?_ ?_
      · skip
        refine c_quiet ?_
        refine ql_s (.pointer (some ⟨b3, 0, none⟩)) (by kernel_rfl) ?_
        refine ql_q rfl (qs_ldpt encV fitv3 rfl 2 rfl (.int .i64 a0.X) (Nat.le_of_ble_eq_true rfl) rfl) ?_
        refine ql_s (.pointer (some ⟨b6, 0, none⟩)) (by kernel_rfl) ?_
        refine ql_q rfl (qs_ldpt encV fitv3 rfl 0 rfl (.int .i64 r1.X) (Nat.le_of_ble_eq_true rfl) rfl) ?_
        refine ql_s (.int .i64 (addI a0.X r1.X)) (by kernel_rfl) ?_
        refine ql_s (.pointer (some ⟨b4, 0, none⟩)) (by kernel_rfl) ?_
        refine ql_q rfl (qs_ldpt encV fitv3 rfl 1 rfl (.int .i64 b0.X) (Nat.le_of_ble_eq_true rfl) rfl) ?_
        refine ql_s (.bool ((addI a0.X r1.X) == b0.X)) (by kernel_rfl) ?_
        refine ql_s (.bool ((addI a0.X r1.X) == b0.X)) (by kernel_rfl) ?_
        refine ql_case 20 (((addI a0.X r1.X) == b0.X)) rfl (fun hg1 => ?_) (fun hg1 => ?_)
        · skip
          refine ql_s (.pointer (some ⟨b3, 1, none⟩)) (by kernel_rfl) ?_
          refine ql_q rfl (qs_ldpt encV fitv3 rfl 2 rfl (.int .i64 a0.Y) (Nat.le_of_ble_eq_true rfl) rfl) ?_
          refine ql_s (.pointer (some ⟨b6, 1, none⟩)) (by kernel_rfl) ?_
          refine ql_q rfl (qs_ldpt encV fitv3 rfl 0 rfl (.int .i64 r1.Y) (Nat.le_of_ble_eq_true rfl) rfl) ?_
          refine ql_s (.int .i64 (addI a0.Y r1.Y)) (by kernel_rfl) ?_
          refine ql_s (.pointer (some ⟨b4, 1, none⟩)) (by kernel_rfl) ?_
          refine ql_q rfl (qs_ldpt encV fitv3 rfl 1 rfl (.int .i64 b0.Y) (Nat.le_of_ble_eq_true rfl) rfl) ?_
          refine ql_s (.bool ((addI a0.Y r1.Y) == b0.Y)) (by kernel_rfl) ?_
          refine ql_s (.bool ((addI a0.Y r1.Y) == b0.Y)) (by kernel_rfl) ?_
          refine ql_nil (e_cutq ?_)
          exact ⟨rfl, rfl, rfl, rfl, (congrArg Value.bool (by first | rfl | (rw [hg1]; rfl) | simp [hg1])), trivial⟩
        · skip
          refine ql_s undef (by kernel_rfl) ?_
          refine ql_s undef (by kernel_rfl) ?_
          refine ql_s undef (by kernel_rfl) ?_
          refine ql_s undef (by kernel_rfl) ?_
          refine ql_s undef (by kernel_rfl) ?_
          refine ql_s undef (by kernel_rfl) ?_
          refine ql_s undef (by kernel_rfl) ?_
          refine ql_s undef (by kernel_rfl) ?_
          refine ql_s (.bool false) (by kernel_rfl) ?_
          refine ql_nil (e_cutq ?_)
          exact ⟨rfl, rfl, rfl, rfl, (congrArg Value.bool (by first | rfl | (rw [hg1]; rfl) | simp [hg1])), trivial⟩
      intro _
      refine e_then ?_
      refine c_cond ((((addI a0.X r1.X) == b0.X) && ((addI a0.Y r1.Y) == b0.Y))) rfl (fun ht3 => ?_) (fun ht3 => ?_)
      · skip
        replace hx1 := if_t ht3 hx1
        refine c_seq ?_
        refine c_quiet ?_
        refine ql_s (.int .i64 (i1 : Int)) (by kernel_rfl) ?_
        refine ql_s (.int .i64 (i1 : Int)) (by kernel_rfl) ?_
        refine ql_nil ?_
        refine e_drop ?_
        refine e_drop ?_
        refine e_drop ?_
        refine e_then ?_
        refine c_ret ?_
        refine e_blk_ret ?_
        refine e_then_ret ?_
        refine e_then_ret ?_
        obtain rfl := Option.some.inj hx1
        obtain rfl := hs2
        refine e_blk_ret ?_
        refine e_then_ret ?_
        dsimp only at hp
        refine e_then_ret ?_
        obtain rfl := Option.some.inj hp
        exact post_all (vs := [.int .i64 (i1 : Int)]) (.int .i64 (i1 : Int)) ⟨rfl, trivial⟩ rfl (.inl rfl) (fun w hS => ⟨rfl, (hS.lower hD1)⟩)
      · skip
        replace hx1 := if_f ht3 hx1
        refine c_skip ?_
        refine e_blk ?_
        refine e_then ?_
        refine c_quiet ?_
        refine ql_s (.int .i64 (addI (i1 : Int) 1)) (by kernel_rfl) ?_
        refine ql_s (.int .i64 (addI (i1 : Int) 1)) (by kernel_rfl) ?_
        refine ql_nil ?_
        refine e_drop ?_
        refine e_perm (fr1_perm 1 _) ?_
        refine e_perm (fr1_perm 1 _) ?_
        obtain rfl := Option.some.inj hx1
        exact e_cut ⟨j1, i1 + 1, (), by omega, by omega, ⟨rfl, rfl, (congrArg (Value.int .i64) (addI_succ (by omega))), trivial⟩, hD1, rfl, hs2⟩
  · skip
    rintro φ2 D1 As2 ⟨s1, rfl, hI2, hD2, hA2⟩
    subst As2
    dsimp only at hp
    refine e_frame _ hI2 ?_
    refine e_then ?_
    refine c_seq ?_
    refine c_quiet ?_
    refine ql_s (.int .i64 (-1)) (by kernel_rfl) ?_
    refine ql_nil ?_
    refine e_drop ?_
    refine e_drop ?_
    refine e_then ?_
    refine c_ret ?_
    obtain rfl := Option.some.inj hp
    exact post_all (vs := [.int .i64 (-1)]) (.int .i64 (-1)) ⟨rfl, trivial⟩ rfl (.inl rfl) (fun w hS => ⟨rfl, (hS.lower hD2)⟩)

-- tarnfell/road.Between
set_option maxRecDepth 100000 in
set_option maxHeartbeats 4000000 in
theorem road_Between_s (a0 : S_api_Point) (b0 : S_api_Point) (D : PH)  (F : List Assert) (r : Int × Int) (hp : road_Between_p a0 b0 = some r) : ∀ w : World, SInv D (F) w → Calls Try.prog 86 #[.agg #[.int .i64 a0.X, .int .i64 a0.Y], .agg #[.int .i64 b0.X, .int .i64 b0.Y]] w (fun e w' => e = .returned (.tuple #[.int .i64 r.1, .int .i64 r.2]) ∧ SInv D (F) w') := by
  intro w hS
  refine call_intro Try.func86 rfl Try.ntmps86 (Nat.le_of_ble_eq_true rfl) hS ?_
  clear hS w
  unfold road_Between_p at hp
  refine c_seq ?_
  refine c_region ?_
  refine l_box (cs := [.int .i64 a0.X, .int .i64 a0.Y]) rfl rfl (fun b3 => ?_)
  refine l_box (cs := [.int .i64 b0.X, .int .i64 b0.Y]) rfl rfl (fun b4 => ?_)
  refine l_s (.int .i64 0) (by kernel_rfl) ?_
  refine l_s (.int .i64 0) (by kernel_rfl) ?_
  refine l_nil ?_
  refine e_then ?_
  refine c_seq ?_
  refine c_quiet_draw hmix (by kernel_rfl) ?_
  refine ql_s (.pointer (some ⟨b4, 0, none⟩)) (by kernel_rfl) ?_
  refine ql_q rfl (qs_ldpt encV fitv3 rfl 0 rfl (.int .i64 b0.X) (Nat.le_of_ble_eq_true rfl) rfl) ?_
  refine ql_s (.pointer (some ⟨b3, 0, none⟩)) (by kernel_rfl) ?_
  refine ql_q rfl (qs_ldpt encV fitv3 rfl 1 rfl (.int .i64 a0.X) (Nat.le_of_ble_eq_true rfl) rfl) ?_
  refine ql_s (.int .i64 (subI b0.X a0.X)) (by kernel_rfl) ?_
  refine ql_s (.pointer (some ⟨b4, 1, none⟩)) (by kernel_rfl) ?_
  refine ql_q rfl (qs_ldpt encV fitv3 rfl 0 rfl (.int .i64 b0.Y) (Nat.le_of_ble_eq_true rfl) rfl) ?_
  refine ql_s (.pointer (some ⟨b3, 1, none⟩)) (by kernel_rfl) ?_
  refine ql_q rfl (qs_ldpt encV fitv3 rfl 1 rfl (.int .i64 a0.Y) (Nat.le_of_ble_eq_true rfl) rfl) ?_
  refine ql_s (.int .i64 (subI b0.Y a0.Y)) (by kernel_rfl) ?_
  refine ql_s (.int .i64 (subI b0.X a0.X)) (by kernel_rfl) ?_
  refine ql_s (.int .i64 (subI b0.Y a0.Y)) (by kernel_rfl) ?_
  refine ql_nil ?_
  refine e_drop ?_
  refine e_drop ?_
  refine e_then ?_
  refine c_seq ?_
  obtain ⟨n_1, hn_1, hp⟩ := bnd_some hp
  replace hn_1 := Option.some.inj hn_1
  refine c_quiet ?_
  refine ql_s (.int .i64 (subI b0.X a0.X)) (by kernel_rfl) ?_
  refine ql_s (.int .i64 (subI b0.X a0.X)) (by kernel_rfl) ?_
  refine ql_s (.int .i64 (subI 0 (subI b0.X a0.X))) (by kernel_rfl) ?_
  refine ql_s (.int .i64 (subI b0.Y a0.Y)) (by kernel_rfl) ?_
  refine ql_s (.int .i64 (subI b0.Y a0.Y)) (by kernel_rfl) ?_
  refine ql_s (.int .i64 (subI 0 (subI b0.Y a0.Y))) (by kernel_rfl) ?_
  refine ql_q rfl (qs_max rfl) ?_
  refine ql_s (.int .i64 n_1) (congrArg (fun z => some (Value.int .i64 z)) hn_1) ?_
  refine ql_nil ?_
  refine e_then ?_
  refine c_seq ?_
  refine c_seq ?_
  refine c_cutq_end [(5, .int .i64 n_1), (6, .int .i64 (subI b0.X a0.X)), (7, .int .i64 (subI b0.Y a0.Y)), (45, .bool ((n_1 == 0) || (((subI b0.X a0.X) != 0) && (((subI b0.Y a0.Y) != 0) && (((subI b0.X a0.X) != (subI b0.Y a0.Y)) && ((subI b0.X a0.X) != (subI 0 (subI b0.Y a0.Y))))))))] ?_ ?_
  · skip
    refine c_quiet ?_
    refine ql_s (.int .i64 n_1) (by kernel_rfl) ?_
    refine ql_s (.bool (n_1 == 0)) (by kernel_rfl) ?_
    refine ql_s (.bool (n_1 == 0)) (by kernel_rfl) ?_
    refine ql_case 27 ((n_1 == 0)) rfl (fun hg1 => ?_) (fun hg1 => ?_)
    · skip
      refine ql_s undef (by kernel_rfl) ?_
      refine ql_s undef (by kernel_rfl) ?_
      refine ql_s undef (by kernel_rfl) ?_
      refine ql_s undef (by kernel_rfl) ?_
      refine ql_s undef (by kernel_rfl) ?_
      refine ql_s undef (by kernel_rfl) ?_
      refine ql_s undef (by kernel_rfl) ?_
      refine ql_s undef (by kernel_rfl) ?_
      refine ql_s undef (by kernel_rfl) ?_
      refine ql_s undef (by kernel_rfl) ?_
      refine ql_s undef (by kernel_rfl) ?_
      refine ql_s undef (by kernel_rfl) ?_
      refine ql_s undef (by kernel_rfl) ?_
      refine ql_s undef (by kernel_rfl) ?_
      refine ql_s undef (by kernel_rfl) ?_
      refine ql_s undef (by kernel_rfl) ?_
      refine ql_s undef (by kernel_rfl) ?_
      refine ql_s (.bool true) (by kernel_rfl) ?_
      refine ql_nil (e_cutq ?_)
      exact ⟨rfl, rfl, rfl, (congrArg Value.bool (by first | rfl | (rw [hg1]; rfl) | simp [hg1])), trivial⟩
    · skip
      refine ql_s (.int .i64 (subI b0.X a0.X)) (by kernel_rfl) ?_
      refine ql_s (.bool ((subI b0.X a0.X) != 0)) (by kernel_rfl) ?_
      refine ql_s (.bool ((subI b0.X a0.X) != 0)) (by kernel_rfl) ?_
      refine ql_case 30 (((subI b0.X a0.X) != 0)) rfl (fun hg2 => ?_) (fun hg2 => ?_)
      · skip
        refine ql_s (.int .i64 (subI b0.Y a0.Y)) (by kernel_rfl) ?_
        refine ql_s (.bool ((subI b0.Y a0.Y) != 0)) (by kernel_rfl) ?_
        refine ql_s (.bool ((subI b0.Y a0.Y) != 0)) (by kernel_rfl) ?_
        refine ql_s (.bool ((subI b0.Y a0.Y) != 0)) (by kernel_rfl) ?_
        refine ql_case 34 (((subI b0.Y a0.Y) != 0)) rfl (fun hg3 => ?_) (fun hg3 => ?_)
        · skip
          refine ql_s (.int .i64 (subI b0.X a0.X)) (by kernel_rfl) ?_
          refine ql_s (.int .i64 (subI b0.Y a0.Y)) (by kernel_rfl) ?_
          refine ql_s (.bool ((subI b0.X a0.X) != (subI b0.Y a0.Y))) (by kernel_rfl) ?_
          refine ql_s (.bool ((subI b0.X a0.X) != (subI b0.Y a0.Y))) (by kernel_rfl) ?_
          refine ql_s (.bool ((subI b0.X a0.X) != (subI b0.Y a0.Y))) (by kernel_rfl) ?_
          refine ql_case 39 (((subI b0.X a0.X) != (subI b0.Y a0.Y))) rfl (fun hg4 => ?_) (fun hg4 => ?_)
          · skip
            refine ql_s (.int .i64 (subI b0.X a0.X)) (by kernel_rfl) ?_
            refine ql_s (.int .i64 (subI b0.Y a0.Y)) (by kernel_rfl) ?_
            refine ql_s (.int .i64 (subI 0 (subI b0.Y a0.Y))) (by kernel_rfl) ?_
            refine ql_s (.bool ((subI b0.X a0.X) != (subI 0 (subI b0.Y a0.Y)))) (by kernel_rfl) ?_
            refine ql_s (.bool ((subI b0.X a0.X) != (subI 0 (subI b0.Y a0.Y)))) (by kernel_rfl) ?_
            refine ql_s (.bool ((subI b0.X a0.X) != (subI 0 (subI b0.Y a0.Y)))) (by kernel_rfl) ?_
            refine ql_nil (e_cutq ?_)
            exact ⟨rfl, rfl, rfl, (congrArg Value.bool (by first | rfl | (rw [hg1, hg2, hg3, hg4]; rfl) | simp [hg1, hg2, hg3, hg4])), trivial⟩
          · skip
            refine ql_s undef (by kernel_rfl) ?_
            refine ql_s undef (by kernel_rfl) ?_
            refine ql_s undef (by kernel_rfl) ?_
            refine ql_s undef (by kernel_rfl) ?_
            refine ql_s (.bool false) (by kernel_rfl) ?_
            refine ql_s (.bool false) (by kernel_rfl) ?_
            refine ql_nil (e_cutq ?_)
            exact ⟨rfl, rfl, rfl, (congrArg Value.bool (by first | rfl | (rw [hg1, hg2, hg3, hg4]; rfl) | simp [hg1, hg2, hg3, hg4])), trivial⟩
        · skip
          refine ql_s undef (by kernel_rfl) ?_
          refine ql_s undef (by kernel_rfl) ?_
          refine ql_s undef (by kernel_rfl) ?_
          refine ql_s (.bool false) (by kernel_rfl) ?_
          refine ql_s (.bool false) (by kernel_rfl) ?_
          refine ql_s undef (by kernel_rfl) ?_
          refine ql_s undef (by kernel_rfl) ?_
          refine ql_s undef (by kernel_rfl) ?_
          refine ql_s undef (by kernel_rfl) ?_
          refine ql_s (.bool false) (by kernel_rfl) ?_
          refine ql_s (.bool false) (by kernel_rfl) ?_
          refine ql_nil (e_cutq ?_)
          exact ⟨rfl, rfl, rfl, (congrArg Value.bool (by first | rfl | (rw [hg1, hg2, hg3]; rfl) | simp [hg1, hg2, hg3])), trivial⟩
      · skip
        refine ql_s undef (by kernel_rfl) ?_
        refine ql_s undef (by kernel_rfl) ?_
        refine ql_s (.bool false) (by kernel_rfl) ?_
        refine ql_s (.bool false) (by kernel_rfl) ?_
        refine ql_s undef (by kernel_rfl) ?_
        refine ql_s undef (by kernel_rfl) ?_
        refine ql_s undef (by kernel_rfl) ?_
        refine ql_s (.bool false) (by kernel_rfl) ?_
        refine ql_s (.bool false) (by kernel_rfl) ?_
        refine ql_s undef (by kernel_rfl) ?_
        refine ql_s undef (by kernel_rfl) ?_
        refine ql_s undef (by kernel_rfl) ?_
        refine ql_s undef (by kernel_rfl) ?_
        refine ql_s (.bool false) (by kernel_rfl) ?_
        refine ql_s (.bool false) (by kernel_rfl) ?_
        refine ql_nil (e_cutq ?_)
        exact ⟨rfl, rfl, rfl, (congrArg Value.bool (by first | rfl | (rw [hg1, hg2]; rfl) | simp [hg1, hg2])), trivial⟩
  intro _
  refine e_then ?_
  refine c_cond (((n_1 == 0) || (((subI b0.X a0.X) != 0) && (((subI b0.Y a0.Y) != 0) && (((subI b0.X a0.X) != (subI b0.Y a0.Y)) && ((subI b0.X a0.X) != (subI 0 (subI b0.Y a0.Y)))))))) rfl (fun ht1 => ?_) (fun ht1 => ?_)
  · skip
    replace hp := if_t ht1 hp
    refine c_seq ?_
    refine c_quiet ?_
    refine ql_s (.int .i64 (-1)) (by kernel_rfl) ?_
    refine ql_s (.int .i64 0) (by kernel_rfl) ?_
    refine ql_nil ?_
    refine e_then ?_
    refine c_ret ?_
    refine e_then_ret ?_
    obtain rfl := Option.some.inj hp
    exact post_all (vs := [.int .i64 (-1), .int .i64 0]) (.tuple #[.int .i64 (-1), .int .i64 0]) ⟨rfl, rfl, trivial⟩ rfl (.inl rfl) (fun w hS => ⟨rfl, hS⟩)
  · skip
    replace hp := if_f ht1 hp
    refine c_skip ?_
    refine e_then ?_
    refine c_seq ?_
    obtain ⟨u1, hu1, hp⟩ := bnd_some hp
    replace hu1 := guardP_some hu1
    obtain ⟨r1, hr1, hp⟩ := bnd_some hp
    refine c_quiet_draw hmix (by kernel_rfl) ?_
    refine ql_s (.agg #[.int .i64 0, .int .i64 0]) (by kernel_rfl) ?_
    refine ql_s (.int .i64 (subI b0.X a0.X)) (by kernel_rfl) ?_
    refine ql_s (.int .i64 n_1) (by kernel_rfl) ?_
    refine ql_q rfl (qs_idiv (r := quoI (subI b0.X a0.X) n_1) (by simpa using hu1) rfl rfl rfl) ?_
    refine ql_s (.int .i64 (subI b0.Y a0.Y)) (by kernel_rfl) ?_
    refine ql_s (.int .i64 n_1) (by kernel_rfl) ?_
    refine ql_q rfl (qs_idiv (r := quoI (subI b0.Y a0.Y) n_1) (by simpa using hu1) rfl rfl rfl) ?_
    refine ql_s (.agg #[.int .i64 (quoI (subI b0.X a0.X) n_1), .int .i64 (quoI (subI b0.Y a0.Y) n_1)]) (by kernel_rfl) ?_
    refine ql_call (v := .int .i64 r1) rfl (run_call (vs := [.agg #[.int .i64 0, .int .i64 0], .agg #[.int .i64 (quoI (subI b0.X a0.X) n_1), .int .i64 (quoI (subI b0.Y a0.Y) n_1)]]) rfl Try.call107 rfl) (fun w hS => (water_Direction_s (⟨0, 0⟩ : S_api_Point) (⟨quoI (subI b0.X a0.X) n_1, quoI (subI b0.Y a0.Y) n_1⟩ : S_api_Point) _  _ _ hr1 w (hS)).mono fun e w' h => ⟨h.1, h.2⟩) ?_
    refine ql_s (.int .i64 n_1) (by kernel_rfl) ?_
    refine ql_s (.int .i64 r1) (by kernel_rfl) ?_
    refine ql_s (.int .i64 n_1) (by kernel_rfl) ?_
    refine ql_nil ?_
    refine e_then ?_
    refine c_ret ?_
    obtain rfl := Option.some.inj hp
    exact post_all (vs := [.int .i64 r1, .int .i64 n_1]) (.tuple #[.int .i64 r1, .int .i64 n_1]) ⟨rfl, rfl, trivial⟩ rfl (.inl rfl) (fun w hS => ⟨rfl, hS⟩)

-- tarnfell/road.checkWay
set_option maxRecDepth 100000 in
set_option maxHeartbeats 4000000 in
theorem road_checkWay_s (way0 : List S_api_Point) (way0_v1a : Option Addr) (way0_v1c : Nat) (b_place0_c0 : Nat) (place0_c0 : S_api_Field) (place0_c0_v1a : Option Addr) (place0_c0_v1c : Nat) (D : PH) (way0_h1 : RO encS_api_Point D (.slice way0_v1a way0.length way0_v1c) way0) (place0_c0_h1 : RO (encF .f32) D (.slice place0_c0_v1a place0_c0.V.length place0_c0_v1c) place0_c0.V) (F : List Assert) (r : Int) (hp : road_checkWay_p way0 place0_c0 = some r) : ∀ w : World, SInv D (pt b_place0_c0 [.int .i64 place0_c0.Region.X, .int .i64 place0_c0.Region.Y, .int .i64 place0_c0.Region.W, .int .i64 place0_c0.Region.H, .slice place0_c0_v1a place0_c0.V.length place0_c0_v1c] 26 :: F) w → Calls Try.prog 76 #[.slice way0_v1a way0.length way0_v1c, .func (.func 77) #[] #[.pointer (some ⟨b_place0_c0, 0, none⟩)]] w (fun e w' => e = .returned (.int .i64 r) ∧ SInv D (pt b_place0_c0 [.int .i64 place0_c0.Region.X, .int .i64 place0_c0.Region.Y, .int .i64 place0_c0.Region.W, .int .i64 place0_c0.Region.H, .slice place0_c0_v1a place0_c0.V.length place0_c0_v1c] 26 :: F) w') := by
  intro w hS
  refine call_intro Try.func76 rfl Try.ntmps76 (Nat.le_of_ble_eq_true rfl) hS ?_
  clear hS w
  unfold road_checkWay_p at hp
  refine c_seq ?_
  refine c_quiet ?_
  refine ql_s (.int .i64 0) (by kernel_rfl) ?_
  refine ql_nil ?_
  refine e_then ?_
  refine c_seq ?_
  refine c_seq ?_
  obtain ⟨r1, hr1, hp⟩ := bnd_some hp
  refine c_quiet ?_
  refine ql_s (.slice way0_v1a way0.length way0_v1c) (by kernel_rfl) ?_
  refine ql_call (v := .int .i64 r1) rfl (run_call (vs := [.slice way0_v1a way0.length way0_v1c]) rfl Try.call104 rfl) (fun w hS => (road_amount_s way0 way0_v1a way0_v1c _ way0_h1 _ _ hr1 w (hS)).mono fun e w' h => ⟨h.1, h.2⟩) ?_
  refine ql_s (.int .i64 r1) (by kernel_rfl) ?_
  refine ql_nil ?_
  refine e_then ?_
  refine c_seq ?_
  refine c_quiet ?_
  refine ql_s (.int .i64 r1) (by kernel_rfl) ?_
  refine ql_s (.bool (r1 != 0)) (by kernel_rfl) ?_
  refine ql_nil ?_
  refine e_then ?_
  refine c_cond ((r1 != 0)) rfl (fun ht1 => ?_) (fun ht1 => ?_)
  · skip
    replace hp := if_t ht1 hp
    refine c_seq ?_
    refine c_quiet ?_
    refine ql_s (.int .i64 r1) (by kernel_rfl) ?_
    refine ql_s (.int .i64 r1) (by kernel_rfl) ?_
    refine ql_nil ?_
    refine e_then ?_
    refine c_ret ?_
    refine e_then_ret ?_
    obtain rfl := Option.some.inj hp
    exact post_all (vs := [.int .i64 r1]) (.int .i64 r1) ⟨rfl, trivial⟩ rfl (.inl rfl) (fun w hS => ⟨rfl, hS⟩)
  · skip
    replace hp := if_f ht1 hp
    refine c_skip ?_
    refine e_then ?_
    refine c_seq ?_
    refine c_seq ?_
    refine c_quiet ?_
    refine ql_s (.slice way0_v1a way0.length way0_v1c) (by kernel_rfl) ?_
    refine ql_s (.int .i64 (way0.length : Int)) (by kernel_rfl) ?_
    refine ql_s (.int .i64 0) (by kernel_rfl) ?_
    refine ql_nil ?_
    refine e_then ?_
    have hb0 : (way0.length : Int) ≤ 4611686018427387904 := by have := RO.bound way0_h1; omega
    have hm0 : way0.length = (way0.length : Int).toNat := by omega
    have hm1 := hm0; have hb1 := hb0; clear hm0 hb0
    obtain ⟨x1, hs1, hp⟩ := bnd_some hp
    obtain ⟨body1, hbody1, hs1⟩ := forI_gen hs1
    refine c_cut_end (fun φ1 D1 As1 => ∃ (s1 : Unit), x1 = .go s1 ∧ Is φ1 [] ∧ PH.le D D1 ∧ As1 = pt b_place0_c0 [.int .i64 place0_c0.Region.X, .int .i64 place0_c0.Region.Y, .int .i64 place0_c0.Region.W, .int .i64 place0_c0.Region.H, .slice place0_c0_v1a place0_c0.V.length place0_c0_v1c] 26 :: F) ?_ ?_
    · skip
      refine c_block ?_
      refine c_loop (fun k φ1 D2 As1 => ∃ (j1 i1 : Nat) (s2 : Unit), k = j1 + 1 ∧ i1 + j1 = way0.length ∧ Is φ1 [(0, .slice way0_v1a way0.length way0_v1c), (1, .func (.func 77) #[] #[.pointer (some ⟨b_place0_c0, 0, none⟩)]), (16, .slice way0_v1a way0.length way0_v1c), (17, .int .i64 (way0.length : Int)), (18, .int .i64 (i1 : Int))] ∧ PH.le D D2 ∧ As1 = pt b_place0_c0 [.int .i64 place0_c0.Region.X, .int .i64 place0_c0.Region.Y, .int .i64 place0_c0.Region.W, .int .i64 place0_c0.Region.H, .slice place0_c0_v1a place0_c0.V.length place0_c0_v1c] 26 :: F ∧ forI body1 j1 i1 s2 = some x1) ⟨way0.length + 1, way0.length, 0, (), rfl, Nat.zero_add _, ⟨rfl, rfl, rfl, rfl, rfl, trivial⟩, (PH.le_refl _), rfl, hs1⟩ ?_ ?_
      · rintro _ _ _ ⟨_, _, _, h0, _⟩; omega
      intro k1
      rintro φ1 D2 As1 ⟨j1, i1, s2, hk1, hij1, hI1, hD1, hA1, hs2⟩
      subst As1
      replace way0_h1 := way0_h1.mono hD1
      replace place0_c0_h1 := place0_c0_h1.mono hD1
      refine c_frame _ hI1 ?_
      obtain rfl : k1 = j1 := by omega
      clear hk1
      rcases k1 with _ | j1
      · skip
        refine c_seq ?_
        refine c_quiet ?_
        refine ql_s (.bool (decide ((i1 : Int) < (way0.length : Int)))) (by kernel_rfl) ?_
        refine ql_nil ?_
        refine e_then ?_
        refine c_seq ?_
        refine c_cond (decide ((i1 : Int) < (way0.length : Int))) rfl (fun ht2 => absurd ((dec_lt_f hm1 (by omega)).symm.trans ht2) (by simp)) (fun _ => ?_)
        refine c_exit ?_
        refine e_then_exit ?_
        refine e_then_exit ?_
        obtain rfl := Option.some.inj hs2
        refine e_blk_exit ?_
        exact e_cut ⟨(), rfl, trivial, hD1, rfl⟩
      · skip
        obtain ⟨y1, hx1, hs2⟩ := forI_some hs2
        replace hx1 := (congrFun (congrFun hbody1 i1) s2).trans hx1
        refine c_seq ?_
        refine c_quiet ?_
        refine ql_s (.bool (decide ((i1 : Int) < (way0.length : Int)))) (by kernel_rfl) ?_
        refine ql_nil ?_
        refine e_then ?_
        refine c_seq ?_
        refine c_cond (decide ((i1 : Int) < (way0.length : Int))) rfl (fun _ => ?_) (fun ht3 => absurd ((dec_lt_t hm1 (by omega)).symm.trans ht3) (by simp))
        refine c_skip ?_
        refine e_then ?_
        refine c_seq ?_
        obtain ⟨x2, hs3, hx1⟩ := bnd_some hx1
        refine c_cut_end (fun φ1 D3 As1 => ∃ (s3 : Unit), x2 = .go s3 ∧ Is φ1 [(0, .slice way0_v1a way0.length way0_v1c), (1, .func (.func 77) #[] #[.pointer (some ⟨b_place0_c0, 0, none⟩)]), (16, .slice way0_v1a way0.length way0_v1c), (17, .int .i64 (way0.length : Int)), (18, .int .i64 (i1 : Int))] ∧ PH.le D2 D3 ∧ As1 = pt b_place0_c0 [.int .i64 place0_c0.Region.X, .int .i64 place0_c0.Region.Y, .int .i64 place0_c0.Region.W, .int .i64 place0_c0.Region.H, .slice place0_c0_v1a place0_c0.V.length place0_c0_v1c] 26 :: F) ?_ ?_
        · skip
          refine c_block ?_
          refine c_seq ?_
          obtain ⟨x3, hx2, hs3⟩ := bnd_some hs3
          obtain ⟨b1, o1, h1, hq1⟩ := RO.at way0_h1 hx2
          obtain ⟨cs1, hc1, ha1⟩ := h1.cells
          obtain rfl := hc1
          refine c_region ?_
          refine l_s (.int .i64 (i1 : Int)) (by kernel_rfl) ?_
          refine l_q rfl (qs_idx hq1 Try.underlying27 fit71 rfl rfl) ?_
          refine l_q rfl (qs_ldC fit71 rfl ha1 rfl (.agg #[.int .i64 x3.X, .int .i64 x3.Y]) rfl) ?_
          refine l_alloc (zs := [.int .i64 0, .int .i64 0]) rfl (by kernel_rfl) (fun b3 => ?_)
          refine l_s (.int .i64 (i1 : Int)) (by kernel_rfl) ?_
          refine l_store (dd := none) (vs := [.int .i64 x3.X, .int .i64 x3.Y]) (cs' := [.int .i64 x3.X, .int .i64 x3.Y]) rfl (by kernel_rfl) (by kernel_rfl) rfl rfl (Nat.le_of_ble_eq_true rfl) rfl rfl ?_
          refine l_nil ?_
          refine e_then ?_
          refine c_seq ?_
          refine c_seq ?_
          obtain ⟨r2, hr2, hs3⟩ := bnd_some hs3
          refine c_quiet ?_
          refine ql_s (.func (.func 77) #[] #[.pointer (some ⟨b_place0_c0, 0, none⟩)]) (by kernel_rfl) ?_
          refine ql_q rfl (qs_ldpt (encW 2 (by decide)) fitv71 rfl 0 rfl (.agg #[.int .i64 x3.X, .int .i64 x3.Y]) (Nat.le_of_ble_eq_true rfl) rfl) ?_
          refine ql_call (v := .int .i64 r2) rfl (run_call (vs := [.agg #[.int .i64 x3.X, .int .i64 x3.Y], .pointer (some ⟨b_place0_c0, 0, none⟩)]) rfl Try.call77 rfl) (fun w hS => (road_onField_1_s x3 b_place0_c0 place0_c0 place0_c0_v1a place0_c0_v1c _ place0_c0_h1 _ _ hr2 w (hS.perm (fr1_perm 1 _))).mono fun e w' h => ⟨h.1, SInv.unfr 1 h.2⟩) ?_
          refine ql_s (.int .i64 r2) (by kernel_rfl) ?_
          refine ql_nil ?_
          refine e_then ?_
          refine c_seq ?_
          refine c_quiet ?_
          refine ql_s (.int .i64 r2) (by kernel_rfl) ?_
          refine ql_s (.bool (r2 != 0)) (by kernel_rfl) ?_
          refine ql_nil ?_
          refine e_then ?_
          refine c_cond ((r2 != 0)) rfl (fun ht4 => ?_) (fun ht4 => ?_)
          · skip
            replace hs3 := if_t ht4 hs3
            refine c_seq ?_
            refine c_quiet ?_
            refine ql_s (.int .i64 r2) (by kernel_rfl) ?_
            refine ql_s (.int .i64 r2) (by kernel_rfl) ?_
            refine ql_nil ?_
            refine e_drop ?_
            refine e_then ?_
            refine c_ret ?_
            refine e_then_ret ?_
            refine e_blk_ret ?_
            refine e_then_ret ?_
            obtain rfl := Option.some.inj hs3
            dsimp only at hx1
            refine e_then_ret ?_
            refine e_then_ret ?_
            obtain rfl := Option.some.inj hx1
            obtain rfl := hs2
            refine e_blk_ret ?_
            refine e_then_ret ?_
            dsimp only at hp
            refine e_then_ret ?_
            obtain rfl := Option.some.inj hp
            exact post_all (vs := [.int .i64 r2]) (.int .i64 r2) ⟨rfl, trivial⟩ rfl (.inl rfl) (fun w hS => ⟨rfl, (hS.lower hD1)⟩)
          · skip
            replace hs3 := if_f ht4 hs3
            refine c_skip ?_
            refine e_then ?_
            refine c_seq ?_
            refine c_seq ?_
            refine c_quiet ?_
            refine ql_s (.int .i64 (i1 : Int)) (by kernel_rfl) ?_
            refine ql_s (.bool ((i1 : Int) == 0)) (by kernel_rfl) ?_
            refine ql_nil ?_
            refine e_then ?_
            refine c_cond (((i1 : Int) == 0)) rfl (fun ht5 => ?_) (fun ht5 => ?_)
            · skip
              replace hs3 := if_t ht5 hs3
              refine c_exit ?_
              refine e_then_exit ?_
              refine e_blk_exit ?_
              refine e_drop ?_
              obtain rfl := Option.some.inj hs3
              exact e_cut ⟨(), rfl, ⟨rfl, rfl, rfl, rfl, rfl, trivial⟩, (PH.le_refl _), rfl⟩
            · skip
              replace hs3 := if_f ht5 hs3
              refine c_skip ?_
              refine e_then ?_
              refine c_seq ?_
              obtain ⟨x4, hx3, hs3⟩ := bnd_some hs3
              obtain ⟨b4, o2, h2, hq2⟩ := RO.at way0_h1 hx3
              obtain ⟨cs2, hc2, ha2⟩ := h2.cells
              obtain rfl := hc2
              obtain ⟨r3, hr3, hs3⟩ := bnd_some hs3
              refine c_quiet_draw hmix (by kernel_rfl) ?_
              refine ql_s (.slice way0_v1a way0.length way0_v1c) (by kernel_rfl) ?_
              refine ql_s (.int .i64 (i1 : Int)) (by kernel_rfl) ?_
              refine ql_s (.int .i64 (subI (i1 : Int) 1)) (by kernel_rfl) ?_
              refine ql_q rfl (qs_idx hq2 Try.underlying27 fit71 rfl rfl) ?_
              refine ql_q rfl (qs_ldC fit71 rfl ha2 rfl (.agg #[.int .i64 x4.X, .int .i64 x4.Y]) rfl) ?_
              refine ql_q rfl (qs_ldpt (encW 2 (by decide)) fitv71 rfl 0 rfl (.agg #[.int .i64 x3.X, .int .i64 x3.Y]) (Nat.le_of_ble_eq_true rfl) rfl) ?_
              refine ql_call (v := .tuple #[.int .i64 r3.1, .int .i64 r3.2]) rfl (run_call (vs := [.agg #[.int .i64 x4.X, .int .i64 x4.Y], .agg #[.int .i64 x3.X, .int .i64 x3.Y]]) rfl Try.call86 rfl) (fun w hS => (road_Between_s x4 x3 _  _ _ hr3 w (hS)).mono fun e w' h => ⟨h.1, h.2⟩) ?_
              refine ql_s (.tuple #[.int .i64 r3.1, .int .i64 r3.2]) (by kernel_rfl) ?_
              refine ql_s (.int .i64 r3.1) (by kernel_rfl) ?_
              refine ql_s (.int .i64 r3.2) (by kernel_rfl) ?_
              refine ql_s (.int .i64 r3.1) (by kernel_rfl) ?_
              refine ql_s (.int .i64 r3.2) (by kernel_rfl) ?_
              refine ql_nil ?_
              refine e_drop ?_
              refine e_then ?_
              refine c_seq ?_
              refine c_cutq_end [(0, .slice way0_v1a way0.length way0_v1c), (1, .func (.func 77) #[] #[.pointer (some ⟨b_place0_c0, 0, none⟩)]), (16, .slice way0_v1a way0.length way0_v1c), (17, .int .i64 (way0.length : Int)), (18, .int .i64 (i1 : Int)), (46, .bool ((r3.1 == (-1)) || (decide (r3.2 > 12))))] ?_ ?_
              · skip
                refine c_quiet ?_
                refine ql_s (.int .i64 r3.1) (by kernel_rfl) ?_
                refine ql_s (.bool (r3.1 == (-1))) (by kernel_rfl) ?_
                refine ql_s (.bool (r3.1 == (-1))) (by kernel_rfl) ?_
                refine ql_case 43 ((r3.1 == (-1))) rfl (fun hg1 => ?_) (fun hg1 => ?_)
                · skip
                  refine ql_s undef (by kernel_rfl) ?_
                  refine ql_s undef (by kernel_rfl) ?_
                  refine ql_s (.bool true) (by kernel_rfl) ?_
                  refine ql_nil (e_cutq ?_)
                  exact ⟨rfl, rfl, rfl, rfl, rfl, (congrArg Value.bool (by first | rfl | (rw [hg1]; rfl) | simp [hg1])), trivial⟩
                · skip
                  refine ql_s (.int .i64 r3.2) (by kernel_rfl) ?_
                  refine ql_s (.bool (decide (r3.2 > 12))) (by kernel_rfl) ?_
                  refine ql_s (.bool (decide (r3.2 > 12))) (by kernel_rfl) ?_
                  refine ql_nil (e_cutq ?_)
                  exact ⟨rfl, rfl, rfl, rfl, rfl, (congrArg Value.bool (by first | rfl | (rw [hg1]; rfl) | simp [hg1])), trivial⟩
              intro _
              refine e_then ?_
              refine c_cond (((r3.1 == (-1)) || (decide (r3.2 > 12)))) rfl (fun ht6 => ?_) (fun ht6 => ?_)
              · skip
                replace hs3 := if_t ht6 hs3
                refine c_seq ?_
                refine c_quiet ?_
                refine ql_s (.int .i64 2) (by kernel_rfl) ?_
                refine ql_nil ?_
                refine e_then ?_
                refine c_ret ?_
                refine e_blk_ret ?_
                refine e_then_ret ?_
                obtain rfl := Option.some.inj hs3
                dsimp only at hx1
                refine e_then_ret ?_
                refine e_then_ret ?_
                obtain rfl := Option.some.inj hx1
                obtain rfl := hs2
                refine e_blk_ret ?_
                refine e_then_ret ?_
                dsimp only at hp
                refine e_then_ret ?_
                obtain rfl := Option.some.inj hp
                exact post_all (vs := [.int .i64 2]) (.int .i64 2) ⟨rfl, trivial⟩ rfl (.inl rfl) (fun w hS => ⟨rfl, (hS.lower hD1)⟩)
              · skip
                replace hs3 := if_f ht6 hs3
                refine c_skip ?_
                refine e_blk ?_
                obtain rfl := Option.some.inj hs3
                exact e_cut ⟨(), rfl, ⟨rfl, rfl, rfl, rfl, rfl, trivial⟩, (PH.le_refl _), rfl⟩
        · skip
          rintro φ2 D3 As2 ⟨s3, rfl, hI2, hD2, hA2⟩
          subst As2
          replace way0_h1 := way0_h1.mono hD2
          replace place0_c0_h1 := place0_c0_h1.mono hD2
          dsimp only at hx1
          refine e_frame _ hI2 ?_
          refine e_then ?_
          refine c_quiet ?_
          refine ql_s (.int .i64 (addI (i1 : Int) 1)) (by kernel_rfl) ?_
          refine ql_s (.int .i64 (addI (i1 : Int) 1)) (by kernel_rfl) ?_
          refine ql_nil ?_
          obtain rfl := Option.some.inj hx1
          exact e_cut ⟨j1, i1 + 1, (), by omega, by omega, ⟨rfl, rfl, rfl, rfl, (congrArg (Value.int .i64) (addI_succ (by omega))), trivial⟩, (PH.le_trans hD1 hD2), rfl, hs2⟩
    · skip
      rintro φ3 D1 As3 ⟨s1, rfl, hI3, hD3, hA3⟩
      subst As3
      replace place0_c0_h1 := place0_c0_h1.mono hD3
      dsimp only at hp
      refine e_frame _ hI3 ?_
      refine e_then ?_
      refine c_seq ?_
      refine c_quiet ?_
      refine ql_s (.int .i64 0) (by kernel_rfl) ?_
      refine ql_nil ?_
      refine e_then ?_
      refine c_ret ?_
      obtain rfl := Option.some.inj hp
      exact post_all (vs := [.int .i64 0]) (.int .i64 0) ⟨rfl, trivial⟩ rfl (.inl rfl) (fun w hS => ⟨rfl, (hS.lower hD3)⟩)

-- tarnfell/road.onField
set_option maxRecDepth 100000 in
set_option maxHeartbeats 4000000 in
theorem road_onField_s (f0 : S_api_Field) (f0_v1a : Option Addr) (f0_v1c : Nat) (way0 : List S_api_Point) (way0_v1a : Option Addr) (way0_v1c : Nat) (D : PH) (f0_h1 : RO (encF .f32) D (.slice f0_v1a f0.V.length f0_v1c) f0.V) (way0_h1 : RO encS_api_Point D (.slice way0_v1a way0.length way0_v1c) way0) (F : List Assert) (r : Int) (hp : road_onField_p f0 way0 = some r) : ∀ w : World, SInv D (F) w → Calls Try.prog 33 #[.agg #[.int .i64 f0.Region.X, .int .i64 f0.Region.Y, .int .i64 f0.Region.W, .int .i64 f0.Region.H, .slice f0_v1a f0.V.length f0_v1c], .slice way0_v1a way0.length way0_v1c] w (fun e w' => e = .returned (.int .i64 r) ∧ SInv D (F) w') := by
  intro w hS
  refine call_intro Try.func33 rfl Try.ntmps33 (Nat.le_of_ble_eq_true rfl) hS ?_
  clear hS w
  unfold road_onField_p at hp
  refine c_seq ?_
  refine c_region ?_
  refine l_box (cs := [.int .i64 f0.Region.X, .int .i64 f0.Region.Y, .int .i64 f0.Region.W, .int .i64 f0.Region.H, .slice f0_v1a f0.V.length f0_v1c]) rfl rfl (fun b2 => ?_)
  refine l_s (.int .i64 0) (by kernel_rfl) ?_
  refine l_nil ?_
  refine e_then ?_
  refine c_seq ?_
  refine c_seq ?_
  obtain ⟨r1, hr1, hp⟩ := bnd_some hp
  refine c_quiet ?_
  refine ql_q rfl (qs_ldpt (encW 5 (by decide)) fitv26 rfl 0 rfl (.agg #[.int .i64 f0.Region.X, .int .i64 f0.Region.Y, .int .i64 f0.Region.W, .int .i64 f0.Region.H, .slice f0_v1a f0.V.length f0_v1c]) (Nat.le_of_ble_eq_true rfl) rfl) ?_
  refine ql_call (v := .int .i64 r1) rfl (run_call (vs := [.agg #[.int .i64 f0.Region.X, .int .i64 f0.Region.Y, .int .i64 f0.Region.W, .int .i64 f0.Region.H, .slice f0_v1a f0.V.length f0_v1c]]) rfl Try.call75 rfl) (fun w hS => (field_Check_s f0 f0_v1a f0_v1c _ f0_h1 _ _ hr1 w (hS)).mono fun e w' h => ⟨h.1, h.2⟩) ?_
  refine ql_s (.int .i64 r1) (by kernel_rfl) ?_
  refine ql_nil ?_
  refine e_then ?_
  refine c_seq ?_
  refine c_quiet ?_
  refine ql_s (.int .i64 r1) (by kernel_rfl) ?_
  refine ql_s (.bool (r1 != 0)) (by kernel_rfl) ?_
  refine ql_nil ?_
  refine e_then ?_
  refine c_cond ((r1 != 0)) rfl (fun ht1 => ?_) (fun ht1 => ?_)
  · skip
    replace hp := if_t ht1 hp
    refine c_seq ?_
    refine c_quiet ?_
    refine ql_s (.int .i64 r1) (by kernel_rfl) ?_
    refine ql_s (.int .i64 r1) (by kernel_rfl) ?_
    refine ql_nil ?_
    refine e_drop ?_
    refine e_then ?_
    refine c_ret ?_
    refine e_then_ret ?_
    obtain rfl := Option.some.inj hp
    exact post_all (vs := [.int .i64 r1]) (.int .i64 r1) ⟨rfl, trivial⟩ rfl (.inl rfl) (fun w hS => ⟨rfl, hS⟩)
  · skip
    replace hp := if_f ht1 hp
    refine c_skip ?_
    refine e_then ?_
    refine c_seq ?_
    obtain ⟨r2, hr2, hp⟩ := bnd_some hp
    refine c_quiet ?_
    refine ql_s (.slice way0_v1a way0.length way0_v1c) (by kernel_rfl) ?_
    refine ql_s (.func (.func 77) #[] #[.pointer (some ⟨b2, 0, none⟩)]) (by kernel_rfl) ?_
    refine ql_call (v := .int .i64 r2) rfl (run_call (vs := [.slice way0_v1a way0.length way0_v1c, .func (.func 77) #[] #[.pointer (some ⟨b2, 0, none⟩)]]) rfl Try.call76 rfl) (fun w hS => (road_checkWay_s way0 way0_v1a way0_v1c b2 f0 f0_v1a f0_v1c _ way0_h1 f0_h1 _ _ hr2 w (hS)).mono fun e w' h => ⟨h.1, h.2⟩) ?_
    refine ql_s (.int .i64 r2) (by kernel_rfl) ?_
    refine ql_nil ?_
    refine e_drop ?_
    refine e_then ?_
    refine c_ret ?_
    obtain rfl := Option.some.inj hp
    exact post_all (vs := [.int .i64 r2]) (.int .i64 r2) ⟨rfl, trivial⟩ rfl (.inl rfl) (fun w hS => ⟨rfl, hS⟩)

-- tarnfell/road.nearest
set_option maxRecDepth 100000 in
set_option maxHeartbeats 4000000 in
theorem road_nearest_s (r0 : S_api_Region) (way0 : List S_api_Point) (way0_v1a : Option Addr) (way0_v1c : Nat) (far0 : Int) (D : PH) (way0_h1 : RO encS_api_Point D (.slice way0_v1a way0.length way0_v1c) way0) (F : List Assert) (r : (List Int) × (List Int)) (hp : road_nearest_p r0 way0 far0 = some r) : ∀ w : World, SInv D (F) w → Calls Try.prog 35 #[.agg #[.int .i64 r0.X, .int .i64 r0.Y, .int .i64 r0.W, .int .i64 r0.H], .slice way0_v1a way0.length way0_v1c, .int .i64 far0] w (fun e w' => ∃ (D1 : PH) (q_a1 : Option Addr) (q_cp1 : Nat) (q_a2 : Option Addr) (q_cp2 : Nat), PH.le D D1 ∧ e = .returned (.tuple #[.slice q_a1 r.1.length q_cp1, .slice q_a2 r.2.length q_cp2]) ∧ RO (encI .i64) D1 (.slice q_a1 r.1.length q_cp1) r.1 ∧ RO (encI .i64) D1 (.slice q_a2 r.2.length q_cp2) r.2 ∧ SInv D1 (F) w') := by
  intro w hS
  refine call_intro Try.func35 rfl Try.ntmps35 (Nat.le_of_ble_eq_true rfl) hS ?_
  clear hS w
  unfold road_nearest_p at hp
  refine c_seq ?_
  refine c_region ?_
  refine l_box (cs := [.int .i64 r0.X, .int .i64 r0.Y, .int .i64 r0.W, .int .i64 r0.H]) rfl rfl (fun b2 => ?_)
  refine l_s (.slice none 0 0) (by kernel_rfl) ?_
  refine l_nilS D (encI .i64) 3 ?_
  refine l_s (.slice none 0 0) (by kernel_rfl) ?_
  refine l_nilS D (encI .i64) 3 ?_
  refine l_nil ?_
  refine e_drop ?_
  refine e_drop ?_
  refine e_then ?_
  refine c_seq ?_
  obtain ⟨l1, hl1, hp⟩ := bnd_some hp
  refine c_cut_end (fun φ1 D1 As1 => ∃ (b5 : Nat) (b6 : Nat) (cp3 : Nat) (cp4 : Nat), Is φ1 [(1, .slice way0_v1a way0.length way0_v1c), (2, .int .i64 far0), (3, .pointer (some ⟨b2, 0, none⟩)), (6, .slice (some ⟨b6, 0, none⟩) l1.length cp4), (7, .slice (some ⟨b5, 0, none⟩) l1.length cp3)] ∧ D = D1 ∧ As1 = pt b2 [.int .i64 r0.X, .int .i64 r0.Y, .int .i64 r0.W, .int .i64 r0.H] 23 :: OwnS D (encI .i64) 3 (.slice (some ⟨b5, 0, none⟩) l1.length cp3) l1 :: OwnS D (encI .i64) 3 (.slice (some ⟨b6, 0, none⟩) l1.length cp4) l1 :: F) ?_ ?_
  · skip
    refine c_order (B := [pt b2 [.int .i64 r0.X, .int .i64 r0.Y, .int .i64 r0.W, .int .i64 r0.H] 23]) (.q 0 (.q 1 (.q 2 (.q 3 (.q 4 (.q 6 (.q 7 (.q 8 (.q 9 (.q 10 (.f 5 (.q 12 (.e 11 (.q 13 .nil))) (.e 11 (.e 5 (.q 12 (.q 13 .nil))))))))))))))) hmix (by kernel_rfl) (NoPanic.then (NoPanic.then NoPanic.post)) ?_
    refine o_s (.pointer (some ⟨b2, 2, none⟩)) rfl (by kernel_rfl) ?_
    refine o_qs rfl rfl (qs_ldpt encV fitv3 rfl 0 rfl (.int .i64 r0.W) (Nat.le_of_ble_eq_true rfl) rfl) ?_
    refine o_s (.pointer (some ⟨b2, 3, none⟩)) rfl (by kernel_rfl) ?_
    refine o_qs rfl rfl (qs_ldpt encV fitv3 rfl 0 rfl (.int .i64 r0.H) (Nat.le_of_ble_eq_true rfl) rfl) ?_
    refine o_s (.int .i64 (mulI r0.W r0.H)) rfl (by kernel_rfl) ?_
    refine o_s (.pointer (some ⟨b2, 2, none⟩)) rfl (by kernel_rfl) ?_
    refine o_qs rfl rfl (qs_ldpt encV fitv3 rfl 0 rfl (.int .i64 r0.W) (Nat.le_of_ble_eq_true rfl) rfl) ?_
    refine o_s (.pointer (some ⟨b2, 3, none⟩)) rfl (by kernel_rfl) ?_
    refine o_qs rfl rfl (qs_ldpt encV fitv3 rfl 0 rfl (.int .i64 r0.H) (Nat.le_of_ble_eq_true rfl) rfl) ?_
    refine o_s (.int .i64 (mulI r0.W r0.H)) rfl (by kernel_rfl) ?_
    refine o_f ?_ ?_
    · skip
      refine o_mkS (zs := [.int .i64 0]) hl1 rfl rfl (PH.le_refl _) elem75 (by kernel_rfl) rfl rfl rfl (fun b7 cp5 => ?_)
      refine o_s (.slice (some ⟨b7, 0, none⟩) l1.length cp5) rfl (by kernel_rfl) ?_
      refine o_mkS (zs := [.int .i64 0]) hl1 rfl rfl (PH.le_refl _) elem75 (by kernel_rfl) rfl rfl rfl (fun b8 cp6 => ?_)
      refine o_s (.slice (some ⟨b8, 0, none⟩) l1.length cp6) rfl (by kernel_rfl) ?_
      refine o_nil ?_
      refine e_perm (fr1_perm 2 _) ?_
      refine e_perm (fr1_perm 2 _) ?_
      refine e_perm (fr1_perm 2 _) ?_
      exact e_cut ⟨b8, b7, cp6, cp5, ⟨rfl, rfl, rfl, rfl, rfl, trivial⟩, rfl, rfl⟩
    refine o_mkS (zs := [.int .i64 0]) hl1 rfl rfl (PH.le_refl _) elem75 (by kernel_rfl) rfl rfl rfl (fun b9 cp7 => ?_)
    refine o_mkS (zs := [.int .i64 0]) hl1 rfl rfl (PH.le_refl _) elem75 (by kernel_rfl) rfl rfl rfl (fun b10 cp8 => ?_)
    refine o_s (.slice (some ⟨b10, 0, none⟩) l1.length cp8) rfl (by kernel_rfl) ?_
    refine o_s (.slice (some ⟨b9, 0, none⟩) l1.length cp7) rfl (by kernel_rfl) ?_
    refine o_nil ?_
    refine e_perm (fr1_perm 1 _) ?_
    refine e_perm (fr1_perm 2 _) ?_
    refine e_perm (fr1_perm 2 _) ?_
    exact e_cut ⟨b9, b10, cp7, cp8, ⟨rfl, rfl, rfl, rfl, rfl, trivial⟩, rfl, rfl⟩
  · skip
    rintro φ1 _ As1 ⟨b5, b6, cp3, cp4, hI1, rfl, hA⟩
    subst As1
    refine e_frame _ hI1 ?_
    refine e_then ?_
    refine c_seq ?_
    refine c_seq ?_
    refine c_quiet ?_
    refine ql_s (.slice (some ⟨b6, 0, none⟩) l1.length cp4) (by kernel_rfl) ?_
    refine ql_s (.int .i64 (l1.length : Int)) (by kernel_rfl) ?_
    refine ql_s (.int .i64 0) (by kernel_rfl) ?_
    refine ql_nil ?_
    refine e_then ?_
    refine c_perm (fr1_perm 1 _) ?_
    refine c_adr (fun b11 hb1 hl2 hbd1 hcap1 => ?_)
    have hb0 : (l1.length : Int) ≤ 4611686018427387904 := by have h1 := (rfl : l1.length = l1.length); have h2 := hbd1; omega
    have hm0 : l1.length = (l1.length : Int).toNat := (Int.toNat_natCast _).symm
    have hm1 := hm0; have hb2 := hb0; clear hm0 hb0
    obtain ⟨x1, hs1, hp⟩ := bnd_some hp
    obtain ⟨body1, hbody1, hs1⟩ := forS_gen hs1
    refine c_cut_end (fun φ1 D1 As1 => Is φ1 [(1, .slice way0_v1a way0.length way0_v1c), (2, .int .i64 far0), (3, .pointer (some ⟨b2, 0, none⟩)), (6, .slice (some ⟨b6, 0, none⟩) l1.length cp4), (7, .slice (some ⟨b5, 0, none⟩) l1.length cp3)] ∧ PH.le D D1 ∧ As1 = OwnS D1 (encI .i64) 3 (.slice (some ⟨b5, 0, none⟩) l1.length cp3) l1 :: pt b2 [.int .i64 r0.X, .int .i64 r0.Y, .int .i64 r0.W, .int .i64 r0.H] 23 :: OwnS D1 (encI .i64) 3 (.slice (some ⟨b6, 0, none⟩) l1.length cp4) x1 :: F) ?_ ?_
    · skip
      refine c_block ?_
      refine c_perm (fr1_perm 2 _) ?_
      refine c_perm (fr1_perm 2 _) ?_
      refine c_perm (fr1_perm 2 _) ?_
      refine c_loop (fun k φ1 D2 As1 => ∃ (j1 i1 : Nat) (s1 : (List Int)), k = j1 + 1 ∧ i1 + j1 = l1.length ∧ Is φ1 [(1, .slice way0_v1a way0.length way0_v1c), (2, .int .i64 far0), (3, .pointer (some ⟨b2, 0, none⟩)), (6, .slice (some ⟨b6, 0, none⟩) l1.length cp4), (7, .slice (some ⟨b5, 0, none⟩) l1.length cp3), (28, .int .i64 (l1.length : Int)), (29, .int .i64 (i1 : Int))] ∧ PH.le D D2 ∧ As1 = OwnS D2 (encI .i64) 3 (.slice (some ⟨b5, 0, none⟩) l1.length cp3) l1 :: pt b2 [.int .i64 r0.X, .int .i64 r0.Y, .int .i64 r0.W, .int .i64 r0.H] 23 :: OwnS D2 (encI .i64) 3 (.slice (some ⟨b6, 0, none⟩) l1.length cp4) s1 :: F ∧ forS body1 j1 i1 s1 = some x1) ⟨l1.length + 1, l1.length, 0, l1, rfl, Nat.zero_add _, ⟨rfl, rfl, rfl, rfl, rfl, rfl, rfl, trivial⟩, (PH.le_refl _), rfl, hs1⟩ ?_ ?_
      · rintro _ _ _ ⟨_, _, _, h0, _⟩; omega
      intro k1
      rintro φ2 D2 As2 ⟨j1, i1, s1, hk1, hij1, hI2, hD1, hA1, hs2⟩
      subst As2
      replace way0_h1 := way0_h1.mono hD1
      refine c_frame _ hI2 ?_
      obtain rfl : k1 = j1 := by omega
      clear hk1
      rcases k1 with _ | j1
      · skip
        refine c_seq ?_
        refine c_quiet ?_
        refine ql_s (.bool (decide ((i1 : Int) < (l1.length : Int)))) (by kernel_rfl) ?_
        refine ql_nil ?_
        refine e_then ?_
        refine c_seq ?_
        refine c_cond (decide ((i1 : Int) < (l1.length : Int))) rfl (fun ht1 => absurd ((dec_lt_f hm1 (by omega)).symm.trans ht1) (by simp)) (fun _ => ?_)
        refine c_exit ?_
        refine e_then_exit ?_
        refine e_then_exit ?_
        obtain rfl := Option.some.inj hs2
        refine e_blk_exit ?_
        refine e_perm (fr1_perm 2 _) ?_
        refine e_perm (fr1_perm 2 _) ?_
        refine e_perm (fr1_perm 2 _) ?_
        exact e_cut ⟨⟨rfl, rfl, rfl, rfl, rfl, trivial⟩, hD1, rfl⟩
      · skip
        obtain ⟨y1, hx1, hs2⟩ := forS_some hs2
        replace hx1 := (congrFun (congrFun hbody1 i1) s1).trans hx1
        refine c_seq ?_
        refine c_quiet ?_
        refine ql_s (.bool (decide ((i1 : Int) < (l1.length : Int)))) (by kernel_rfl) ?_
        refine ql_nil ?_
        refine e_then ?_
        refine c_seq ?_
        refine c_cond (decide ((i1 : Int) < (l1.length : Int))) rfl (fun _ => ?_) (fun ht2 => absurd ((dec_lt_t hm1 (by omega)).symm.trans ht2) (by simp))
        refine c_skip ?_
        refine e_then ?_
        refine c_seq ?_
        refine c_block ?_
        refine c_seq ?_
        refine c_quiet ?_
        refine ql_s (.int .i64 (i1 : Int)) (by kernel_rfl) ?_
        refine ql_s (.int .i64 (i1 : Int)) (by kernel_rfl) ?_
        refine ql_nil ?_
        refine e_then ?_
        obtain ⟨x2, hx2, hx1⟩ := bnd_some hx1
        obtain ⟨l2, hl3, hx1⟩ := bnd_some hx1
        replace hl3 := Option.some.inj hl3
        refine c_perm (fr1_perm 2 _) ?_
        refine c_adr (fun b12 hb3 hl4 hbd2 hcap2 => ?_)
        refine c_region ?_
        refine l_s (.slice (some ⟨b6, 0, none⟩) l1.length cp4) (by kernel_rfl) ?_
        refine l_s (.int .i64 (i1 : Int)) (by kernel_rfl) ?_
        refine l_q rfl (qs_idx (IsIdx.beg (e := encI .i64) hb3 hl4 hx2) Try.underlying75 fit3 rfl rfl) ?_
        refine l_stS (vs := [.int .i64 (-1)]) hb3 hl4 hl3 rfl fit3 rfl rfl rfl rfl (idx_some hx2).2.1 ?_
        refine l_nil ?_
        refine e_blk ?_
        refine e_then ?_
        refine c_quiet ?_
        refine ql_s (.int .i64 (addI (i1 : Int) 1)) (by kernel_rfl) ?_
        refine ql_s (.int .i64 (addI (i1 : Int) 1)) (by kernel_rfl) ?_
        refine ql_nil ?_
        refine e_perm (fr1_perm 2 _) ?_
        refine e_perm (fr1_perm 2 _) ?_
        obtain rfl := Option.some.inj hx1
        exact e_cut ⟨j1, i1 + 1, l2, by omega, by omega, ⟨rfl, rfl, rfl, rfl, rfl, rfl, (congrArg (Value.int .i64) (addI_succ (by omega))), trivial⟩, hD1, rfl, hs2⟩
    · skip
      rintro φ3 D1 As3 ⟨hI3, hD2, hA2⟩
      subst As3
      replace way0_h1 := way0_h1.mono hD2
      refine e_frame _ hI3 ?_
      refine e_then ?_
      refine c_seq ?_
      refine c_seq ?_
      refine c_quiet ?_
      refine ql_s (.slice way0_v1a way0.length way0_v1c) (by kernel_rfl) ?_
      refine ql_s (.int .i64 (way0.length : Int)) (by kernel_rfl) ?_
      refine ql_s (.int .i64 0) (by kernel_rfl) ?_
      refine ql_nil ?_
      refine e_then ?_
      have hb0 : (way0.length : Int) ≤ 4611686018427387904 := by have := RO.bound way0_h1; omega
      have hm0 : way0.length = (way0.length : Int).toNat := by omega
      have hm2 := hm0; have hb4 := hb0; clear hm0 hb0
      obtain ⟨x3, hs3, hp⟩ := bnd_some hp
      obtain ⟨body2, hbody2, hs3⟩ := forS_gen hs3
      refine c_cut_end (fun φ1 D3 As1 => Is φ1 [(6, .slice (some ⟨b6, 0, none⟩) l1.length cp4), (7, .slice (some ⟨b5, 0, none⟩) l1.length cp3)] ∧ PH.le D1 D3 ∧ As1 = OwnS D3 (encI .i64) 3 (.slice (some ⟨b5, 0, none⟩) l1.length cp3) x3.1 :: pt b2 [.int .i64 r0.X, .int .i64 r0.Y, .int .i64 r0.W, .int .i64 r0.H] 23 :: OwnS D3 (encI .i64) 3 (.slice (some ⟨b6, 0, none⟩) l1.length cp4) x3.2 :: F) ?_ ?_
      · skip
        refine c_block ?_
        refine c_perm (fr1_perm 2 _) ?_
        refine c_perm (fr1_perm 2 _) ?_
        refine c_perm (fr1_perm 2 _) ?_
        refine c_loop (fun k φ1 D4 As1 => ∃ (j2 i2 : Nat) (s2 : (List Int) × (List Int)), k = j2 + 1 ∧ i2 + j2 = way0.length ∧ Is φ1 [(2, .int .i64 far0), (3, .pointer (some ⟨b2, 0, none⟩)), (6, .slice (some ⟨b6, 0, none⟩) l1.length cp4), (7, .slice (some ⟨b5, 0, none⟩) l1.length cp3), (36, .slice way0_v1a way0.length way0_v1c), (37, .int .i64 (way0.length : Int)), (38, .int .i64 (i2 : Int))] ∧ PH.le D1 D4 ∧ As1 = OwnS D4 (encI .i64) 3 (.slice (some ⟨b5, 0, none⟩) l1.length cp3) s2.1 :: pt b2 [.int .i64 r0.X, .int .i64 r0.Y, .int .i64 r0.W, .int .i64 r0.H] 23 :: OwnS D4 (encI .i64) 3 (.slice (some ⟨b6, 0, none⟩) l1.length cp4) s2.2 :: F ∧ forS body2 j2 i2 s2 = some x3) ⟨way0.length + 1, way0.length, 0, (l1, x1), rfl, Nat.zero_add _, ⟨rfl, rfl, rfl, rfl, rfl, rfl, rfl, trivial⟩, (PH.le_refl _), rfl, hs3⟩ ?_ ?_
        · rintro _ _ _ ⟨_, _, _, h0, _⟩; omega
        intro k2
        rintro φ4 D4 As4 ⟨j2, i2, s2, hk2, hij2, hI4, hD3, hA3, hs4⟩
        subst As4
        replace way0_h1 := way0_h1.mono hD3
        refine c_frame _ hI4 ?_
        obtain rfl : k2 = j2 := by omega
        clear hk2
        rcases k2 with _ | j2
        · skip
          refine c_seq ?_
          refine c_quiet ?_
          refine ql_s (.bool (decide ((i2 : Int) < (way0.length : Int)))) (by kernel_rfl) ?_
          refine ql_nil ?_
          refine e_then ?_
          refine c_seq ?_
          refine c_cond (decide ((i2 : Int) < (way0.length : Int))) rfl (fun ht3 => absurd ((dec_lt_f hm2 (by omega)).symm.trans ht3) (by simp)) (fun _ => ?_)
          refine c_exit ?_
          refine e_then_exit ?_
          refine e_then_exit ?_
          obtain rfl := Option.some.inj hs4
          refine e_blk_exit ?_
          refine e_perm (fr1_perm 2 _) ?_
          refine e_perm (fr1_perm 2 _) ?_
          refine e_perm (fr1_perm 2 _) ?_
          exact e_cut ⟨⟨rfl, rfl, trivial⟩, hD3, rfl⟩
        · skip
          obtain ⟨y2, hx3, hs4⟩ := forS_some hs4
          replace hx3 := (congrFun (congrFun hbody2 i2) s2).trans hx3
          refine c_seq ?_
          refine c_quiet ?_
          refine ql_s (.bool (decide ((i2 : Int) < (way0.length : Int)))) (by kernel_rfl) ?_
          refine ql_nil ?_
          refine e_then ?_
          refine c_seq ?_
          refine c_cond (decide ((i2 : Int) < (way0.length : Int))) rfl (fun _ => ?_) (fun ht4 => absurd ((dec_lt_t hm2 (by omega)).symm.trans ht4) (by simp))
          refine c_skip ?_
          refine e_then ?_
          refine c_seq ?_
          refine c_block ?_
          refine c_seq ?_
          obtain ⟨x4, hx4, hx3⟩ := bnd_some hx3
          obtain ⟨b13, o1, h1, hq1⟩ := RO.at way0_h1 hx4
          obtain ⟨cs1, hc1, ha1⟩ := h1.cells
          obtain rfl := hc1
          refine c_region ?_
          refine l_s (.int .i64 (i2 : Int)) (by kernel_rfl) ?_
          refine l_q rfl (qs_idx hq1 Try.underlying27 fit71 rfl rfl) ?_
          refine l_q rfl (qs_ldC fit71 rfl ha1 rfl (.agg #[.int .i64 x4.X, .int .i64 x4.Y]) rfl) ?_
          refine l_alloc (zs := [.int .i64 0, .int .i64 0]) rfl (by kernel_rfl) (fun b15 => ?_)
          refine l_s (.int .i64 (i2 : Int)) (by kernel_rfl) ?_
          refine l_store (dd := none) (vs := [.int .i64 x4.X, .int .i64 x4.Y]) (cs' := [.int .i64 x4.X, .int .i64 x4.Y]) rfl (by kernel_rfl) (by kernel_rfl) rfl rfl (Nat.le_of_ble_eq_true rfl) rfl rfl ?_
          refine l_nil ?_
          refine e_then ?_
          refine c_seq ?_
          obtain ⟨y_1, hy_1, hx3⟩ := bnd_some hx3
          replace hy_1 := Option.some.inj hy_1
          refine c_quiet ?_
          refine ql_s (.pointer (some ⟨b15, 1, none⟩)) (by kernel_rfl) ?_
          refine ql_q rfl (qs_ldpt encV fitv3 rfl 0 rfl (.int .i64 x4.Y) (Nat.le_of_ble_eq_true rfl) rfl) ?_
          refine ql_s (.int .i64 far0) (by kernel_rfl) ?_
          refine ql_s (.int .i64 (subI x4.Y far0)) (by kernel_rfl) ?_
          refine ql_s (.pointer (some ⟨b2, 1, none⟩)) (by kernel_rfl) ?_
          refine ql_q rfl (qs_ldpt encV fitv3 rfl 2 rfl (.int .i64 r0.Y) (Nat.le_of_ble_eq_true rfl) rfl) ?_
          refine ql_q rfl (qs_max rfl) ?_
          refine ql_s (.int .i64 y_1) (congrArg (fun z => some (Value.int .i64 z)) hy_1) ?_
          refine ql_nil ?_
          refine e_then ?_
          obtain ⟨x5, hs5, hx3⟩ := bnd_some hx3
          obtain ⟨body3, hbody3, hs5⟩ := loopP_gen hs5
          refine c_cut_end (fun φ1 D5 As1 => Is φ1 [(2, .int .i64 far0), (3, .pointer (some ⟨b2, 0, none⟩)), (6, .slice (some ⟨b6, 0, none⟩) l1.length cp4), (7, .slice (some ⟨b5, 0, none⟩) l1.length cp3), (36, .slice way0_v1a way0.length way0_v1c), (37, .int .i64 (way0.length : Int)), (38, .int .i64 (i2 : Int))] ∧ PH.le D4 D5 ∧ As1 = pt b15 [.int .i64 x4.X, .int .i64 x4.Y] 71 :: OwnS D5 (encI .i64) 3 (.slice (some ⟨b5, 0, none⟩) l1.length cp3) x5.1 :: pt b2 [.int .i64 r0.X, .int .i64 r0.Y, .int .i64 r0.W, .int .i64 r0.H] 23 :: OwnS D5 (encI .i64) 3 (.slice (some ⟨b6, 0, none⟩) l1.length cp4) x5.2 :: F) ?_ ?_
          · skip
            refine c_block ?_
            refine c_perm (fr1_perm 3 _) ?_
            refine c_perm (fr1_perm 3 _) ?_
            refine c_perm (fr1_perm 3 _) ?_
            refine c_perm (fr1_perm 3 _) ?_
            obtain ⟨kz1, hs5⟩ := loopP_ex hs5
            refine c_loop (fun k φ1 D6 As1 => ∃ (s3 : Int × (List Int) × (List Int)), Is φ1 [(2, .int .i64 far0), (3, .pointer (some ⟨b2, 0, none⟩)), (6, .slice (some ⟨b6, 0, none⟩) l1.length cp4), (7, .slice (some ⟨b5, 0, none⟩) l1.length cp3), (9, .int .i64 (i2 : Int)), (10, .pointer (some ⟨b15, 0, none⟩)), (11, .int .i64 s3.1), (36, .slice way0_v1a way0.length way0_v1c), (37, .int .i64 (way0.length : Int)), (38, .int .i64 (i2 : Int))] ∧ PH.le D4 D6 ∧ As1 = pt b15 [.int .i64 x4.X, .int .i64 x4.Y] 71 :: OwnS D6 (encI .i64) 3 (.slice (some ⟨b5, 0, none⟩) l1.length cp3) s3.2.1 :: pt b2 [.int .i64 r0.X, .int .i64 r0.Y, .int .i64 r0.W, .int .i64 r0.H] 23 :: OwnS D6 (encI .i64) 3 (.slice (some ⟨b6, 0, none⟩) l1.length cp4) s3.2.2 :: F ∧ iter body3 k s3 = some x5) ⟨kz1, (y_1, s2.1, s2.2), ⟨rfl, rfl, rfl, rfl, rfl, rfl, rfl, rfl, rfl, rfl, trivial⟩, (PH.le_refl _), rfl, hs5⟩ ?_ ?_
            · rintro _ _ _ ⟨_, _, _, _, h0⟩; cases h0
            intro k3
            rintro φ5 D6 As5 ⟨s3, hI5, hD4, hA4, hs6⟩
            subst As5
            replace way0_h1 := way0_h1.mono hD4
            refine c_frame _ hI5 ?_
            obtain ⟨y3, hx5, hs6⟩ := iter_some hs6
            replace hx5 := (congrFun hbody3 s3).trans hx5
            refine c_seq ?_
            refine c_seq ?_
            refine c_quiet ?_
            refine ql_s (.int .i64 s3.1) (by kernel_rfl) ?_
            refine ql_s (.pointer (some ⟨b15, 1, none⟩)) (by kernel_rfl) ?_
            refine ql_q rfl (qs_ldpt encV fitv3 rfl 0 rfl (.int .i64 x4.Y) (Nat.le_of_ble_eq_true rfl) rfl) ?_
            refine ql_s (.int .i64 far0) (by kernel_rfl) ?_
            refine ql_s (.int .i64 (addI x4.Y far0)) (by kernel_rfl) ?_
            refine ql_s (.pointer (some ⟨b2, 1, none⟩)) (by kernel_rfl) ?_
            refine ql_q rfl (qs_ldpt encV fitv3 rfl 2 rfl (.int .i64 r0.Y) (Nat.le_of_ble_eq_true rfl) rfl) ?_
            refine ql_s (.pointer (some ⟨b2, 3, none⟩)) (by kernel_rfl) ?_
            refine ql_q rfl (qs_ldpt encV fitv3 rfl 2 rfl (.int .i64 r0.H) (Nat.le_of_ble_eq_true rfl) rfl) ?_
            refine ql_s (.int .i64 (addI r0.Y r0.H)) (by kernel_rfl) ?_
            refine ql_s (.int .i64 (subI (addI r0.Y r0.H) 1)) (by kernel_rfl) ?_
            refine ql_q rfl (qs_min rfl) ?_
            refine ql_s (.bool (decide (s3.1 ≤ (minI (addI x4.Y far0) (subI (addI r0.Y r0.H) 1))))) (by kernel_rfl) ?_
            refine ql_nil ?_
            refine e_then ?_
            refine c_cond (decide (s3.1 ≤ (minI (addI x4.Y far0) (subI (addI r0.Y r0.H) 1)))) rfl (fun ht5 => ?_) (fun ht5 => ?_)
            · skip
              replace hx5 := if_t ht5 hx5
              refine c_skip ?_
              refine e_then ?_
              refine c_seq ?_
              refine c_block ?_
              refine c_seq ?_
              obtain ⟨x_1, hx_1, hx5⟩ := bnd_some hx5
              replace hx_1 := Option.some.inj hx_1
              refine c_quiet ?_
              refine ql_s (.pointer (some ⟨b15, 0, none⟩)) (by kernel_rfl) ?_
              refine ql_q rfl (qs_ldpt encV fitv3 rfl 0 rfl (.int .i64 x4.X) (Nat.le_of_ble_eq_true rfl) rfl) ?_
              refine ql_s (.int .i64 far0) (by kernel_rfl) ?_
              refine ql_s (.int .i64 (subI x4.X far0)) (by kernel_rfl) ?_
              refine ql_s (.pointer (some ⟨b2, 0, none⟩)) (by kernel_rfl) ?_
              refine ql_q rfl (qs_ldpt encV fitv3 rfl 2 rfl (.int .i64 r0.X) (Nat.le_of_ble_eq_true rfl) rfl) ?_
              refine ql_q rfl (qs_max rfl) ?_
              refine ql_s (.int .i64 x_1) (congrArg (fun z => some (Value.int .i64 z)) hx_1) ?_
              refine ql_nil ?_
              refine e_then ?_
              obtain ⟨x6, hs7, hx5⟩ := bnd_some hx5
              obtain ⟨body4, hbody4, hs7⟩ := loopP_gen hs7
              refine c_cut_end (fun φ1 D7 As1 => Is φ1 [(2, .int .i64 far0), (3, .pointer (some ⟨b2, 0, none⟩)), (6, .slice (some ⟨b6, 0, none⟩) l1.length cp4), (7, .slice (some ⟨b5, 0, none⟩) l1.length cp3), (9, .int .i64 (i2 : Int)), (10, .pointer (some ⟨b15, 0, none⟩)), (11, .int .i64 s3.1), (36, .slice way0_v1a way0.length way0_v1c), (37, .int .i64 (way0.length : Int)), (38, .int .i64 (i2 : Int))] ∧ PH.le D6 D7 ∧ As1 = pt b15 [.int .i64 x4.X, .int .i64 x4.Y] 71 :: OwnS D7 (encI .i64) 3 (.slice (some ⟨b5, 0, none⟩) l1.length cp3) x6.1 :: pt b2 [.int .i64 r0.X, .int .i64 r0.Y, .int .i64 r0.W, .int .i64 r0.H] 23 :: OwnS D7 (encI .i64) 3 (.slice (some ⟨b6, 0, none⟩) l1.length cp4) x6.2 :: F) ?_ ?_
              · skip
                refine c_block ?_
                refine c_perm (fr1_perm 3 _) ?_
                refine c_perm (fr1_perm 3 _) ?_
                refine c_perm (fr1_perm 3 _) ?_
                refine c_perm (fr1_perm 3 _) ?_
                obtain ⟨kz2, hs7⟩ := loopP_ex hs7
                refine c_loop (fun k φ1 D8 As1 => ∃ (s4 : Int × (List Int) × (List Int)), Is φ1 [(2, .int .i64 far0), (3, .pointer (some ⟨b2, 0, none⟩)), (6, .slice (some ⟨b6, 0, none⟩) l1.length cp4), (7, .slice (some ⟨b5, 0, none⟩) l1.length cp3), (9, .int .i64 (i2 : Int)), (10, .pointer (some ⟨b15, 0, none⟩)), (11, .int .i64 s3.1), (12, .int .i64 s4.1), (36, .slice way0_v1a way0.length way0_v1c), (37, .int .i64 (way0.length : Int)), (38, .int .i64 (i2 : Int))] ∧ PH.le D6 D8 ∧ As1 = pt b15 [.int .i64 x4.X, .int .i64 x4.Y] 71 :: OwnS D8 (encI .i64) 3 (.slice (some ⟨b5, 0, none⟩) l1.length cp3) s4.2.1 :: pt b2 [.int .i64 r0.X, .int .i64 r0.Y, .int .i64 r0.W, .int .i64 r0.H] 23 :: OwnS D8 (encI .i64) 3 (.slice (some ⟨b6, 0, none⟩) l1.length cp4) s4.2.2 :: F ∧ iter body4 k s4 = some x6) ⟨kz2, (x_1, s3.2.1, s3.2.2), ⟨rfl, rfl, rfl, rfl, rfl, rfl, rfl, rfl, rfl, rfl, rfl, trivial⟩, (PH.le_refl _), rfl, hs7⟩ ?_ ?_
                · rintro _ _ _ ⟨_, _, _, _, h0⟩; cases h0
                intro k4
                rintro φ6 D8 As6 ⟨s4, hI6, hD5, hA5, hs8⟩
                subst As6
                replace way0_h1 := way0_h1.mono hD5
                refine c_frame _ hI6 ?_
                obtain ⟨y4, hx6, hs8⟩ := iter_some hs8
                replace hx6 := (congrFun hbody4 s4).trans hx6
                refine c_seq ?_
                refine c_seq ?_
                refine c_quiet ?_
                refine ql_s (.int .i64 s4.1) (by kernel_rfl) ?_
                refine ql_s (.pointer (some ⟨b15, 0, none⟩)) (by kernel_rfl) ?_
                refine ql_q rfl (qs_ldpt encV fitv3 rfl 0 rfl (.int .i64 x4.X) (Nat.le_of_ble_eq_true rfl) rfl) ?_
                refine ql_s (.int .i64 far0) (by kernel_rfl) ?_
                refine ql_s (.int .i64 (addI x4.X far0)) (by kernel_rfl) ?_
                refine ql_s (.pointer (some ⟨b2, 0, none⟩)) (by kernel_rfl) ?_
                refine ql_q rfl (qs_ldpt encV fitv3 rfl 2 rfl (.int .i64 r0.X) (Nat.le_of_ble_eq_true rfl) rfl) ?_
                refine ql_s (.pointer (some ⟨b2, 2, none⟩)) (by kernel_rfl) ?_
                refine ql_q rfl (qs_ldpt encV fitv3 rfl 2 rfl (.int .i64 r0.W) (Nat.le_of_ble_eq_true rfl) rfl) ?_
                refine ql_s (.int .i64 (addI r0.X r0.W)) (by kernel_rfl) ?_
                refine ql_s (.int .i64 (subI (addI r0.X r0.W) 1)) (by kernel_rfl) ?_
                refine ql_q rfl (qs_min rfl) ?_
                refine ql_s (.bool (decide (s4.1 ≤ (minI (addI x4.X far0) (subI (addI r0.X r0.W) 1))))) (by kernel_rfl) ?_
                refine ql_nil ?_
                refine e_then ?_
                refine c_cond (decide (s4.1 ≤ (minI (addI x4.X far0) (subI (addI r0.X r0.W) 1)))) rfl (fun ht6 => ?_) (fun ht6 => ?_)
                · skip
                  replace hx6 := if_t ht6 hx6
                  refine c_skip ?_
                  refine e_then ?_
                  refine c_seq ?_
                  obtain ⟨s5, hs9, hx6⟩ := bnd_some hx6
                  refine c_cut_end (fun φ1 D9 As1 => Is φ1 [(2, .int .i64 far0), (3, .pointer (some ⟨b2, 0, none⟩)), (6, .slice (some ⟨b6, 0, none⟩) l1.length cp4), (7, .slice (some ⟨b5, 0, none⟩) l1.length cp3), (9, .int .i64 (i2 : Int)), (10, .pointer (some ⟨b15, 0, none⟩)), (11, .int .i64 s3.1), (12, .int .i64 s4.1), (36, .slice way0_v1a way0.length way0_v1c), (37, .int .i64 (way0.length : Int)), (38, .int .i64 (i2 : Int))] ∧ PH.le D8 D9 ∧ As1 = pt b15 [.int .i64 x4.X, .int .i64 x4.Y] 71 :: OwnS D9 (encI .i64) 3 (.slice (some ⟨b5, 0, none⟩) l1.length cp3) s5.1 :: pt b2 [.int .i64 r0.X, .int .i64 r0.Y, .int .i64 r0.W, .int .i64 r0.H] 23 :: OwnS D9 (encI .i64) 3 (.slice (some ⟨b6, 0, none⟩) l1.length cp4) s5.2 :: F) ?_ ?_
                  · skip
                    refine c_block ?_
                    refine c_seq ?_
                    obtain ⟨k_1, hk_1, hs9⟩ := bnd_some hs9
                    replace hk_1 := Option.some.inj hk_1
                    obtain ⟨d_1, hd_1, hs9⟩ := bnd_some hs9
                    replace hd_1 := Option.some.inj hd_1
                    refine c_quiet_draw hmix (by kernel_rfl) ?_
                    refine ql_s (.int .i64 s3.1) (by kernel_rfl) ?_
                    refine ql_s (.pointer (some ⟨b2, 1, none⟩)) (by kernel_rfl) ?_
                    refine ql_q rfl (qs_ldpt encV fitv3 rfl 2 rfl (.int .i64 r0.Y) (Nat.le_of_ble_eq_true rfl) rfl) ?_
                    refine ql_s (.int .i64 (subI s3.1 r0.Y)) (by kernel_rfl) ?_
                    refine ql_s (.pointer (some ⟨b2, 2, none⟩)) (by kernel_rfl) ?_
                    refine ql_q rfl (qs_ldpt encV fitv3 rfl 2 rfl (.int .i64 r0.W) (Nat.le_of_ble_eq_true rfl) rfl) ?_
                    refine ql_s (.int .i64 (mulI (subI s3.1 r0.Y) r0.W)) (by kernel_rfl) ?_
                    refine ql_s (.int .i64 s4.1) (by kernel_rfl) ?_
                    refine ql_s (.int .i64 (addI (mulI (subI s3.1 r0.Y) r0.W) s4.1)) (by kernel_rfl) ?_
                    refine ql_s (.pointer (some ⟨b2, 0, none⟩)) (by kernel_rfl) ?_
                    refine ql_q rfl (qs_ldpt encV fitv3 rfl 2 rfl (.int .i64 r0.X) (Nat.le_of_ble_eq_true rfl) rfl) ?_
                    refine ql_s (.int .i64 (subI (addI (mulI (subI s3.1 r0.Y) r0.W) s4.1) r0.X)) (by kernel_rfl) ?_
                    refine ql_s (.int .i64 s4.1) (by kernel_rfl) ?_
                    refine ql_s (.pointer (some ⟨b15, 0, none⟩)) (by kernel_rfl) ?_
                    refine ql_q rfl (qs_ldpt encV fitv3 rfl 0 rfl (.int .i64 x4.X) (Nat.le_of_ble_eq_true rfl) rfl) ?_
                    refine ql_s (.int .i64 (subI s4.1 x4.X)) (by kernel_rfl) ?_
                    refine ql_s (.int .i64 s4.1) (by kernel_rfl) ?_
                    refine ql_s (.pointer (some ⟨b15, 0, none⟩)) (by kernel_rfl) ?_
                    refine ql_q rfl (qs_ldpt encV fitv3 rfl 0 rfl (.int .i64 x4.X) (Nat.le_of_ble_eq_true rfl) rfl) ?_
                    refine ql_s (.int .i64 (subI s4.1 x4.X)) (by kernel_rfl) ?_
                    refine ql_s (.int .i64 (mulI (subI s4.1 x4.X) (subI s4.1 x4.X))) (by kernel_rfl) ?_
                    refine ql_s (.int .i64 s3.1) (by kernel_rfl) ?_
                    refine ql_s (.pointer (some ⟨b15, 1, none⟩)) (by kernel_rfl) ?_
                    refine ql_q rfl (qs_ldpt encV fitv3 rfl 0 rfl (.int .i64 x4.Y) (Nat.le_of_ble_eq_true rfl) rfl) ?_
                    refine ql_s (.int .i64 (subI s3.1 x4.Y)) (by kernel_rfl) ?_
                    refine ql_s (.int .i64 s3.1) (by kernel_rfl) ?_
                    refine ql_s (.pointer (some ⟨b15, 1, none⟩)) (by kernel_rfl) ?_
                    refine ql_q rfl (qs_ldpt encV fitv3 rfl 0 rfl (.int .i64 x4.Y) (Nat.le_of_ble_eq_true rfl) rfl) ?_
                    refine ql_s (.int .i64 (subI s3.1 x4.Y)) (by kernel_rfl) ?_
                    refine ql_s (.int .i64 (mulI (subI s3.1 x4.Y) (subI s3.1 x4.Y))) (by kernel_rfl) ?_
                    refine ql_s (.int .i64 (addI (mulI (subI s4.1 x4.X) (subI s4.1 x4.X)) (mulI (subI s3.1 x4.Y) (subI s3.1 x4.Y)))) (by kernel_rfl) ?_
                    refine ql_s (.int .i64 k_1) (congrArg (fun z => some (Value.int .i64 z)) hk_1) ?_
                    refine ql_s (.int .i64 d_1) (congrArg (fun z => some (Value.int .i64 z)) hd_1) ?_
                    refine ql_nil ?_
                    refine e_then ?_
                    refine c_seq ?_
                    refine c_perm (fr1_perm 3 _) ?_
                    refine c_adr (fun b16 hb5 hl5 hbd3 hcap3 => ?_)
                    refine c_perm (fr1_perm 2 _) ?_
                    refine c_adr (fun b17 hb6 hl6 hbd4 hcap4 => ?_)
                    obtain ⟨c1, hc2, hs9⟩ := bnd_some hs9
                    refine c_cutq_end [(2, .int .i64 far0), (3, .pointer (some ⟨b2, 0, none⟩)), (6, .slice (some ⟨b6, 0, none⟩) l1.length cp4), (7, .slice (some ⟨b5, 0, none⟩) l1.length cp3), (9, .int .i64 (i2 : Int)), (10, .pointer (some ⟨b15, 0, none⟩)), (11, .int .i64 s3.1), (12, .int .i64 s4.1), (13, .int .i64 k_1), (14, .int .i64 d_1), (36, .slice way0_v1a way0.length way0_v1c), (37, .int .i64 (way0.length : Int)), (38, .int .i64 (i2 : Int)), (130, .bool c1)] ?_ ?_
                    · skip
                      refine c_quiet ?_
                      refine ql_s (.slice (some ⟨b6, 0, none⟩) l1.length cp4) (by kernel_rfl) ?_
                      refine ql_s (.int .i64 k_1) (by kernel_rfl) ?_
                      obtain ⟨x7, hx7, hc2⟩ := bnd_some hc2
                      refine ql_q rfl (qs_idx (IsIdx.beg (e := encI .i64) hb5 hl5 hx7) Try.underlying75 fit3 rfl rfl) ?_
                      obtain ⟨x8, hx8, hc2⟩ := bnd_some hc2
                      refine ql_q rfl (qs_ldS fit3 hb5 rfl rfl 1 rfl (idx_some hx8).2.2 (v := .int .i64 x8) valI) ?_
                      refine ql_s (.bool (decide (x8 < 0))) (by kernel_rfl) ?_
                      refine ql_s (.bool (decide (x8 < 0))) (by kernel_rfl) ?_
                      refine ql_case 123 (decide (x8 < 0)) rfl (fun hg1 => ?_) (fun hg1 => ?_)
                      · skip
                        replace hc2 := if_t hg1 hc2
                        refine ql_s undef (by kernel_rfl) ?_
                        refine ql_s undef (by kernel_rfl) ?_
                        refine ql_s undef (by kernel_rfl) ?_
                        refine ql_s undef (by kernel_rfl) ?_
                        refine ql_s undef (by kernel_rfl) ?_
                        refine ql_s undef (by kernel_rfl) ?_
                        refine ql_s (.bool true) (by kernel_rfl) ?_
                        refine ql_nil (e_cutq ?_)
                        obtain rfl := Option.some.inj hc2
                        exact ⟨rfl, rfl, rfl, rfl, rfl, rfl, rfl, rfl, rfl, rfl, rfl, rfl, rfl, rfl, trivial⟩
                      · skip
                        replace hc2 := if_f hg1 hc2
                        refine ql_s (.int .i64 d_1) (by kernel_rfl) ?_
                        refine ql_s (.slice (some ⟨b5, 0, none⟩) l1.length cp3) (by kernel_rfl) ?_
                        refine ql_s (.int .i64 k_1) (by kernel_rfl) ?_
                        obtain ⟨x9, hx9, hc2⟩ := bnd_some hc2
                        refine ql_q rfl (qs_idx (IsIdx.beg (e := encI .i64) hb6 hl6 hx9) Try.underlying75 fit3 rfl rfl) ?_
                        obtain ⟨x10, hx10, hc2⟩ := bnd_some hc2
                        refine ql_q rfl (qs_ldS fit3 hb6 rfl rfl 0 rfl (idx_some hx10).2.2 (v := .int .i64 x10) valI) ?_
                        refine ql_s (.bool (decide (d_1 < x10))) (by kernel_rfl) ?_
                        refine ql_s (.bool (decide (d_1 < x10))) (by kernel_rfl) ?_
                        refine ql_nil (e_cutq ?_)
                        obtain rfl := Option.some.inj hc2
                        exact ⟨rfl, rfl, rfl, rfl, rfl, rfl, rfl, rfl, rfl, rfl, rfl, rfl, rfl, rfl, trivial⟩
                    intro _
                    refine e_then ?_
                    refine c_cond (c1) rfl (fun ht7 => ?_) (fun ht7 => ?_)
                    · skip
                      replace hs9 := if_t ht7 hs9
                      obtain ⟨x11, hx11, hs9⟩ := bnd_some hs9
                      obtain ⟨l3, hl7, hs9⟩ := bnd_some hs9
                      replace hl7 := Option.some.inj hl7
                      obtain ⟨x12, hx12, hs9⟩ := bnd_some hs9
                      obtain ⟨l4, hl8, hs9⟩ := bnd_some hs9
                      replace hl8 := Option.some.inj hl8
                      refine c_region ?_
                      refine l_s (.slice (some ⟨b6, 0, none⟩) l1.length cp4) (by kernel_rfl) ?_
                      refine l_s (.int .i64 k_1) (by kernel_rfl) ?_
                      refine l_s (.slice (some ⟨b5, 0, none⟩) l1.length cp3) (by kernel_rfl) ?_
                      refine l_s (.int .i64 k_1) (by kernel_rfl) ?_
                      refine l_s (.int .i64 (i2 : Int)) (by kernel_rfl) ?_
                      refine l_s (.int .i64 d_1) (by kernel_rfl) ?_
                      refine l_q rfl (qs_idx (IsIdx.beg (e := encI .i64) hb5 hl5 hx11) Try.underlying75 fit3 rfl rfl) ?_
                      refine l_perm (fr1_perm 1 _) ?_
                      refine l_stS (vs := [.int .i64 (i2 : Int)]) hb5 hl5 hl7 rfl fit3 rfl rfl rfl rfl (idx_some hx11).2.1 ?_
                      refine l_q rfl (qs_idx (IsIdx.beg (e := encI .i64) hb6 hl6 hx12) Try.underlying75 fit3 rfl rfl) ?_
                      refine l_perm (fr1_perm 1 _) ?_
                      refine l_stS (vs := [.int .i64 d_1]) hb6 hl6 hl8 rfl fit3 rfl rfl rfl rfl (idx_some hx12).2.1 ?_
                      refine l_nil ?_
                      refine e_blk ?_
                      refine e_perm (fr1_perm 1 _) ?_
                      refine e_perm (fr1_perm 3 _) ?_
                      refine e_perm (fr1_perm 2 _) ?_
                      refine e_perm (fr1_perm 3 _) ?_
                      obtain rfl := Option.some.inj hs9
                      exact e_cut ⟨⟨rfl, rfl, rfl, rfl, rfl, rfl, rfl, rfl, rfl, rfl, rfl, trivial⟩, (PH.le_refl _), rfl⟩
                    · skip
                      replace hs9 := if_f ht7 hs9
                      refine c_skip ?_
                      refine e_blk ?_
                      refine e_perm (fr1_perm 1 _) ?_
                      refine e_perm (fr1_perm 3 _) ?_
                      refine e_perm (fr1_perm 2 _) ?_
                      refine e_perm (fr1_perm 3 _) ?_
                      obtain rfl := Option.some.inj hs9
                      exact e_cut ⟨⟨rfl, rfl, rfl, rfl, rfl, rfl, rfl, rfl, rfl, rfl, rfl, trivial⟩, (PH.le_refl _), rfl⟩
                  · skip
                    rintro φ7 D9 As7 ⟨hI7, hD6, hA6⟩
                    subst As7
                    replace way0_h1 := way0_h1.mono hD6
                    refine e_frame _ hI7 ?_
                    refine e_then ?_
                    refine c_quiet ?_
                    refine ql_s (.int .i64 s4.1) (by kernel_rfl) ?_
                    refine ql_s (.int .i64 (addI s4.1 1)) (by kernel_rfl) ?_
                    refine ql_s (.int .i64 (addI s4.1 1)) (by kernel_rfl) ?_
                    refine ql_nil ?_
                    refine e_perm (fr1_perm 3 _) ?_
                    refine e_perm (fr1_perm 3 _) ?_
                    refine e_perm (fr1_perm 3 _) ?_
                    refine e_perm (fr1_perm 3 _) ?_
                    obtain rfl := Option.some.inj hx6
                    exact e_cut ⟨(addI s4.1 1, s5.1, s5.2), ⟨rfl, rfl, rfl, rfl, rfl, rfl, rfl, rfl, rfl, rfl, rfl, trivial⟩, (PH.le_trans hD5 hD6), rfl, hs8⟩
                · skip
                  replace hx6 := if_f ht6 hx6
                  refine c_exit ?_
                  refine e_then_exit ?_
                  refine e_then_exit ?_
                  obtain rfl := Option.some.inj hx6
                  obtain rfl := hs8
                  refine e_blk_exit ?_
                  refine e_perm (fr1_perm 3 _) ?_
                  refine e_perm (fr1_perm 3 _) ?_
                  refine e_perm (fr1_perm 3 _) ?_
                  refine e_perm (fr1_perm 3 _) ?_
                  exact e_cut ⟨⟨rfl, rfl, rfl, rfl, rfl, rfl, rfl, rfl, rfl, rfl, trivial⟩, hD5, rfl⟩
              · skip
                rintro φ8 D7 As8 ⟨hI8, hD7, hA7⟩
                subst As8
                replace way0_h1 := way0_h1.mono hD7
                refine e_frame _ hI8 ?_
                refine e_blk ?_
                refine e_then ?_
                refine c_quiet ?_
                refine ql_s (.int .i64 s3.1) (by kernel_rfl) ?_
                refine ql_s (.int .i64 (addI s3.1 1)) (by kernel_rfl) ?_
                refine ql_s (.int .i64 (addI s3.1 1)) (by kernel_rfl) ?_
                refine ql_nil ?_
                refine e_perm (fr1_perm 3 _) ?_
                refine e_perm (fr1_perm 3 _) ?_
                refine e_perm (fr1_perm 3 _) ?_
                refine e_perm (fr1_perm 3 _) ?_
                obtain rfl := Option.some.inj hx5
                exact e_cut ⟨(addI s3.1 1, x6.1, x6.2), ⟨rfl, rfl, rfl, rfl, rfl, rfl, rfl, rfl, rfl, rfl, trivial⟩, (PH.le_trans hD4 hD7), rfl, hs6⟩
            · skip
              replace hx5 := if_f ht5 hx5
              refine c_exit ?_
              refine e_then_exit ?_
              refine e_then_exit ?_
              obtain rfl := Option.some.inj hx5
              obtain rfl := hs6
              refine e_blk_exit ?_
              refine e_perm (fr1_perm 3 _) ?_
              refine e_perm (fr1_perm 3 _) ?_
              refine e_perm (fr1_perm 3 _) ?_
              refine e_perm (fr1_perm 3 _) ?_
              exact e_cut ⟨⟨rfl, rfl, rfl, rfl, rfl, rfl, rfl, trivial⟩, hD4, rfl⟩
          · skip
            rintro φ9 D5 As9 ⟨hI9, hD8, hA8⟩
            subst As9
            replace way0_h1 := way0_h1.mono hD8
            refine e_frame _ hI9 ?_
            refine e_blk ?_
            refine e_then ?_
            refine c_quiet ?_
            refine ql_s (.int .i64 (addI (i2 : Int) 1)) (by kernel_rfl) ?_
            refine ql_s (.int .i64 (addI (i2 : Int) 1)) (by kernel_rfl) ?_
            refine ql_nil ?_
            refine e_drop ?_
            refine e_perm (fr1_perm 2 _) ?_
            refine e_perm (fr1_perm 2 _) ?_
            refine e_perm (fr1_perm 2 _) ?_
            obtain rfl := Option.some.inj hx3
            exact e_cut ⟨j2, i2 + 1, (x5.1, x5.2), by omega, by omega, ⟨rfl, rfl, rfl, rfl, rfl, rfl, (congrArg (Value.int .i64) (addI_succ (by omega))), trivial⟩, (PH.le_trans hD3 hD8), rfl, hs4⟩
      · skip
        rintro φ10 D3 As10 ⟨hI10, hD9, hA9⟩
        subst As10
        refine e_frame _ hI10 ?_
        refine e_then ?_
        refine c_seq ?_
        refine c_quiet ?_
        refine ql_s (.slice (some ⟨b6, 0, none⟩) l1.length cp4) (by kernel_rfl) ?_
        refine ql_s (.slice (some ⟨b5, 0, none⟩) l1.length cp3) (by kernel_rfl) ?_
        refine ql_s (.slice (some ⟨b6, 0, none⟩) l1.length cp4) (by kernel_rfl) ?_
        refine ql_s (.slice (some ⟨b5, 0, none⟩) l1.length cp3) (by kernel_rfl) ?_
        refine ql_nil ?_
        refine e_perm (fr1_perm 1 _) ?_
        refine e_drop ?_
        refine e_then ?_
        refine c_ret ?_
        refine e_perm (fr1_perm 1 _) ?_
        refine e_adr (fun b18 hb7 hl9 hbd5 hcap5 => ?_)
        refine e_layS (PH.le_refl _) (fun D10 hle1 h2 => ?_)
        refine e_adr (fun b19 hb8 hl10 hbd6 hcap6 => ?_)
        refine e_layS hle1 (fun D11 hle2 h3 => ?_)
        replace h2 := h2.mono hle2
        obtain rfl := Option.some.inj hp
        exact post_all (vs := [.slice (some ⟨b6, 0, none⟩) l1.length cp4, .slice (some ⟨b5, 0, none⟩) l1.length cp3]) (.tuple #[.slice (some ⟨b6, 0, none⟩) l1.length cp4, .slice (some ⟨b5, 0, none⟩) l1.length cp3]) ⟨rfl, rfl, trivial⟩ rfl (.inl rfl) (fun w hS => ⟨D11, some ⟨b6, 0, none⟩, cp4, some ⟨b5, 0, none⟩, cp3, (PH.le_trans (PH.le_trans (PH.le_trans hD2 hD9) hle1) hle2), (by simp only [hl9, hl10]), (by rw [hl9]; exact h2), (by rw [hl10]; exact h3), (by have h2 : SInv D11 (F) w := hS; simpa only [hl9, hl10] using h2)⟩)

-- slices.Clone[[]float32,float32]
set_option maxRecDepth 100000 in
set_option maxHeartbeats 4000000 in
theorem slices_Clone_float32_float32_s (s0 : List Nat) (s0_v1a : Option Addr) (s0_v1c : Nat) (D : PH) (s0_h1 : RO (encF .f32) D (.slice s0_v1a s0.length s0_v1c) s0) (F : List Assert) (r : (List Nat)) (hp : slices_Clone_float32_float32_p s0 = some r) : ∀ w : World, SInv D (F) w → Calls Try.prog 80 #[.slice s0_v1a s0.length s0_v1c] w (fun e w' => ∃ (D1 : PH) (q_a1 : Option Addr) (q_cp1 : Nat), PH.le D D1 ∧ e = .returned (.slice q_a1 r.length q_cp1) ∧ SInv D1 (OwnS D1 (encF .f32) 40 (.slice q_a1 r.length q_cp1) r :: F) w') := by
  intro w hS
  refine call_intro Try.func80 rfl Try.ntmps80 (Nat.le_of_ble_eq_true rfl) hS ?_
  clear hS w
  unfold slices_Clone_float32_float32_p at hp
  rcases s0_v1a with _ | s0_v1a
  · obtain rfl := RO.nil_eq s0_h1
    replace hp : (some ([] : List Nat)) = some r := hp
    refine c_seq ?_
    refine c_region ?_
    refine l_s (.slice none 0 0) (by kernel_rfl) ?_
    refine l_nilS D (encF .f32) 40 ?_
    refine l_nil ?_
    refine e_drop ?_
    refine e_then ?_
    refine c_seq ?_
    refine c_seq ?_
    refine c_quiet ?_
    refine ql_s (.slice none ([] : List Nat).length s0_v1c) (by kernel_rfl) ?_
    refine ql_q rfl (qs_eqnil Try.underlying24 rfl rfl (.inl rfl) (v := true) rfl) ?_
    refine ql_nil ?_
    refine e_then ?_
    refine c_cond true rfl (fun _ => ?_) (fun h => nomatch h)
    refine c_seq ?_
    refine c_region ?_
    refine l_s (.slice none 0 0) (by kernel_rfl) ?_
    refine l_nilS D (encF .f32) 40 ?_
    refine l_nil ?_
    refine e_then ?_
    refine c_ret ?_
    refine e_then_ret ?_
    obtain rfl := Option.some.inj hp
    exact post_all (vs := [.slice none 0 0]) (.slice none 0 0) ⟨rfl, trivial⟩ rfl (.inl rfl) (fun w hS => ⟨D, none, 0, (PH.le_refl _), rfl, hS⟩)
  refine c_seq ?_
  refine c_region ?_
  refine l_s (.slice none 0 0) (by kernel_rfl) ?_
  refine l_nilS D (encF .f32) 40 ?_
  refine l_nil ?_
  refine e_drop ?_
  refine e_then ?_
  refine c_seq ?_
  refine c_seq ?_
  refine c_quiet ?_
  refine ql_s (.slice (some s0_v1a) s0.length s0_v1c) (by kernel_rfl) ?_
  refine ql_q rfl (qs_eqnil Try.underlying24 rfl rfl (.inl rfl) (v := false) rfl) ?_
  refine ql_nil ?_
  refine e_then ?_
  refine c_cond false rfl (fun h => nomatch h) (fun _ => ?_)
  refine c_skip ?_
  refine e_then ?_
  refine c_seq ?_
  obtain ⟨l1, hl1, hp⟩ := bnd_some hp
  refine c_region ?_
  refine l_bslS (cs := []) (E := 40) (e := encF .f32) ([] : List Nat) rfl (by kernel_rfl) rfl rfl (Nat.le_of_ble_eq_true rfl) trivial (fun b2 cp3 => ?_)
  refine l_s (.slice (some s0_v1a) s0.length s0_v1c) (by kernel_rfl) ?_
  refine l_app hl1 rfl elem24 Try.underlying24 rfl rfl rfl (RO.src s0_h1) (fun a2 cp4 => ?_)
  refine l_s (.slice a2 l1.length cp4) (by kernel_rfl) ?_
  refine l_nil ?_
  refine e_then ?_
  refine c_ret ?_
  obtain rfl := Option.some.inj hp
  exact post_all (vs := [.slice a2 l1.length cp4]) (.slice a2 l1.length cp4) ⟨rfl, trivial⟩ rfl (.inl rfl) (fun w hS => ⟨D, a2, cp4, (PH.le_refl _), rfl, hS⟩)

-- tarnfell/field.Copy
set_option maxRecDepth 100000 in
set_option maxHeartbeats 4000000 in
theorem field_Copy_s (f0 : S_api_Field) (f0_v1a : Option Addr) (f0_v1c : Nat) (D : PH) (f0_h1 : RO (encF .f32) D (.slice f0_v1a f0.V.length f0_v1c) f0.V) (F : List Assert) (r : S_api_Field) (hp : field_Copy_p f0 = some r) : ∀ w : World, SInv D (F) w → Calls Try.prog 36 #[.agg #[.int .i64 f0.Region.X, .int .i64 f0.Region.Y, .int .i64 f0.Region.W, .int .i64 f0.Region.H, .slice f0_v1a f0.V.length f0_v1c]] w (fun e w' => ∃ (D1 : PH) (q_a1 : Option Addr) (q_cp1 : Nat), PH.le D D1 ∧ e = .returned (.agg #[.int .i64 r.Region.X, .int .i64 r.Region.Y, .int .i64 r.Region.W, .int .i64 r.Region.H, .slice q_a1 r.V.length q_cp1]) ∧ SInv D1 (OwnS D1 (encF .f32) 40 (.slice q_a1 r.V.length q_cp1) r.V :: F) w') := by
  intro w hS
  refine call_intro Try.func36 rfl Try.ntmps36 (Nat.le_of_ble_eq_true rfl) hS ?_
  clear hS w
  unfold field_Copy_p at hp
  refine c_seq ?_
  refine c_region ?_
  refine l_box (cs := [.int .i64 f0.Region.X, .int .i64 f0.Region.Y, .int .i64 f0.Region.W, .int .i64 f0.Region.H, .slice f0_v1a f0.V.length f0_v1c]) rfl rfl (fun b3 => ?_)
  refine l_alloc (zs := [.int .i64 0, .int .i64 0, .int .i64 0, .int .i64 0, .slice none 0 0]) rfl (by kernel_rfl) (fun b4 => ?_)
  refine l_nilS D (encF .f32) 40 ?_
  refine l_nil ?_
  refine e_then ?_
  refine c_seq ?_
  obtain ⟨r1, hr1, hp⟩ := bnd_some hp
  refine c_perm (fr1_perm 2 _) ?_
  refine c_perm (fr1_perm 1 _) ?_
  refine c_order (B := [OwnS D (encF .f32) 40 (.slice none 0 0) ([] : List Nat), pt b3 [.int .i64 f0.Region.X, .int .i64 f0.Region.Y, .int .i64 f0.Region.W, .int .i64 f0.Region.H, .slice f0_v1a f0.V.length f0_v1c] 26]) (.q 0 (.q 1 (.q 2 (.q 3 (.e 4 (.q 5 (.e 6 .nil))))))) hmix (by kernel_rfl) (NoPanic.then NoPanic.post) ?_
  refine o_s (.pointer (some ⟨b3, 0, none⟩)) rfl (by kernel_rfl) ?_
  refine o_qs rfl rfl (qs_ldpt (encW 4 (by decide)) fitv23 rfl 1 rfl (.agg #[.int .i64 f0.Region.X, .int .i64 f0.Region.Y, .int .i64 f0.Region.W, .int .i64 f0.Region.H]) (Nat.le_of_ble_eq_true rfl) rfl) ?_
  refine o_s (.pointer (some ⟨b3, 4, none⟩)) rfl (by kernel_rfl) ?_
  refine o_qs rfl rfl (qs_ldpt encV fitv24 rfl 1 rfl (.slice f0_v1a f0.V.length f0_v1c) (Nat.le_of_ble_eq_true rfl) rfl) ?_
  refine o_calle rfl rfl rfl Try.call80 (vs := [.slice f0_v1a f0.V.length f0_v1c]) rfl (fun v D2 As2 => ∃ (a2 : Option Addr) (cp2 : Nat), PH.le D D2 ∧ v = .slice a2 r1.length cp2 ∧ As2 = OwnS D2 (encF .f32) 40 (.slice a2 r1.length cp2) r1 :: pt b4 [.int .i64 0, .int .i64 0, .int .i64 0, .int .i64 0, .slice none 0 0] 26 :: F) (fun w hS => (slices_Clone_float32_float32_s f0.V f0_v1a f0_v1c _ f0_h1 _ _ hr1 w (hS)).mono fun e w' ⟨D2, a2, cp2, hle2, he, hS2⟩ => ⟨_, D2, _, he, ⟨a2, cp2, hle2, rfl, rfl⟩, (((hS2.perm (fr1_perm 3 _)).perm (fr1_perm 1 _)).perm (fr1_perm 3 _)).perm (fr1_perm 3 _)⟩) ?_
  rintro _ D2 As2 ⟨a2, cp2, hle2, rfl, hA2⟩
  subst As2
  refine ⟨PH.le_trans (PH.le_refl _) hle2, ?_⟩
  replace f0_h1 := f0_h1.mono hle2
  refine o_s (.agg #[.int .i64 f0.Region.X, .int .i64 f0.Region.Y, .int .i64 f0.Region.W, .int .i64 f0.Region.H, .slice a2 r1.length cp2]) rfl (by kernel_rfl) ?_
  refine o_perm (fr1_perm 1 _) ?_
  refine o_store (vs := [.int .i64 f0.Region.X, .int .i64 f0.Region.Y, .int .i64 f0.Region.W, .int .i64 f0.Region.H, .slice a2 r1.length cp2]) (cs' := [.int .i64 f0.Region.X, .int .i64 f0.Region.Y, .int .i64 f0.Region.W, .int .i64 f0.Region.H, .slice a2 r1.length cp2]) rfl rfl hle2 (by kernel_rfl) (by kernel_rfl) rfl rfl (Nat.le_of_ble_eq_true rfl) rfl rfl ?_
  refine o_nil ?_
  refine e_drop ?_
  refine e_drop ?_
  refine e_then ?_
  refine c_ret ?_
  obtain rfl := Option.some.inj hp
  refine e_perm (fr1_perm 1 _) ?_
  refine e_perm (fr1_perm 1 _) ?_
  exact post_all (vs := [.agg #[.int .i64 f0.Region.X, .int .i64 f0.Region.Y, .int .i64 f0.Region.W, .int .i64 f0.Region.H, .slice a2 r1.length cp2]]) (.agg #[.int .i64 f0.Region.X, .int .i64 f0.Region.Y, .int .i64 f0.Region.W, .int .i64 f0.Region.H, .slice a2 r1.length cp2]) ⟨⟨_, 0, _, _, 5, by decide, rfl, rfl, .inr ⟨fitv26, rfl, rfl⟩⟩, trivial⟩ rfl (.inl rfl) (fun w hS => ⟨D2, a2, cp2, hle2, rfl, hS.tail⟩)

-- math.Sqrt
set_option maxRecDepth 100000 in
set_option maxHeartbeats 4000000 in
theorem math_Sqrt_s (x0 : Nat) (D : PH)  (F : List Assert) (r : Nat) (hp : math_Sqrt_p x0 = some r) : ∀ w : World, SInv D (F) w → Calls Try.prog 81 #[.float .f64 x0] w (fun e w' => e = .returned (.float .f64 r) ∧ SInv D (F) w') := by
  intro w hS
  refine call_intro Try.func81 rfl Try.ntmps81 (Nat.le_of_ble_eq_true rfl) hS ?_
  clear hS w
  unfold math_Sqrt_p at hp
  refine c_seq ?_
  refine c_quiet ?_
  refine ql_s (.float .f64 0) (by kernel_rfl) ?_
  refine ql_nil ?_
  refine e_then ?_
  refine c_seq ?_
  obtain ⟨r1, hr1, hp⟩ := bnd_some hp
  refine c_quiet ?_
  refine ql_s (.float .f64 x0) (by kernel_rfl) ?_
  refine ql_q rfl (qs_extern Try.func105 rfl rfl (by kernel_rfl) ext105 (vs := [.float .f64 x0]) rfl (fun w => run_sqrt hr1 w)) ?_
  refine ql_s (.float .f64 r1) (by kernel_rfl) ?_
  refine ql_nil ?_
  refine e_then ?_
  refine c_ret ?_
  obtain rfl := Option.some.inj hp
  exact post_all (vs := [.float .f64 r1]) (.float .f64 r1) ⟨rfl, trivial⟩ rfl (.inl rfl) (fun w hS => ⟨rfl, hS⟩)

-- tarnfell/noise.Root
set_option maxRecDepth 100000 in
set_option maxHeartbeats 4000000 in
theorem noise_Root_s (v0 : Nat) (D : PH)  (F : List Assert) (r : Nat) (hp : noise_Root_p v0 = some r) : ∀ w : World, SInv D (F) w → Calls Try.prog 37 #[.float .f32 v0] w (fun e w' => e = .returned (.float .f32 r) ∧ SInv D (F) w') := by
  intro w hS
  refine call_intro Try.func37 rfl Try.ntmps37 (Nat.le_of_ble_eq_true rfl) hS ?_
  clear hS w
  unfold noise_Root_p at hp
  refine c_seq ?_
  refine c_quiet ?_
  refine ql_s (.float .f32 0) (by kernel_rfl) ?_
  refine ql_nil ?_
  refine e_then ?_
  refine c_seq ?_
  obtain ⟨r1, hr1, hp⟩ := bnd_some hp
  obtain ⟨r2, hr2, hp⟩ := bnd_some hp
  obtain ⟨r3, hr3, hp⟩ := bnd_some hp
  refine c_quiet ?_
  refine ql_s (.float .f32 v0) (by kernel_rfl) ?_
  refine ql_q rfl (qs_fconv Try.underlying40 Try.underlying125 rfl hr1) ?_
  refine ql_call (v := .float .f64 r2) rfl (run_call (vs := [.float .f64 r1]) rfl Try.call81 rfl) (fun w hS => (math_Sqrt_s r1 _  _ _ hr2 w (hS)).mono fun e w' h => ⟨h.1, h.2⟩) ?_
  refine ql_q rfl (qs_fconv Try.underlying125 Try.underlying40 rfl hr3) ?_
  refine ql_s (.float .f32 r3) (by kernel_rfl) ?_
  refine ql_nil ?_
  refine e_then ?_
  refine c_ret ?_
  obtain rfl := Option.some.inj hp
  exact post_all (vs := [.float .f32 r3]) (.float .f32 r3) ⟨rfl, trivial⟩ rfl (.inl rfl) (fun w hS => ⟨rfl, hS⟩)

-- tarnfell/field.Finite
set_option maxRecDepth 100000 in
set_option maxHeartbeats 4000000 in
theorem field_Finite_s (l0 : List Nat) (l0_v1a : Option Addr) (l0_v1c : Nat) (D : PH) (l0_h1 : RO (encF .f32) D (.slice l0_v1a l0.length l0_v1c) l0) (F : List Assert) (r : Int) (hp : field_Finite_p l0 = some r) : ∀ w : World, SInv D (F) w → Calls Try.prog 97 #[.slice l0_v1a l0.length l0_v1c] w (fun e w' => e = .returned (.int .i64 r) ∧ SInv D (F) w') := by
  intro w hS
  refine call_intro Try.func97 rfl Try.ntmps97 (Nat.le_of_ble_eq_true rfl) hS ?_
  clear hS w
  unfold field_Finite_p at hp
  refine c_seq ?_
  refine c_quiet ?_
  refine ql_s (.int .i64 0) (by kernel_rfl) ?_
  refine ql_nil ?_
  refine e_then ?_
  refine c_seq ?_
  refine c_seq ?_
  refine c_quiet ?_
  refine ql_s (.slice l0_v1a l0.length l0_v1c) (by kernel_rfl) ?_
  refine ql_s (.int .i64 (l0.length : Int)) (by kernel_rfl) ?_
  refine ql_s (.int .i64 0) (by kernel_rfl) ?_
  refine ql_nil ?_
  refine e_then ?_
  have hb0 : (l0.length : Int) ≤ 4611686018427387904 := by have := RO.bound l0_h1; omega
  have hm0 : l0.length = (l0.length : Int).toNat := by omega
  have hm1 := hm0; have hb1 := hb0; clear hm0 hb0
  obtain ⟨x1, hs1, hp⟩ := bnd_some hp
  obtain ⟨body1, hbody1, hs1⟩ := forI_gen hs1
  refine c_cut_end (fun φ1 D1 As1 => ∃ (s1 : Unit), x1 = .go s1 ∧ Is φ1 [] ∧ PH.le D D1 ∧ As1 = F) ?_ ?_
  · skip
    refine c_block ?_
    refine c_loop (fun k φ1 D2 As1 => ∃ (j1 i1 : Nat) (s2 : Unit), k = j1 + 1 ∧ i1 + j1 = l0.length ∧ Is φ1 [(5, .slice l0_v1a l0.length l0_v1c), (6, .int .i64 (l0.length : Int)), (7, .int .i64 (i1 : Int))] ∧ PH.le D D2 ∧ As1 = F ∧ forI body1 j1 i1 s2 = some x1) ⟨l0.length + 1, l0.length, 0, (), rfl, Nat.zero_add _, ⟨rfl, rfl, rfl, trivial⟩, (PH.le_refl _), rfl, hs1⟩ ?_ ?_
    · rintro _ _ _ ⟨_, _, _, h0, _⟩; omega
    intro k1
    rintro φ1 D2 As1 ⟨j1, i1, s2, hk1, hij1, hI1, hD1, hA1, hs2⟩
    subst As1
    replace l0_h1 := l0_h1.mono hD1
    refine c_frame _ hI1 ?_
    obtain rfl : k1 = j1 := by omega
    clear hk1
    rcases k1 with _ | j1
    · skip
      refine c_seq ?_
      refine c_quiet ?_
      refine ql_s (.bool (decide ((i1 : Int) < (l0.length : Int)))) (by kernel_rfl) ?_
      refine ql_nil ?_
      refine e_then ?_
      refine c_seq ?_
      refine c_cond (decide ((i1 : Int) < (l0.length : Int))) rfl (fun ht1 => absurd ((dec_lt_f hm1 (by omega)).symm.trans ht1) (by simp)) (fun _ => ?_)
      refine c_exit ?_
      refine e_then_exit ?_
      refine e_then_exit ?_
      obtain rfl := Option.some.inj hs2
      refine e_blk_exit ?_
      exact e_cut ⟨(), rfl, trivial, hD1, rfl⟩
    · skip
      obtain ⟨y1, hx1, hs2⟩ := forI_some hs2
      replace hx1 := (congrFun (congrFun hbody1 i1) s2).trans hx1
      refine c_seq ?_
      refine c_quiet ?_
      refine ql_s (.bool (decide ((i1 : Int) < (l0.length : Int)))) (by kernel_rfl) ?_
      refine ql_nil ?_
      refine e_then ?_
      refine c_seq ?_
      refine c_cond (decide ((i1 : Int) < (l0.length : Int))) rfl (fun _ => ?_) (fun ht2 => absurd ((dec_lt_t hm1 (by omega)).symm.trans ht2) (by simp))
      refine c_skip ?_
      refine e_then ?_
      refine c_seq ?_
      refine c_block ?_
      refine c_seq ?_
      obtain ⟨x2, hx2, hx1⟩ := bnd_some hx1
      obtain ⟨b1, o1, h1, hq1⟩ := RO.at l0_h1 hx2
      refine c_quiet ?_
      refine ql_q rfl (qs_idx hq1 Try.underlying24 fit40 rfl rfl) ?_
      refine ql_q rfl (qs_ldAtV fit40 rfl h1 valF) ?_
      refine ql_s (.float .f32 x2) (by kernel_rfl) ?_
      refine ql_nil ?_
      refine e_then ?_
      refine c_seq ?_
      obtain ⟨r1, hr1, hx1⟩ := bnd_some hx1
      refine c_quiet ?_
      refine ql_s (.float .f32 x2) (by kernel_rfl) ?_
      refine ql_call (v := .bool r1) rfl (run_call (vs := [.float .f32 x2]) rfl Try.call78 rfl) (fun w hS => (field_finite_s x2 _  _ _ hr1 w (hS)).mono fun e w' h => ⟨h.1, h.2⟩) ?_
      refine ql_s (.bool (!r1)) (by kernel_rfl) ?_
      refine ql_nil ?_
      refine e_then ?_
      refine c_cond (!r1) rfl (fun ht3 => ?_) (fun ht3 => ?_)
      · skip
        replace hx1 := if_t ht3 hx1
        refine c_seq ?_
        refine c_quiet ?_
        refine ql_s (.int .i64 2) (by kernel_rfl) ?_
        refine ql_nil ?_
        refine e_then ?_
        refine c_ret ?_
        refine e_blk_ret ?_
        refine e_then_ret ?_
        refine e_then_ret ?_
        obtain rfl := Option.some.inj hx1
        obtain rfl := hs2
        refine e_blk_ret ?_
        refine e_then_ret ?_
        dsimp only at hp
        refine e_then_ret ?_
        obtain rfl := Option.some.inj hp
        exact post_all (vs := [.int .i64 2]) (.int .i64 2) ⟨rfl, trivial⟩ rfl (.inl rfl) (fun w hS => ⟨rfl, (hS.lower hD1)⟩)
      · skip
        replace hx1 := if_f ht3 hx1
        refine c_skip ?_
        refine e_blk ?_
        refine e_then ?_
        refine c_quiet ?_
        refine ql_s (.int .i64 (addI (i1 : Int) 1)) (by kernel_rfl) ?_
        refine ql_s (.int .i64 (addI (i1 : Int) 1)) (by kernel_rfl) ?_
        refine ql_nil ?_
        obtain rfl := Option.some.inj hx1
        exact e_cut ⟨j1, i1 + 1, (), by omega, by omega, ⟨rfl, rfl, (congrArg (Value.int .i64) (addI_succ (by omega))), trivial⟩, hD1, rfl, hs2⟩
  · skip
    rintro φ2 D1 As2 ⟨s1, rfl, hI2, hD2, hA2⟩
    subst As2
    dsimp only at hp
    refine e_frame _ hI2 ?_
    refine e_then ?_
    refine c_seq ?_
    refine c_quiet ?_
    refine ql_s (.int .i64 0) (by kernel_rfl) ?_
    refine ql_nil ?_
    refine e_then ?_
    refine c_ret ?_
    obtain rfl := Option.some.inj hp
    exact post_all (vs := [.int .i64 0]) (.int .i64 0) ⟨rfl, trivial⟩ rfl (.inl rfl) (fun w hS => ⟨rfl, (hS.lower hD2)⟩)

-- tarnfell/noise.share
set_option maxRecDepth 100000 in
set_option maxHeartbeats 4000000 in
theorem noise_share_s (t0 : Nat) (D : PH)  (F : List Assert) (r : Int) (hp : noise_share_p t0 = some r) : ∀ w : World, SInv D (F) w → Calls Try.prog 82 #[.float .f32 t0] w (fun e w' => e = .returned (.int .i64 r) ∧ SInv D (F) w') := by
  intro w hS
  refine call_intro Try.func82 rfl Try.ntmps82 (Nat.le_of_ble_eq_true rfl) hS ?_
  clear hS w
  unfold noise_share_p at hp
  refine c_seq ?_
  refine c_quiet ?_
  refine ql_s (.int .i64 0) (by kernel_rfl) ?_
  refine ql_nil ?_
  refine e_then ?_
  refine c_seq ?_
  refine c_seq ?_
  obtain ⟨r1, hr1, hp⟩ := bnd_some hp
  refine c_region ?_
  refine l_s (.float .f32 t0) (by kernel_rfl) ?_
  refine l_bslS (cs := [.float .f32 t0]) (E := 40) (e := encF .f32) ([t0] : List Nat) rfl (by kernel_rfl) rfl rfl (Nat.le_of_ble_eq_true rfl) ⟨rfl, trivial⟩ (fun b2 cp2 => ?_)
  refine l_callq (v := .int .i64 r1) rfl rfl Try.call97 (vs := [.slice (some ⟨b2, 0, none⟩) ([t0] : List Nat).length cp2]) rfl (fun w hS => (calls_thaw (PH.le_refl _) (hS) (fun D0' hLl0 hLr0 hS => (field_Finite_s ([t0] : List Nat) (some ⟨b2, 0, none⟩) cp2 _ hLr0 _ _ hr1 w (hS)).mono fun e w' h => ⟨h.1, h.2⟩)).mono fun e w' h => ⟨h.1, h.2⟩) ?_
  refine l_s (.int .i64 r1) (by kernel_rfl) ?_
  refine l_nil ?_
  refine e_drop ?_
  refine e_then ?_
  refine c_seq ?_
  refine c_quiet ?_
  refine ql_s (.int .i64 r1) (by kernel_rfl) ?_
  refine ql_s (.bool (r1 != 0)) (by kernel_rfl) ?_
  refine ql_nil ?_
  refine e_then ?_
  refine c_cond ((r1 != 0)) rfl (fun ht1 => ?_) (fun ht1 => ?_)
  · skip
    replace hp := if_t ht1 hp
    refine c_seq ?_
    refine c_quiet ?_
    refine ql_s (.int .i64 r1) (by kernel_rfl) ?_
    refine ql_s (.int .i64 r1) (by kernel_rfl) ?_
    refine ql_nil ?_
    refine e_then ?_
    refine c_ret ?_
    refine e_then_ret ?_
    obtain rfl := Option.some.inj hp
    exact post_all (vs := [.int .i64 r1]) (.int .i64 r1) ⟨rfl, trivial⟩ rfl (.inl rfl) (fun w hS => ⟨rfl, hS⟩)
  · skip
    replace hp := if_f ht1 hp
    refine c_skip ?_
    refine e_then ?_
    refine c_seq ?_
    refine c_seq ?_
    refine c_cutq_end [(15, .bool ((flt .f32 t0 0) || (fgt .f32 t0 1065353216)))] ?_ ?_
    · skip
      refine c_quiet ?_
      refine ql_s (.float .f32 t0) (by kernel_rfl) ?_
      refine ql_s (.bool (flt .f32 t0 0)) (by kernel_rfl) ?_
      refine ql_s (.bool (flt .f32 t0 0)) (by kernel_rfl) ?_
      refine ql_case 12 (flt .f32 t0 0) rfl (fun hg1 => ?_) (fun hg1 => ?_)
      · skip
        refine ql_s undef (by kernel_rfl) ?_
        refine ql_s undef (by kernel_rfl) ?_
        refine ql_s (.bool true) (by kernel_rfl) ?_
        refine ql_nil (e_cutq ?_)
        exact ⟨(congrArg Value.bool (by first | rfl | (rw [hg1]; rfl) | simp [hg1])), trivial⟩
      · skip
        refine ql_s (.float .f32 t0) (by kernel_rfl) ?_
        refine ql_s (.bool (fgt .f32 t0 1065353216)) (by kernel_rfl) ?_
        refine ql_s (.bool (fgt .f32 t0 1065353216)) (by kernel_rfl) ?_
        refine ql_nil (e_cutq ?_)
        exact ⟨(congrArg Value.bool (by first | rfl | (rw [hg1]; rfl) | simp [hg1])), trivial⟩
    intro _
    refine e_then ?_
    refine c_cond (((flt .f32 t0 0) || (fgt .f32 t0 1065353216))) rfl (fun ht2 => ?_) (fun ht2 => ?_)
    · skip
      replace hp := if_t ht2 hp
      refine c_seq ?_
      refine c_quiet ?_
      refine ql_s (.int .i64 3) (by kernel_rfl) ?_
      refine ql_nil ?_
      refine e_then ?_
      refine c_ret ?_
      refine e_then_ret ?_
      obtain rfl := Option.some.inj hp
      exact post_all (vs := [.int .i64 3]) (.int .i64 3) ⟨rfl, trivial⟩ rfl (.inl rfl) (fun w hS => ⟨rfl, hS⟩)
    · skip
      replace hp := if_f ht2 hp
      refine c_skip ?_
      refine e_then ?_
      refine c_seq ?_
      refine c_quiet ?_
      refine ql_s (.int .i64 0) (by kernel_rfl) ?_
      refine ql_nil ?_
      refine e_then ?_
      refine c_ret ?_
      obtain rfl := Option.some.inj hp
      exact post_all (vs := [.int .i64 0]) (.int .i64 0) ⟨rfl, trivial⟩ rfl (.inl rfl) (fun w hS => ⟨rfl, hS⟩)

-- tarnfell/noise.ease
set_option maxRecDepth 100000 in
set_option maxHeartbeats 4000000 in
theorem noise_ease_s (t0 : Nat) (D : PH)  (F : List Assert) (r : Nat) (hp : noise_ease_p t0 = some r) : ∀ w : World, SInv D (F) w → Calls Try.prog 83 #[.float .f32 t0] w (fun e w' => e = .returned (.float .f32 r) ∧ SInv D (F) w') := by
  intro w hS
  refine call_intro Try.func83 rfl Try.ntmps83 (Nat.le_of_ble_eq_true rfl) hS ?_
  clear hS w
  unfold noise_ease_p at hp
  refine c_seq ?_
  refine c_quiet ?_
  refine ql_s (.float .f32 0) (by kernel_rfl) ?_
  refine ql_nil ?_
  refine e_then ?_
  refine c_seq ?_
  obtain ⟨r1, hr1, hp⟩ := bnd_some hp
  refine c_quiet ?_
  refine ql_s (.float .f32 t0) (by kernel_rfl) ?_
  refine ql_s (.float .f32 t0) (by kernel_rfl) ?_
  refine ql_q rfl (qs_fop hr1 rfl rfl) ?_
  refine ql_s (.float .f32 r1) (by kernel_rfl) ?_
  refine ql_nil ?_
  refine e_then ?_
  refine c_seq ?_
  obtain ⟨r2, hr2, hp⟩ := bnd_some hp
  obtain ⟨r3, hr3, hp⟩ := bnd_some hp
  refine c_quiet ?_
  refine ql_s (.float .f32 t0) (by kernel_rfl) ?_
  refine ql_q rfl (qs_fop hr2 rfl rfl) ?_
  refine ql_q rfl (qs_fop hr3 rfl rfl) ?_
  refine ql_s (.float .f32 r3) (by kernel_rfl) ?_
  refine ql_nil ?_
  refine e_then ?_
  refine c_seq ?_
  obtain ⟨r4, hr4, hp⟩ := bnd_some hp
  refine c_quiet ?_
  refine ql_s (.float .f32 r1) (by kernel_rfl) ?_
  refine ql_s (.float .f32 r3) (by kernel_rfl) ?_
  refine ql_q rfl (qs_fop hr4 rfl rfl) ?_
  refine ql_s (.float .f32 r4) (by kernel_rfl) ?_
  refine ql_nil ?_
  refine e_then ?_
  refine c_ret ?_
  obtain rfl := Option.some.inj hp
  exact post_all (vs := [.float .f32 r4]) (.float .f32 r4) ⟨rfl, trivial⟩ rfl (.inl rfl) (fun w hS => ⟨rfl, hS⟩)

-- tarnfell/noise.Ease
set_option maxRecDepth 100000 in
set_option maxHeartbeats 4000000 in
theorem noise_Ease_s (t0 : Nat) (D : PH)  (F : List Assert) (r : Nat × Int) (hp : noise_Ease_p t0 = some r) : ∀ w : World, SInv D (F) w → Calls Try.prog 38 #[.float .f32 t0] w (fun e w' => e = .returned (.tuple #[.float .f32 r.1, .int .i64 r.2]) ∧ SInv D (F) w') := by
  intro w hS
  refine call_intro Try.func38 rfl Try.ntmps38 (Nat.le_of_ble_eq_true rfl) hS ?_
  clear hS w
  unfold noise_Ease_p at hp
  refine c_seq ?_
  refine c_quiet ?_
  refine ql_s (.float .f32 0) (by kernel_rfl) ?_
  refine ql_s (.int .i64 0) (by kernel_rfl) ?_
  refine ql_nil ?_
  refine e_then ?_
  refine c_seq ?_
  refine c_seq ?_
  obtain ⟨r1, hr1, hp⟩ := bnd_some hp
  refine c_quiet ?_
  refine ql_s (.float .f32 t0) (by kernel_rfl) ?_
  refine ql_call (v := .int .i64 r1) rfl (run_call (vs := [.float .f32 t0]) rfl Try.call82 rfl) (fun w hS => (noise_share_s t0 _  _ _ hr1 w (hS)).mono fun e w' h => ⟨h.1, h.2⟩) ?_
  refine ql_s (.int .i64 r1) (by kernel_rfl) ?_
  refine ql_nil ?_
  refine e_then ?_
  refine c_seq ?_
  refine c_quiet ?_
  refine ql_s (.int .i64 r1) (by kernel_rfl) ?_
  refine ql_s (.bool (r1 != 0)) (by kernel_rfl) ?_
  refine ql_nil ?_
  refine e_then ?_
  refine c_cond ((r1 != 0)) rfl (fun ht1 => ?_) (fun ht1 => ?_)
  · skip
    replace hp := if_t ht1 hp
    refine c_seq ?_
    refine c_quiet ?_
    refine ql_s (.int .i64 r1) (by kernel_rfl) ?_
    refine ql_s (.float .f32 0) (by kernel_rfl) ?_
    refine ql_s (.int .i64 r1) (by kernel_rfl) ?_
    refine ql_nil ?_
    refine e_then ?_
    refine c_ret ?_
    refine e_then_ret ?_
    obtain rfl := Option.some.inj hp
    exact post_all (vs := [.float .f32 0, .int .i64 r1]) (.tuple #[.float .f32 0, .int .i64 r1]) ⟨rfl, rfl, trivial⟩ rfl (.inl rfl) (fun w hS => ⟨rfl, hS⟩)
  · skip
    replace hp := if_f ht1 hp
    refine c_skip ?_
    refine e_then ?_
    refine c_seq ?_
    obtain ⟨r2, hr2, hp⟩ := bnd_some hp
    refine c_quiet ?_
    refine ql_s (.float .f32 t0) (by kernel_rfl) ?_
    refine ql_call (v := .float .f32 r2) rfl (run_call (vs := [.float .f32 t0]) rfl Try.call83 rfl) (fun w hS => (noise_ease_s t0 _  _ _ hr2 w (hS)).mono fun e w' h => ⟨h.1, h.2⟩) ?_
    refine ql_s (.float .f32 r2) (by kernel_rfl) ?_
    refine ql_s (.int .i64 0) (by kernel_rfl) ?_
    refine ql_nil ?_
    refine e_then ?_
    refine c_ret ?_
    obtain rfl := Option.some.inj hp
    exact post_all (vs := [.float .f32 r2, .int .i64 0]) (.tuple #[.float .f32 r2, .int .i64 0]) ⟨rfl, rfl, trivial⟩ rfl (.inl rfl) (fun w hS => ⟨rfl, hS⟩)

-- tarnfell/field.Mix
set_option maxRecDepth 100000 in
set_option maxHeartbeats 4000000 in
theorem field_Mix_s (a0 : Nat) (b0 : Nat) (w0 : Nat) (D : PH)  (F : List Assert) (r : Nat) (hp : field_Mix_p a0 b0 w0 = some r) : ∀ w : World, SInv D (F) w → Calls Try.prog 39 #[.float .f32 a0, .float .f32 b0, .float .f32 w0] w (fun e w' => e = .returned (.float .f32 r) ∧ SInv D (F) w') := by
  intro w hS
  refine call_intro Try.func39 rfl Try.ntmps39 (Nat.le_of_ble_eq_true rfl) hS ?_
  clear hS w
  unfold field_Mix_p at hp
  refine c_seq ?_
  refine c_quiet ?_
  refine ql_s (.float .f32 0) (by kernel_rfl) ?_
  refine ql_nil ?_
  refine e_then ?_
  refine c_seq ?_
  obtain ⟨r1, hr1, hp⟩ := bnd_some hp
  obtain ⟨r2, hr2, hp⟩ := bnd_some hp
  obtain ⟨r3, hr3, hp⟩ := bnd_some hp
  refine c_quiet ?_
  refine ql_s (.float .f32 a0) (by kernel_rfl) ?_
  refine ql_s (.float .f32 b0) (by kernel_rfl) ?_
  refine ql_s (.float .f32 a0) (by kernel_rfl) ?_
  refine ql_q rfl (qs_fop hr1 rfl rfl) ?_
  refine ql_s (.float .f32 w0) (by kernel_rfl) ?_
  refine ql_q rfl (qs_fop hr2 rfl rfl) ?_
  refine ql_q rfl (qs_fop hr3 rfl rfl) ?_
  refine ql_s (.float .f32 r3) (by kernel_rfl) ?_
  refine ql_nil ?_
  refine e_then ?_
  refine c_ret ?_
  obtain rfl := Option.some.inj hp
  exact post_all (vs := [.float .f32 r3]) (.float .f32 r3) ⟨rfl, trivial⟩ rfl (.inl rfl) (fun w hS => ⟨rfl, hS⟩)

-- tarnfell/field.Result
set_option maxRecDepth 100000 in
set_option maxHeartbeats 4000000 in
theorem field_Result_s (f0 : S_api_Field) (f0_v1a : Option Addr) (f0_v1c : Nat) (D : PH) (f0_h1 : RO (encF .f32) D (.slice f0_v1a f0.V.length f0_v1c) f0.V) (F : List Assert) (r : S_api_Field × Int) (hp : field_Result_p f0 = some r) : ∀ w : World, SInv D (F) w → Calls Try.prog 40 #[.agg #[.int .i64 f0.Region.X, .int .i64 f0.Region.Y, .int .i64 f0.Region.W, .int .i64 f0.Region.H, .slice f0_v1a f0.V.length f0_v1c]] w (fun e w' => ∃ (D1 : PH) (q_a1 : Option Addr) (q_cp1 : Nat), PH.le D D1 ∧ e = .returned (.tuple #[.agg #[.int .i64 r.1.Region.X, .int .i64 r.1.Region.Y, .int .i64 r.1.Region.W, .int .i64 r.1.Region.H, .slice q_a1 r.1.V.length q_cp1], .int .i64 r.2]) ∧ RO (encF .f32) D1 (.slice q_a1 r.1.V.length q_cp1) r.1.V ∧ SInv D1 (F) w') := by
  intro w hS
  refine call_intro Try.func40 rfl Try.ntmps40 (Nat.le_of_ble_eq_true rfl) hS ?_
  clear hS w
  unfold field_Result_p at hp
  refine c_seq ?_
  refine c_region ?_
  refine l_box (cs := [.int .i64 f0.Region.X, .int .i64 f0.Region.Y, .int .i64 f0.Region.W, .int .i64 f0.Region.H, .slice f0_v1a f0.V.length f0_v1c]) rfl rfl (fun b3 => ?_)
  refine l_alloc (zs := [.int .i64 0, .int .i64 0, .int .i64 0, .int .i64 0, .slice none 0 0]) rfl (by kernel_rfl) (fun b4 => ?_)
  refine l_s (.int .i64 0) (by kernel_rfl) ?_
  refine l_nil ?_
  refine e_then ?_
  refine c_seq ?_
  refine c_seq ?_
  refine c_quiet ?_
  refine ql_s (.pointer (some ⟨b3, 4, none⟩)) (by kernel_rfl) ?_
  refine ql_q rfl (qs_ldpt encV fitv24 rfl 1 rfl (.slice f0_v1a f0.V.length f0_v1c) (Nat.le_of_ble_eq_true rfl) rfl) ?_
  refine ql_s (.int .i64 (f0.V.length : Int)) (by kernel_rfl) ?_
  refine ql_s (.int .i64 0) (by kernel_rfl) ?_
  refine ql_nil ?_
  refine e_then ?_
  have hb0 : (f0.V.length : Int) ≤ 4611686018427387904 := by have := RO.bound f0_h1; omega
  have hm0 : f0.V.length = (f0.V.length : Int).toNat := by omega
  have hm1 := hm0; have hb1 := hb0; clear hm0 hb0
  obtain ⟨x1, hs1, hp⟩ := bnd_some hp
  obtain ⟨body1, hbody1, hs1⟩ := forI_gen hs1
  refine c_cut_end (fun φ1 D1 As1 => ∃ (s1 : Unit), x1 = .go s1 ∧ Is φ1 [(1, .pointer (some ⟨b3, 0, none⟩)), (2, .pointer (some ⟨b4, 0, none⟩))] ∧ PH.le D D1 ∧ As1 = pt b4 [.int .i64 0, .int .i64 0, .int .i64 0, .int .i64 0, .slice none 0 0] 26 :: pt b3 [.int .i64 f0.Region.X, .int .i64 f0.Region.Y, .int .i64 f0.Region.W, .int .i64 f0.Region.H, .slice f0_v1a f0.V.length f0_v1c] 26 :: F) ?_ ?_
  · skip
    refine c_block ?_
    refine c_perm (fr1_perm 1 _) ?_
    refine c_perm (fr1_perm 1 _) ?_
    refine c_loop (fun k φ1 D2 As1 => ∃ (j1 i1 : Nat) (s2 : Unit), k = j1 + 1 ∧ i1 + j1 = f0.V.length ∧ Is φ1 [(1, .pointer (some ⟨b3, 0, none⟩)), (2, .pointer (some ⟨b4, 0, none⟩)), (7, .slice f0_v1a f0.V.length f0_v1c), (8, .int .i64 (f0.V.length : Int)), (9, .int .i64 (i1 : Int))] ∧ PH.le D D2 ∧ As1 = pt b4 [.int .i64 0, .int .i64 0, .int .i64 0, .int .i64 0, .slice none 0 0] 26 :: pt b3 [.int .i64 f0.Region.X, .int .i64 f0.Region.Y, .int .i64 f0.Region.W, .int .i64 f0.Region.H, .slice f0_v1a f0.V.length f0_v1c] 26 :: F ∧ forI body1 j1 i1 s2 = some x1) ⟨f0.V.length + 1, f0.V.length, 0, (), rfl, Nat.zero_add _, ⟨rfl, rfl, rfl, rfl, rfl, trivial⟩, (PH.le_refl _), rfl, hs1⟩ ?_ ?_
    · rintro _ _ _ ⟨_, _, _, h0, _⟩; omega
    intro k1
    rintro φ1 D2 As1 ⟨j1, i1, s2, hk1, hij1, hI1, hD1, hA1, hs2⟩
    subst As1
    replace f0_h1 := f0_h1.mono hD1
    refine c_frame _ hI1 ?_
    obtain rfl : k1 = j1 := by omega
    clear hk1
    rcases k1 with _ | j1
    · skip
      refine c_seq ?_
      refine c_quiet ?_
      refine ql_s (.bool (decide ((i1 : Int) < (f0.V.length : Int)))) (by kernel_rfl) ?_
      refine ql_nil ?_
      refine e_then ?_
      refine c_seq ?_
      refine c_cond (decide ((i1 : Int) < (f0.V.length : Int))) rfl (fun ht1 => absurd ((dec_lt_f hm1 (by omega)).symm.trans ht1) (by simp)) (fun _ => ?_)
      refine c_exit ?_
      refine e_then_exit ?_
      refine e_then_exit ?_
      obtain rfl := Option.some.inj hs2
      refine e_blk_exit ?_
      refine e_perm (fr1_perm 1 _) ?_
      refine e_perm (fr1_perm 1 _) ?_
      exact e_cut ⟨(), rfl, ⟨rfl, rfl, trivial⟩, hD1, rfl⟩
    · skip
      obtain ⟨y1, hx1, hs2⟩ := forI_some hs2
      replace hx1 := (congrFun (congrFun hbody1 i1) s2).trans hx1
      refine c_seq ?_
      refine c_quiet ?_
      refine ql_s (.bool (decide ((i1 : Int) < (f0.V.length : Int)))) (by kernel_rfl) ?_
      refine ql_nil ?_
      refine e_then ?_
      refine c_seq ?_
      refine c_cond (decide ((i1 : Int) < (f0.V.length : Int))) rfl (fun _ => ?_) (fun ht2 => absurd ((dec_lt_t hm1 (by omega)).symm.trans ht2) (by simp))
      refine c_skip ?_
      refine e_then ?_
      refine c_seq ?_
      refine c_block ?_
      refine c_seq ?_
      obtain ⟨x2, hx2, hx1⟩ := bnd_some hx1
      obtain ⟨b5, o1, h1, hq1⟩ := RO.at f0_h1 hx2
      refine c_quiet ?_
      refine ql_q rfl (qs_idx hq1 Try.underlying24 fit40 rfl rfl) ?_
      refine ql_q rfl (qs_ldAtV fit40 rfl h1 valF) ?_
      refine ql_s (.float .f32 x2) (by kernel_rfl) ?_
      refine ql_nil ?_
      refine e_then ?_
      refine c_seq ?_
      obtain ⟨r1, hr1, hx1⟩ := bnd_some hx1
      refine c_quiet ?_
      refine ql_s (.float .f32 x2) (by kernel_rfl) ?_
      refine ql_call (v := .bool r1) rfl (run_call (vs := [.float .f32 x2]) rfl Try.call79 rfl) (fun w hS => (field_height_s x2 _  _ _ hr1 w (hS)).mono fun e w' h => ⟨h.1, h.2⟩) ?_
      refine ql_s (.bool (!r1)) (by kernel_rfl) ?_
      refine ql_nil ?_
      refine e_then ?_
      refine c_cond (!r1) rfl (fun ht3 => ?_) (fun ht3 => ?_)
      · skip
        replace hx1 := if_t ht3 hx1
        refine c_seq ?_
        refine c_region ?_
        refine l_s (.agg #[.int .i64 0, .int .i64 0, .int .i64 0, .int .i64 0, .slice none 0 0]) (by kernel_rfl) ?_
        refine l_store (dd := none) (vs := [.int .i64 0, .int .i64 0, .int .i64 0, .int .i64 0, .slice none 0 0]) (cs' := [.int .i64 0, .int .i64 0, .int .i64 0, .int .i64 0, .slice none 0 0]) rfl (by kernel_rfl) (by kernel_rfl) rfl rfl (Nat.le_of_ble_eq_true rfl) rfl rfl ?_
        refine l_s (.int .i64 3) (by kernel_rfl) ?_
        refine l_nil ?_
        refine e_perm (fr1_perm 1 _) ?_
        refine e_drop ?_
        refine e_then ?_
        refine c_ret ?_
        refine e_blk_ret ?_
        refine e_then_ret ?_
        refine e_then_ret ?_
        obtain rfl := Option.some.inj hx1
        obtain rfl := hs2
        refine e_blk_ret ?_
        refine e_then_ret ?_
        dsimp only at hp
        refine e_then_ret ?_
        obtain rfl := Option.some.inj hp
        exact post_all (vs := [.agg #[.int .i64 0, .int .i64 0, .int .i64 0, .int .i64 0, .slice none 0 0], .int .i64 3]) (.tuple #[.agg #[.int .i64 0, .int .i64 0, .int .i64 0, .int .i64 0, .slice none 0 0], .int .i64 3]) ⟨⟨_, 0, _, _, 5, by decide, rfl, rfl, .inr ⟨fitv26, rfl, rfl⟩⟩, rfl, trivial⟩ rfl (.inl rfl) (fun w hS => ⟨D2, none, 0, hD1, rfl, (RO.nil _ _), hS.tail⟩)
      · skip
        replace hx1 := if_f ht3 hx1
        refine c_skip ?_
        refine e_blk ?_
        refine e_then ?_
        refine c_quiet ?_
        refine ql_s (.int .i64 (addI (i1 : Int) 1)) (by kernel_rfl) ?_
        refine ql_s (.int .i64 (addI (i1 : Int) 1)) (by kernel_rfl) ?_
        refine ql_nil ?_
        refine e_perm (fr1_perm 1 _) ?_
        refine e_perm (fr1_perm 1 _) ?_
        obtain rfl := Option.some.inj hx1
        exact e_cut ⟨j1, i1 + 1, (), by omega, by omega, ⟨rfl, rfl, rfl, rfl, (congrArg (Value.int .i64) (addI_succ (by omega))), trivial⟩, hD1, rfl, hs2⟩
  · skip
    rintro φ2 D1 As2 ⟨s1, rfl, hI2, hD2, hA2⟩
    subst As2
    replace f0_h1 := f0_h1.mono hD2
    dsimp only at hp
    refine e_frame _ hI2 ?_
    refine e_then ?_
    refine c_seq ?_
    refine c_region ?_
    refine l_q rfl (qs_ldpt (encW 5 (by decide)) fitv26 rfl 1 rfl (.agg #[.int .i64 f0.Region.X, .int .i64 f0.Region.Y, .int .i64 f0.Region.W, .int .i64 f0.Region.H, .slice f0_v1a f0.V.length f0_v1c]) (Nat.le_of_ble_eq_true rfl) rfl) ?_
    refine l_store (dd := none) (vs := [.int .i64 f0.Region.X, .int .i64 f0.Region.Y, .int .i64 f0.Region.W, .int .i64 f0.Region.H, .slice f0_v1a f0.V.length f0_v1c]) (cs' := [.int .i64 f0.Region.X, .int .i64 f0.Region.Y, .int .i64 f0.Region.W, .int .i64 f0.Region.H, .slice f0_v1a f0.V.length f0_v1c]) rfl (by kernel_rfl) (by kernel_rfl) rfl rfl (Nat.le_of_ble_eq_true rfl) rfl rfl ?_
    refine l_s (.int .i64 0) (by kernel_rfl) ?_
    refine l_nil ?_
    refine e_perm (fr1_perm 1 _) ?_
    refine e_drop ?_
    refine e_then ?_
    refine c_ret ?_
    obtain rfl := Option.some.inj hp
    exact post_all (vs := [.agg #[.int .i64 f0.Region.X, .int .i64 f0.Region.Y, .int .i64 f0.Region.W, .int .i64 f0.Region.H, .slice f0_v1a f0.V.length f0_v1c], .int .i64 0]) (.tuple #[.agg #[.int .i64 f0.Region.X, .int .i64 f0.Region.Y, .int .i64 f0.Region.W, .int .i64 f0.Region.H, .slice f0_v1a f0.V.length f0_v1c], .int .i64 0]) ⟨⟨_, 0, _, _, 5, by decide, rfl, rfl, .inr ⟨fitv26, rfl, rfl⟩⟩, rfl, trivial⟩ rfl (.inl rfl) (fun w hS => ⟨D1, f0_v1a, f0_v1c, hD2, rfl, f0_h1, hS.tail⟩)

-- tarnfell/road.Build
set_option maxRecDepth 100000 in
set_option maxHeartbeats 4000000 in
theorem road_Build_s (f0 : S_api_Field) (f0_v1a : Option Addr) (f0_v1c : Nat) (way0 : List S_api_Point) (way0_v1a : Option Addr) (way0_v1c : Nat) (bed0 : List Nat) (bed0_v1a : Option Addr) (bed0_v1c : Nat) (wide0 : Int) (soft0 : Int) (D : PH) (f0_h1 : RO (encF .f32) D (.slice f0_v1a f0.V.length f0_v1c) f0.V) (way0_h1 : RO encS_api_Point D (.slice way0_v1a way0.length way0_v1c) way0) (bed0_h1 : RO (encF .f32) D (.slice bed0_v1a bed0.length bed0_v1c) bed0) (F : List Assert) (r : S_api_Field × Int) (hp : road_Build_p f0 way0 bed0 wide0 soft0 = some r) : ∀ w : World, SInv D (F) w → Calls Try.prog 6 #[.agg #[.int .i64 f0.Region.X, .int .i64 f0.Region.Y, .int .i64 f0.Region.W, .int .i64 f0.Region.H, .slice f0_v1a f0.V.length f0_v1c], .slice way0_v1a way0.length way0_v1c, .slice bed0_v1a bed0.length bed0_v1c, .int .i64 wide0, .int .i64 soft0] w (fun e w' => ∃ (D1 : PH) (q_a1 : Option Addr) (q_cp1 : Nat), PH.le D D1 ∧ e = .returned (.tuple #[.agg #[.int .i64 r.1.Region.X, .int .i64 r.1.Region.Y, .int .i64 r.1.Region.W, .int .i64 r.1.Region.H, .slice q_a1 r.1.V.length q_cp1], .int .i64 r.2]) ∧ RO (encF .f32) D1 (.slice q_a1 r.1.V.length q_cp1) r.1.V ∧ SInv D1 (F) w') := by
  intro w hS
  refine call_intro Try.func6 rfl Try.ntmps6 (Nat.le_of_ble_eq_true rfl) hS ?_
  clear hS w
  unfold road_Build_p at hp
  refine c_seq ?_
  refine c_region ?_
  refine l_box (cs := [.int .i64 f0.Region.X, .int .i64 f0.Region.Y, .int .i64 f0.Region.W, .int .i64 f0.Region.H, .slice f0_v1a f0.V.length f0_v1c]) rfl rfl (fun b3 => ?_)
  refine l_alloc (zs := [.int .i64 0, .int .i64 0, .int .i64 0, .int .i64 0, .slice none 0 0]) rfl (by kernel_rfl) (fun b4 => ?_)
  refine l_s (.int .i64 0) (by kernel_rfl) ?_
  refine l_nil ?_
  refine e_then ?_
  refine c_seq ?_
  refine c_seq ?_
  obtain ⟨r1, hr1, hp⟩ := bnd_some hp
  refine c_quiet ?_
  refine ql_q rfl (qs_ldpt (encW 5 (by decide)) fitv26 rfl 1 rfl (.agg #[.int .i64 f0.Region.X, .int .i64 f0.Region.Y, .int .i64 f0.Region.W, .int .i64 f0.Region.H, .slice f0_v1a f0.V.length f0_v1c]) (Nat.le_of_ble_eq_true rfl) rfl) ?_
  refine ql_s (.slice way0_v1a way0.length way0_v1c) (by kernel_rfl) ?_
  refine ql_call (v := .int .i64 r1) rfl (run_call (vs := [.agg #[.int .i64 f0.Region.X, .int .i64 f0.Region.Y, .int .i64 f0.Region.W, .int .i64 f0.Region.H, .slice f0_v1a f0.V.length f0_v1c], .slice way0_v1a way0.length way0_v1c]) rfl Try.call33 rfl) (fun w hS => (road_onField_s f0 f0_v1a f0_v1c way0 way0_v1a way0_v1c _ f0_h1 way0_h1 _ _ hr1 w (hS)).mono fun e w' h => ⟨h.1, h.2⟩) ?_
  refine ql_s (.int .i64 r1) (by kernel_rfl) ?_
  refine ql_nil ?_
  refine e_then ?_
  refine c_seq ?_
  refine c_quiet ?_
  refine ql_s (.int .i64 r1) (by kernel_rfl) ?_
  refine ql_s (.bool (r1 != 0)) (by kernel_rfl) ?_
  refine ql_nil ?_
  refine e_then ?_
  refine c_cond ((r1 != 0)) rfl (fun ht1 => ?_) (fun ht1 => ?_)
  · skip
    replace hp := if_t ht1 hp
    refine c_seq ?_
    refine c_region ?_
    refine l_s (.agg #[.int .i64 0, .int .i64 0, .int .i64 0, .int .i64 0, .slice none 0 0]) (by kernel_rfl) ?_
    refine l_s (.int .i64 r1) (by kernel_rfl) ?_
    refine l_store (dd := none) (vs := [.int .i64 0, .int .i64 0, .int .i64 0, .int .i64 0, .slice none 0 0]) (cs' := [.int .i64 0, .int .i64 0, .int .i64 0, .int .i64 0, .slice none 0 0]) rfl (by kernel_rfl) (by kernel_rfl) rfl rfl (Nat.le_of_ble_eq_true rfl) rfl rfl ?_
    refine l_s (.int .i64 r1) (by kernel_rfl) ?_
    refine l_nil ?_
    refine e_perm (fr1_perm 1 _) ?_
    refine e_drop ?_
    refine e_then ?_
    refine c_ret ?_
    refine e_then_ret ?_
    obtain rfl := Option.some.inj hp
    exact post_all (vs := [.agg #[.int .i64 0, .int .i64 0, .int .i64 0, .int .i64 0, .slice none 0 0], .int .i64 r1]) (.tuple #[.agg #[.int .i64 0, .int .i64 0, .int .i64 0, .int .i64 0, .slice none 0 0], .int .i64 r1]) ⟨⟨_, 0, _, _, 5, by decide, rfl, rfl, .inr ⟨fitv26, rfl, rfl⟩⟩, rfl, trivial⟩ rfl (.inl rfl) (fun w hS => ⟨D, none, 0, (PH.le_refl _), rfl, (RO.nil _ _), hS.tail⟩)
  · skip
    replace hp := if_f ht1 hp
    refine c_skip ?_
    refine e_then ?_
    refine c_seq ?_
    refine c_seq ?_
    refine c_quiet ?_
    refine ql_s (.slice bed0_v1a bed0.length bed0_v1c) (by kernel_rfl) ?_
    refine ql_s (.int .i64 (bed0.length : Int)) (by kernel_rfl) ?_
    refine ql_s (.slice way0_v1a way0.length way0_v1c) (by kernel_rfl) ?_
    refine ql_s (.int .i64 (way0.length : Int)) (by kernel_rfl) ?_
    refine ql_s (.bool ((bed0.length : Int) != (way0.length : Int))) (by kernel_rfl) ?_
    refine ql_nil ?_
    refine e_then ?_
    refine c_cond (((bed0.length : Int) != (way0.length : Int))) rfl (fun ht2 => ?_) (fun ht2 => ?_)
    · skip
      replace hp := if_t ht2 hp
      refine c_seq ?_
      refine c_region ?_
      refine l_s (.agg #[.int .i64 0, .int .i64 0, .int .i64 0, .int .i64 0, .slice none 0 0]) (by kernel_rfl) ?_
      refine l_store (dd := none) (vs := [.int .i64 0, .int .i64 0, .int .i64 0, .int .i64 0, .slice none 0 0]) (cs' := [.int .i64 0, .int .i64 0, .int .i64 0, .int .i64 0, .slice none 0 0]) rfl (by kernel_rfl) (by kernel_rfl) rfl rfl (Nat.le_of_ble_eq_true rfl) rfl rfl ?_
      refine l_s (.int .i64 2) (by kernel_rfl) ?_
      refine l_nil ?_
      refine e_perm (fr1_perm 1 _) ?_
      refine e_drop ?_
      refine e_then ?_
      refine c_ret ?_
      refine e_then_ret ?_
      obtain rfl := Option.some.inj hp
      exact post_all (vs := [.agg #[.int .i64 0, .int .i64 0, .int .i64 0, .int .i64 0, .slice none 0 0], .int .i64 2]) (.tuple #[.agg #[.int .i64 0, .int .i64 0, .int .i64 0, .int .i64 0, .slice none 0 0], .int .i64 2]) ⟨⟨_, 0, _, _, 5, by decide, rfl, rfl, .inr ⟨fitv26, rfl, rfl⟩⟩, rfl, trivial⟩ rfl (.inl rfl) (fun w hS => ⟨D, none, 0, (PH.le_refl _), rfl, (RO.nil _ _), hS.tail⟩)
    · skip
      replace hp := if_f ht2 hp
      refine c_skip ?_
      refine e_then ?_
      refine c_seq ?_
      refine c_seq ?_
      obtain ⟨r2, hr2, hp⟩ := bnd_some hp
      refine c_quiet ?_
      refine ql_s (.slice bed0_v1a bed0.length bed0_v1c) (by kernel_rfl) ?_
      refine ql_call (v := .int .i64 r2) rfl (run_call (vs := [.slice bed0_v1a bed0.length bed0_v1c]) rfl Try.call34 rfl) (fun w hS => (field_Heights_s bed0 bed0_v1a bed0_v1c _ bed0_h1 _ _ hr2 w (hS)).mono fun e w' h => ⟨h.1, h.2⟩) ?_
      refine ql_s (.int .i64 r2) (by kernel_rfl) ?_
      refine ql_nil ?_
      refine e_then ?_
      refine c_seq ?_
      refine c_quiet ?_
      refine ql_s (.int .i64 r2) (by kernel_rfl) ?_
      refine ql_s (.bool (r2 != 0)) (by kernel_rfl) ?_
      refine ql_nil ?_
      refine e_then ?_
      refine c_cond ((r2 != 0)) rfl (fun ht3 => ?_) (fun ht3 => ?_)
      · skip
        replace hp := if_t ht3 hp
        refine c_seq ?_
        refine c_region ?_
        refine l_s (.agg #[.int .i64 0, .int .i64 0, .int .i64 0, .int .i64 0, .slice none 0 0]) (by kernel_rfl) ?_
        refine l_s (.int .i64 r2) (by kernel_rfl) ?_
        refine l_store (dd := none) (vs := [.int .i64 0, .int .i64 0, .int .i64 0, .int .i64 0, .slice none 0 0]) (cs' := [.int .i64 0, .int .i64 0, .int .i64 0, .int .i64 0, .slice none 0 0]) rfl (by kernel_rfl) (by kernel_rfl) rfl rfl (Nat.le_of_ble_eq_true rfl) rfl rfl ?_
        refine l_s (.int .i64 r2) (by kernel_rfl) ?_
        refine l_nil ?_
        refine e_perm (fr1_perm 1 _) ?_
        refine e_drop ?_
        refine e_then ?_
        refine c_ret ?_
        refine e_then_ret ?_
        obtain rfl := Option.some.inj hp
        exact post_all (vs := [.agg #[.int .i64 0, .int .i64 0, .int .i64 0, .int .i64 0, .slice none 0 0], .int .i64 r2]) (.tuple #[.agg #[.int .i64 0, .int .i64 0, .int .i64 0, .int .i64 0, .slice none 0 0], .int .i64 r2]) ⟨⟨_, 0, _, _, 5, by decide, rfl, rfl, .inr ⟨fitv26, rfl, rfl⟩⟩, rfl, trivial⟩ rfl (.inl rfl) (fun w hS => ⟨D, none, 0, (PH.le_refl _), rfl, (RO.nil _ _), hS.tail⟩)
      · skip
        replace hp := if_f ht3 hp
        refine c_skip ?_
        refine e_then ?_
        refine c_seq ?_
        refine c_seq ?_
        refine c_cutq_end [(1, .slice way0_v1a way0.length way0_v1c), (2, .slice bed0_v1a bed0.length bed0_v1c), (3, .int .i64 wide0), (4, .int .i64 soft0), (5, .pointer (some ⟨b3, 0, none⟩)), (10, .pointer (some ⟨b4, 0, none⟩)), (56, .bool ((decide (wide0 < 0)) || ((decide (wide0 > 20)) || ((decide (soft0 < 1)) || (decide (soft0 > 20))))))] ?_ ?_
        · skip
          refine c_quiet ?_
          refine ql_s (.int .i64 wide0) (by kernel_rfl) ?_
          refine ql_s (.bool (decide (wide0 < 0))) (by kernel_rfl) ?_
          refine ql_s (.bool (decide (wide0 < 0))) (by kernel_rfl) ?_
          refine ql_case 45 (decide (wide0 < 0)) rfl (fun hg1 => ?_) (fun hg1 => ?_)
          · skip
            refine ql_s undef (by kernel_rfl) ?_
            refine ql_s undef (by kernel_rfl) ?_
            refine ql_s (.bool true) (by kernel_rfl) ?_
            refine ql_s (.bool true) (by kernel_rfl) ?_
            refine ql_s undef (by kernel_rfl) ?_
            refine ql_s undef (by kernel_rfl) ?_
            refine ql_s (.bool true) (by kernel_rfl) ?_
            refine ql_s (.bool true) (by kernel_rfl) ?_
            refine ql_s undef (by kernel_rfl) ?_
            refine ql_s undef (by kernel_rfl) ?_
            refine ql_s (.bool true) (by kernel_rfl) ?_
            refine ql_nil (e_cutq ?_)
            exact ⟨rfl, rfl, rfl, rfl, rfl, rfl, (congrArg Value.bool (by first | rfl | (rw [hg1]; rfl) | simp [hg1])), trivial⟩
          · skip
            refine ql_s (.int .i64 wide0) (by kernel_rfl) ?_
            refine ql_s (.bool (decide (wide0 > 20))) (by kernel_rfl) ?_
            refine ql_s (.bool (decide (wide0 > 20))) (by kernel_rfl) ?_
            refine ql_s (.bool (decide (wide0 > 20))) (by kernel_rfl) ?_
            refine ql_case 49 (decide (wide0 > 20)) rfl (fun hg2 => ?_) (fun hg2 => ?_)
            · skip
              refine ql_s undef (by kernel_rfl) ?_
              refine ql_s undef (by kernel_rfl) ?_
              refine ql_s (.bool true) (by kernel_rfl) ?_
              refine ql_s (.bool true) (by kernel_rfl) ?_
              refine ql_s undef (by kernel_rfl) ?_
              refine ql_s undef (by kernel_rfl) ?_
              refine ql_s (.bool true) (by kernel_rfl) ?_
              refine ql_nil (e_cutq ?_)
              exact ⟨rfl, rfl, rfl, rfl, rfl, rfl, (congrArg Value.bool (by first | rfl | (rw [hg1, hg2]; rfl) | simp [hg1, hg2])), trivial⟩
            · skip
              refine ql_s (.int .i64 soft0) (by kernel_rfl) ?_
              refine ql_s (.bool (decide (soft0 < 1))) (by kernel_rfl) ?_
              refine ql_s (.bool (decide (soft0 < 1))) (by kernel_rfl) ?_
              refine ql_s (.bool (decide (soft0 < 1))) (by kernel_rfl) ?_
              refine ql_case 53 (decide (soft0 < 1)) rfl (fun hg3 => ?_) (fun hg3 => ?_)
              · skip
                refine ql_s undef (by kernel_rfl) ?_
                refine ql_s undef (by kernel_rfl) ?_
                refine ql_s (.bool true) (by kernel_rfl) ?_
                refine ql_nil (e_cutq ?_)
                exact ⟨rfl, rfl, rfl, rfl, rfl, rfl, (congrArg Value.bool (by first | rfl | (rw [hg1, hg2, hg3]; rfl) | simp [hg1, hg2, hg3])), trivial⟩
              · skip
                refine ql_s (.int .i64 soft0) (by kernel_rfl) ?_
                refine ql_s (.bool (decide (soft0 > 20))) (by kernel_rfl) ?_
                refine ql_s (.bool (decide (soft0 > 20))) (by kernel_rfl) ?_
                refine ql_nil (e_cutq ?_)
                exact ⟨rfl, rfl, rfl, rfl, rfl, rfl, (congrArg Value.bool (by first | rfl | (rw [hg1, hg2, hg3]; rfl) | simp [hg1, hg2, hg3])), trivial⟩
        intro _
        refine e_then ?_
        refine c_cond (((decide (wide0 < 0)) || ((decide (wide0 > 20)) || ((decide (soft0 < 1)) || (decide (soft0 > 20)))))) rfl (fun ht4 => ?_) (fun ht4 => ?_)
        · skip
          replace hp := if_t ht4 hp
          refine c_seq ?_
          refine c_region ?_
          refine l_s (.agg #[.int .i64 0, .int .i64 0, .int .i64 0, .int .i64 0, .slice none 0 0]) (by kernel_rfl) ?_
          refine l_store (dd := none) (vs := [.int .i64 0, .int .i64 0, .int .i64 0, .int .i64 0, .slice none 0 0]) (cs' := [.int .i64 0, .int .i64 0, .int .i64 0, .int .i64 0, .slice none 0 0]) rfl (by kernel_rfl) (by kernel_rfl) rfl rfl (Nat.le_of_ble_eq_true rfl) rfl rfl ?_
          refine l_s (.int .i64 3) (by kernel_rfl) ?_
          refine l_nil ?_
          refine e_perm (fr1_perm 1 _) ?_
          refine e_drop ?_
          refine e_then ?_
          refine c_ret ?_
          refine e_then_ret ?_
          obtain rfl := Option.some.inj hp
          exact post_all (vs := [.agg #[.int .i64 0, .int .i64 0, .int .i64 0, .int .i64 0, .slice none 0 0], .int .i64 3]) (.tuple #[.agg #[.int .i64 0, .int .i64 0, .int .i64 0, .int .i64 0, .slice none 0 0], .int .i64 3]) ⟨⟨_, 0, _, _, 5, by decide, rfl, rfl, .inr ⟨fitv26, rfl, rfl⟩⟩, rfl, trivial⟩ rfl (.inl rfl) (fun w hS => ⟨D, none, 0, (PH.le_refl _), rfl, (RO.nil _ _), hS.tail⟩)
        · skip
          replace hp := if_f ht4 hp
          refine c_skip ?_
          refine e_then ?_
          refine c_seq ?_
          obtain ⟨r3, hr3, hp⟩ := bnd_some hp
          refine c_region ?_
          refine l_s (.pointer (some ⟨b3, 0, none⟩)) (by kernel_rfl) ?_
          refine l_q rfl (qs_ldpt (encW 4 (by decide)) fitv23 rfl 1 rfl (.agg #[.int .i64 f0.Region.X, .int .i64 f0.Region.Y, .int .i64 f0.Region.W, .int .i64 f0.Region.H]) (Nat.le_of_ble_eq_true rfl) rfl) ?_
          refine l_s (.slice way0_v1a way0.length way0_v1c) (by kernel_rfl) ?_
          refine l_s (.int .i64 wide0) (by kernel_rfl) ?_
          refine l_s (.int .i64 soft0) (by kernel_rfl) ?_
          refine l_s (.int .i64 (addI wide0 soft0)) (by kernel_rfl) ?_
          refine l_call rfl rfl Try.call35 (vs := [.agg #[.int .i64 f0.Region.X, .int .i64 f0.Region.Y, .int .i64 f0.Region.W, .int .i64 f0.Region.H], .slice way0_v1a way0.length way0_v1c, .int .i64 (addI wide0 soft0)]) rfl (fun v D2 As2 => ∃ (a3 : Option Addr) (cp3 : Nat) (a4 : Option Addr) (cp4 : Nat), PH.le D D2 ∧ v = .tuple #[.slice a3 r3.1.length cp3, .slice a4 r3.2.length cp4] ∧ RO (encI .i64) D2 (.slice a3 r3.1.length cp3) r3.1 ∧ RO (encI .i64) D2 (.slice a4 r3.2.length cp4) r3.2 ∧ As2 = pt b4 [.int .i64 0, .int .i64 0, .int .i64 0, .int .i64 0, .slice none 0 0] 26 :: pt b3 [.int .i64 f0.Region.X, .int .i64 f0.Region.Y, .int .i64 f0.Region.W, .int .i64 f0.Region.H, .slice f0_v1a f0.V.length f0_v1c] 26 :: F) (fun w hS => (road_nearest_s f0.Region way0 way0_v1a way0_v1c (addI wide0 soft0) _ way0_h1 _ _ hr3 w (hS)).mono fun e w' ⟨D2, a3, cp3, a4, cp4, hle2, he, h3, h4, hS2⟩ => ⟨_, D2, _, he, ⟨a3, cp3, a4, cp4, hle2, rfl, h3, h4, rfl⟩, hS2⟩) ?_
          rintro _ D2 As2 ⟨a3, cp3, a4, cp4, hle2, rfl, h3, h4, hA2⟩
          subst As2
          replace way0_h1 := way0_h1.mono hle2
          replace bed0_h1 := bed0_h1.mono hle2
          replace f0_h1 := f0_h1.mono hle2
          refine l_s (.tuple #[.slice a3 r3.1.length cp3, .slice a4 r3.2.length cp4]) (by kernel_rfl) ?_
          refine l_s (.slice a3 r3.1.length cp3) (by kernel_rfl) ?_
          refine l_s (.slice a4 r3.2.length cp4) (by kernel_rfl) ?_
          refine l_s (.slice a3 r3.1.length cp3) (by kernel_rfl) ?_
          refine l_s (.slice a4 r3.2.length cp4) (by kernel_rfl) ?_
          refine l_nil ?_
          refine e_then ?_
          refine c_seq ?_
          obtain ⟨r4, hr4, hp⟩ := bnd_some hp
          refine c_region ?_
          refine l_q rfl (qs_ldpt (encW 5 (by decide)) fitv26 rfl 1 rfl (.agg #[.int .i64 f0.Region.X, .int .i64 f0.Region.Y, .int .i64 f0.Region.W, .int .i64 f0.Region.H, .slice f0_v1a f0.V.length f0_v1c]) (Nat.le_of_ble_eq_true rfl) rfl) ?_
          refine l_call rfl rfl Try.call36 (vs := [.agg #[.int .i64 f0.Region.X, .int .i64 f0.Region.Y, .int .i64 f0.Region.W, .int .i64 f0.Region.H, .slice f0_v1a f0.V.length f0_v1c]]) rfl (fun v D4 As4 => ∃ (a6 : Option Addr) (cp6 : Nat), PH.le D2 D4 ∧ v = .agg #[.int .i64 r4.Region.X, .int .i64 r4.Region.Y, .int .i64 r4.Region.W, .int .i64 r4.Region.H, .slice a6 r4.V.length cp6] ∧ As4 = OwnS D4 (encF .f32) 40 (.slice a6 r4.V.length cp6) r4.V :: pt b4 [.int .i64 0, .int .i64 0, .int .i64 0, .int .i64 0, .slice none 0 0] 26 :: pt b3 [.int .i64 f0.Region.X, .int .i64 f0.Region.Y, .int .i64 f0.Region.W, .int .i64 f0.Region.H, .slice f0_v1a f0.V.length f0_v1c] 26 :: F) (fun w hS => (field_Copy_s f0 f0_v1a f0_v1c _ f0_h1 _ _ hr4 w (hS)).mono fun e w' ⟨D4, a6, cp6, hle4, he, hS2⟩ => ⟨_, D4, _, he, ⟨a6, cp6, hle4, rfl, rfl⟩, hS2⟩) ?_
          rintro _ D4 As4 ⟨a6, cp6, hle4, rfl, hA4⟩
          subst As4
          replace bed0_h1 := bed0_h1.mono hle4
          replace h3 := h3.mono hle4
          replace h4 := h4.mono hle4
          replace f0_h1 := f0_h1.mono hle4
          refine l_alloc (zs := [.int .i64 0, .int .i64 0, .int .i64 0, .int .i64 0, .slice none 0 0]) rfl (by kernel_rfl) (fun b6 => ?_)
          refine l_nilS D4 (encF .f32) 40 ?_
          refine l_perm (fr1_perm 1 _) ?_
          refine l_store (dd := none) (vs := [.int .i64 r4.Region.X, .int .i64 r4.Region.Y, .int .i64 r4.Region.W, .int .i64 r4.Region.H, .slice a6 r4.V.length cp6]) (cs' := [.int .i64 r4.Region.X, .int .i64 r4.Region.Y, .int .i64 r4.Region.W, .int .i64 r4.Region.H, .slice a6 r4.V.length cp6]) rfl (by kernel_rfl) (by kernel_rfl) rfl rfl (Nat.le_of_ble_eq_true rfl) rfl rfl ?_
          refine l_nil ?_
          refine e_perm (fr1_perm 1 _) ?_
          refine e_drop ?_
          refine e_then ?_
          refine c_seq ?_
          refine c_seq ?_
          refine c_quiet ?_
          refine ql_s (.slice a3 r3.1.length cp3) (by kernel_rfl) ?_
          refine ql_s (.int .i64 (r3.1.length : Int)) (by kernel_rfl) ?_
          refine ql_s (.int .i64 0) (by kernel_rfl) ?_
          refine ql_nil ?_
          refine e_then ?_
          have hb0 : (r3.1.length : Int) ≤ 4611686018427387904 := by have := RO.bound h3; omega
          have hm0 : r3.1.length = (r3.1.length : Int).toNat := by omega
          have hm1 := hm0; have hb1 := hb0; clear hm0 hb0
          obtain ⟨x1, hs1, hp⟩ := bnd_some hp
          obtain ⟨body1, hbody1, hs1⟩ := forS_gen hs1
          refine c_cut_end (fun φ1 D5 As1 => Is φ1 [(10, .pointer (some ⟨b4, 0, none⟩)), (16, .pointer (some ⟨b6, 0, none⟩))] ∧ PH.le D4 D5 ∧ As1 = pt b6 [.int .i64 r4.Region.X, .int .i64 r4.Region.Y, .int .i64 r4.Region.W, .int .i64 r4.Region.H, .slice a6 r4.V.length cp6] 26 :: OwnS D5 (encF .f32) 40 (.slice a6 r4.V.length cp6) x1 :: pt b4 [.int .i64 0, .int .i64 0, .int .i64 0, .int .i64 0, .slice none 0 0] 26 :: pt b3 [.int .i64 f0.Region.X, .int .i64 f0.Region.Y, .int .i64 f0.Region.W, .int .i64 f0.Region.H, .slice f0_v1a f0.V.length f0_v1c] 26 :: F) ?_ ?_
          · skip
            refine c_block ?_
            refine c_perm (fr1_perm 3 _) ?_
            refine c_perm (fr1_perm 3 _) ?_
            refine c_perm (fr1_perm 3 _) ?_
            refine c_perm (fr1_perm 3 _) ?_
            refine c_loop (fun k φ1 D6 As1 => ∃ (j1 i1 : Nat) (s1 : (List Nat)), k = j1 + 1 ∧ i1 + j1 = r3.1.length ∧ Is φ1 [(2, .slice bed0_v1a bed0.length bed0_v1c), (3, .int .i64 wide0), (4, .int .i64 soft0), (5, .pointer (some ⟨b3, 0, none⟩)), (10, .pointer (some ⟨b4, 0, none⟩)), (15, .slice a4 r3.2.length cp4), (16, .pointer (some ⟨b6, 0, none⟩)), (70, .slice a3 r3.1.length cp3), (71, .int .i64 (r3.1.length : Int)), (72, .int .i64 (i1 : Int))] ∧ PH.le D4 D6 ∧ As1 = pt b6 [.int .i64 r4.Region.X, .int .i64 r4.Region.Y, .int .i64 r4.Region.W, .int .i64 r4.Region.H, .slice a6 r4.V.length cp6] 26 :: OwnS D6 (encF .f32) 40 (.slice a6 r4.V.length cp6) s1 :: pt b4 [.int .i64 0, .int .i64 0, .int .i64 0, .int .i64 0, .slice none 0 0] 26 :: pt b3 [.int .i64 f0.Region.X, .int .i64 f0.Region.Y, .int .i64 f0.Region.W, .int .i64 f0.Region.H, .slice f0_v1a f0.V.length f0_v1c] 26 :: F ∧ forS body1 j1 i1 s1 = some x1) ⟨r3.1.length + 1, r3.1.length, 0, r4.V, rfl, Nat.zero_add _, ⟨rfl, rfl, rfl, rfl, rfl, rfl, rfl, rfl, rfl, rfl, trivial⟩, (PH.le_refl _), rfl, hs1⟩ ?_ ?_
            · rintro _ _ _ ⟨_, _, _, h0, _⟩; omega
            intro k1
            rintro φ1 D6 As5 ⟨j1, i1, s1, hk1, hij1, hI1, hD1, hA5, hs2⟩
            subst As5
            replace bed0_h1 := bed0_h1.mono hD1
            replace h4 := h4.mono hD1
            replace h3 := h3.mono hD1
            replace f0_h1 := f0_h1.mono hD1
            refine c_frame _ hI1 ?_
            obtain rfl : k1 = j1 := by omega
            clear hk1
            rcases k1 with _ | j1
            · skip
              refine c_seq ?_
              refine c_quiet ?_
              refine ql_s (.bool (decide ((i1 : Int) < (r3.1.length : Int)))) (by kernel_rfl) ?_
              refine ql_nil ?_
              refine e_then ?_
              refine c_seq ?_
              refine c_cond (decide ((i1 : Int) < (r3.1.length : Int))) rfl (fun ht5 => absurd ((dec_lt_f hm1 (by omega)).symm.trans ht5) (by simp)) (fun _ => ?_)
              refine c_exit ?_
              refine e_then_exit ?_
              refine e_then_exit ?_
              obtain rfl := Option.some.inj hs2
              refine e_blk_exit ?_
              refine e_perm (fr1_perm 3 _) ?_
              refine e_perm (fr1_perm 3 _) ?_
              refine e_perm (fr1_perm 3 _) ?_
              refine e_perm (fr1_perm 3 _) ?_
              exact e_cut ⟨⟨rfl, rfl, trivial⟩, hD1, rfl⟩
            · skip
              obtain ⟨y1, hx1, hs2⟩ := forS_some hs2
              replace hx1 := (congrFun (congrFun hbody1 i1) s1).trans hx1
              refine c_seq ?_
              refine c_quiet ?_
              refine ql_s (.bool (decide ((i1 : Int) < (r3.1.length : Int)))) (by kernel_rfl) ?_
              refine ql_nil ?_
              refine e_then ?_
              refine c_seq ?_
              refine c_cond (decide ((i1 : Int) < (r3.1.length : Int))) rfl (fun _ => ?_) (fun ht6 => absurd ((dec_lt_t hm1 (by omega)).symm.trans ht6) (by simp))
              refine c_skip ?_
              refine e_then ?_
              refine c_seq ?_
              obtain ⟨s2, hs3, hx1⟩ := bnd_some hx1
              refine c_cut_end (fun φ1 D7 As1 => Is φ1 [(2, .slice bed0_v1a bed0.length bed0_v1c), (3, .int .i64 wide0), (4, .int .i64 soft0), (5, .pointer (some ⟨b3, 0, none⟩)), (10, .pointer (some ⟨b4, 0, none⟩)), (15, .slice a4 r3.2.length cp4), (16, .pointer (some ⟨b6, 0, none⟩)), (70, .slice a3 r3.1.length cp3), (71, .int .i64 (r3.1.length : Int)), (72, .int .i64 (i1 : Int))] ∧ PH.le D6 D7 ∧ As1 = pt b6 [.int .i64 r4.Region.X, .int .i64 r4.Region.Y, .int .i64 r4.Region.W, .int .i64 r4.Region.H, .slice a6 r4.V.length cp6] 26 :: OwnS D7 (encF .f32) 40 (.slice a6 r4.V.length cp6) s2 :: pt b4 [.int .i64 0, .int .i64 0, .int .i64 0, .int .i64 0, .slice none 0 0] 26 :: pt b3 [.int .i64 f0.Region.X, .int .i64 f0.Region.Y, .int .i64 f0.Region.W, .int .i64 f0.Region.H, .slice f0_v1a f0.V.length f0_v1c] 26 :: F) ?_ ?_
              · skip
                refine c_block ?_
                refine c_seq ?_
                obtain ⟨x2, hx2, hs3⟩ := bnd_some hs3
                obtain ⟨b7, o1, h7, hq1⟩ := RO.at h3 hx2
                refine c_quiet ?_
                refine ql_s (.int .i64 (i1 : Int)) (by kernel_rfl) ?_
                refine ql_q rfl (qs_idx hq1 Try.underlying75 fit3 rfl rfl) ?_
                refine ql_q rfl (qs_ldAtV fit3 rfl h7 valI) ?_
                refine ql_s (.int .i64 (i1 : Int)) (by kernel_rfl) ?_
                refine ql_s (.int .i64 x2) (by kernel_rfl) ?_
                refine ql_nil ?_
                refine e_then ?_
                refine c_seq ?_
                refine c_seq ?_
                refine c_quiet ?_
                refine ql_s (.int .i64 x2) (by kernel_rfl) ?_
                refine ql_s (.bool (decide (x2 < 0))) (by kernel_rfl) ?_
                refine ql_nil ?_
                refine e_then ?_
                refine c_cond (decide (x2 < 0)) rfl (fun ht7 => ?_) (fun ht7 => ?_)
                · skip
                  replace hs3 := if_t ht7 hs3
                  refine c_exit ?_
                  refine e_then_exit ?_
                  refine e_blk_exit ?_
                  refine e_perm (fr1_perm 3 _) ?_
                  refine e_perm (fr1_perm 3 _) ?_
                  refine e_perm (fr1_perm 3 _) ?_
                  refine e_perm (fr1_perm 3 _) ?_
                  obtain rfl := Option.some.inj hs3
                  exact e_cut ⟨⟨rfl, rfl, rfl, rfl, rfl, rfl, rfl, rfl, rfl, rfl, trivial⟩, (PH.le_refl _), rfl⟩
                · skip
                  replace hs3 := if_f ht7 hs3
                  refine c_skip ?_
                  refine e_then ?_
                  refine c_seq ?_
                  obtain ⟨x3, hx3, hs3⟩ := bnd_some hs3
                  obtain ⟨b8, o2, h8, hq2⟩ := RO.at bed0_h1 hx3
                  obtain ⟨x4, hx4, hs3⟩ := bnd_some hs3
                  obtain ⟨b9, o3, h9, hq3⟩ := RO.at f0_h1 hx4
                  refine c_quiet_draw hmix (by kernel_rfl) ?_
                  refine ql_s (.slice bed0_v1a bed0.length bed0_v1c) (by kernel_rfl) ?_
                  refine ql_s (.int .i64 x2) (by kernel_rfl) ?_
                  refine ql_q rfl (qs_idx hq2 Try.underlying24 fit40 rfl rfl) ?_
                  refine ql_q rfl (qs_ldAtV fit40 rfl h8 valF) ?_
                  refine ql_s (.pointer (some ⟨b3, 4, none⟩)) (by kernel_rfl) ?_
                  refine ql_q rfl (qs_ldpt encV fitv24 rfl 3 rfl (.slice f0_v1a f0.V.length f0_v1c) (Nat.le_of_ble_eq_true rfl) rfl) ?_
                  refine ql_s (.int .i64 (i1 : Int)) (by kernel_rfl) ?_
                  refine ql_q rfl (qs_idx hq3 Try.underlying24 fit40 rfl rfl) ?_
                  refine ql_q rfl (qs_ldAtV fit40 rfl h9 valF) ?_
                  refine ql_s (.float .f32 x3) (by kernel_rfl) ?_
                  refine ql_s (.float .f32 x4) (by kernel_rfl) ?_
                  refine ql_nil ?_
                  refine e_then ?_
                  refine c_seq ?_
                  refine c_seq ?_
                  obtain ⟨x5, hx5, hs3⟩ := bnd_some hs3
                  obtain ⟨b10, o4, h10, hq4⟩ := RO.at h4 hx5
                  refine c_quiet ?_
                  refine ql_s (.slice a4 r3.2.length cp4) (by kernel_rfl) ?_
                  refine ql_s (.int .i64 (i1 : Int)) (by kernel_rfl) ?_
                  refine ql_q rfl (qs_idx hq4 Try.underlying75 fit3 rfl rfl) ?_
                  refine ql_q rfl (qs_ldAtV fit3 rfl h10 valI) ?_
                  refine ql_s (.int .i64 wide0) (by kernel_rfl) ?_
                  refine ql_s (.int .i64 wide0) (by kernel_rfl) ?_
                  refine ql_s (.int .i64 (mulI wide0 wide0)) (by kernel_rfl) ?_
                  refine ql_s (.bool (decide (x5 ≤ (mulI wide0 wide0)))) (by kernel_rfl) ?_
                  refine ql_nil ?_
                  refine e_then ?_
                  refine c_cond (decide (x5 ≤ (mulI wide0 wide0))) rfl (fun ht8 => ?_) (fun ht8 => ?_)
                  · skip
                    replace hs3 := if_t ht8 hs3
                    refine c_seq ?_
                    obtain ⟨x6, hx6, hs3⟩ := bnd_some hs3
                    obtain ⟨l1, hl1, hs3⟩ := bnd_some hs3
                    replace hl1 := Option.some.inj hl1
                    refine c_perm (fr1_perm 1 _) ?_
                    refine c_adr (fun b11 hb2 hl2 hbd1 hcap1 => ?_)
                    refine c_region ?_
                    refine l_s (.pointer (some ⟨b6, 4, none⟩)) (by kernel_rfl) ?_
                    refine l_q rfl (qs_ldpt encV fitv24 rfl 1 rfl (.slice a6 r4.V.length cp6) (Nat.le_of_ble_eq_true rfl) rfl) ?_
                    refine l_s (.int .i64 (i1 : Int)) (by kernel_rfl) ?_
                    refine l_s (.float .f32 x3) (by kernel_rfl) ?_
                    refine l_q rfl (qs_idx (IsIdx.beg (e := encF .f32) hb2 hl2 hx6) Try.underlying24 fit40 rfl rfl) ?_
                    refine l_stS (vs := [.float .f32 x3]) hb2 hl2 hl1 rfl fit40 rfl rfl rfl rfl (idx_some hx6).2.1 ?_
                    refine l_nil ?_
                    refine e_then ?_
                    refine c_exit ?_
                    refine e_then_exit ?_
                    refine e_blk_exit ?_
                    refine e_perm (fr1_perm 3 _) ?_
                    refine e_perm (fr1_perm 3 _) ?_
                    refine e_perm (fr1_perm 2 _) ?_
                    refine e_perm (fr1_perm 3 _) ?_
                    obtain rfl := Option.some.inj hs3
                    exact e_cut ⟨⟨rfl, rfl, rfl, rfl, rfl, rfl, rfl, rfl, rfl, rfl, trivial⟩, (PH.le_refl _), rfl⟩
                  · skip
                    replace hs3 := if_f ht8 hs3
                    refine c_skip ?_
                    refine e_then ?_
                    refine c_seq ?_
                    obtain ⟨x7, hx7, hs3⟩ := bnd_some hs3
                    obtain ⟨b12, o5, h11, hq5⟩ := RO.at h4 hx7
                    obtain ⟨r5, hr5, hs3⟩ := bnd_some hs3
                    obtain ⟨r6, hr6, hs3⟩ := bnd_some hs3
                    obtain ⟨r7, hr7, hs3⟩ := bnd_some hs3
                    refine c_quiet ?_
                    refine ql_s (.slice a4 r3.2.length cp4) (by kernel_rfl) ?_
                    refine ql_s (.int .i64 (i1 : Int)) (by kernel_rfl) ?_
                    refine ql_q rfl (qs_idx hq5 Try.underlying75 fit3 rfl rfl) ?_
                    refine ql_q rfl (qs_ldAtV fit3 rfl h11 valI) ?_
                    refine ql_s (.float .f32 (fofI .f32 x7)) (by kernel_rfl) ?_
                    refine ql_call (v := .float .f32 r5) rfl (run_call (vs := [.float .f32 (fofI .f32 x7)]) rfl Try.call37 rfl) (fun w hS => (noise_Root_s (fofI .f32 x7) _  _ _ hr5 w (hS)).mono fun e w' h => ⟨h.1, h.2⟩) ?_
                    refine ql_s (.int .i64 wide0) (by kernel_rfl) ?_
                    refine ql_s (.float .f32 (fofI .f32 wide0)) (by kernel_rfl) ?_
                    refine ql_q rfl (qs_fop hr6 rfl rfl) ?_
                    refine ql_s (.int .i64 soft0) (by kernel_rfl) ?_
                    refine ql_s (.float .f32 (fofI .f32 soft0)) (by kernel_rfl) ?_
                    refine ql_q rfl (qs_fop hr7 rfl rfl) ?_
                    refine ql_s (.float .f32 r7) (by kernel_rfl) ?_
                    refine ql_nil ?_
                    refine e_then ?_
                    refine c_seq ?_
                    refine c_quiet ?_
                    refine ql_s (.float .f32 r7) (by kernel_rfl) ?_
                    refine ql_s (.bool (flt .f32 r7 1065353216)) (by kernel_rfl) ?_
                    refine ql_nil ?_
                    refine e_then ?_
                    refine c_cond (flt .f32 r7 1065353216) rfl (fun ht9 => ?_) (fun ht9 => ?_)
                    · skip
                      replace hs3 := if_t ht9 hs3
                      refine c_seq ?_
                      obtain ⟨r8, hr8, hs3⟩ := bnd_some hs3
                      refine c_quiet ?_
                      refine ql_s (.float .f32 r7) (by kernel_rfl) ?_
                      refine ql_call (v := .tuple #[.float .f32 r8.1, .int .i64 r8.2]) rfl (run_call (vs := [.float .f32 r7]) rfl Try.call38 rfl) (fun w hS => (noise_Ease_s r7 _  _ _ hr8 w (hS)).mono fun e w' h => ⟨h.1, h.2⟩) ?_
                      refine ql_s (.tuple #[.float .f32 r8.1, .int .i64 r8.2]) (by kernel_rfl) ?_
                      refine ql_s (.float .f32 r8.1) (by kernel_rfl) ?_
                      refine ql_s (.int .i64 r8.2) (by kernel_rfl) ?_
                      refine ql_s (.float .f32 r8.1) (by kernel_rfl) ?_
                      refine ql_s (.int .i64 r8.2) (by kernel_rfl) ?_
                      refine ql_nil ?_
                      refine e_then ?_
                      obtain ⟨r9, hr9, hs3⟩ := bnd_some hs3
                      obtain ⟨x8, hx8, hs3⟩ := bnd_some hs3
                      obtain ⟨l2, hl3, hs3⟩ := bnd_some hs3
                      replace hl3 := Option.some.inj hl3
                      refine c_perm (fr1_perm 1 _) ?_
                      refine c_adr (fun b13 hb3 hl4 hbd2 hcap2 => ?_)
                      refine c_perm (fr1_perm 3 _) ?_
                      refine c_perm (fr1_perm 3 _) ?_
                      refine c_perm (fr1_perm 3 _) ?_
                      refine c_order (B := [pt b6 [.int .i64 r4.Region.X, .int .i64 r4.Region.Y, .int .i64 r4.Region.W, .int .i64 r4.Region.H, .slice a6 r4.V.length cp6] 26, pt b4 [.int .i64 0, .int .i64 0, .int .i64 0, .int .i64 0, .slice none 0 0] 26, pt b3 [.int .i64 f0.Region.X, .int .i64 f0.Region.Y, .int .i64 f0.Region.W, .int .i64 f0.Region.H, .slice f0_v1a f0.V.length f0_v1c] 26]) (.q 0 (.q 1 (.q 2 (.q 3 (.q 4 (.q 5 (.q 6 (.q 7 (.e 8 .nil))))))))) hmix (by kernel_rfl) (NoPanic.blk (NoPanic.then (NoPanic.then (NoPanic.then (NoPanic.blk (NoPanic.then (NoPanic.then NoPanic.post))))))) ?_
                      refine o_s (.pointer (some ⟨b6, 4, none⟩)) rfl (by kernel_rfl) ?_
                      refine o_qs rfl rfl (qs_ldpt encV fitv24 rfl 0 rfl (.slice a6 r4.V.length cp6) (Nat.le_of_ble_eq_true rfl) rfl) ?_
                      refine o_s (.int .i64 (i1 : Int)) rfl (by kernel_rfl) ?_
                      refine o_s (.float .f32 x3) rfl (by kernel_rfl) ?_
                      refine o_s (.float .f32 x4) rfl (by kernel_rfl) ?_
                      refine o_s (.float .f32 r8.1) rfl (by kernel_rfl) ?_
                      refine o_call (v := .float .f32 r9) rfl rfl (run_call (vs := [.float .f32 x3, .float .f32 x4, .float .f32 r8.1]) rfl Try.call39 rfl) (fun D' R' hD w hS => (field_Mix_s x3 x4 r8.1 _  _ _ hr9 w (hS)).mono fun e w' h => ⟨h.1, h.2⟩) ?_
                      refine o_qs rfl rfl (qs_idx (IsIdx.beg (e := encF .f32) hb3 hl4 hx8) Try.underlying24 fit40 rfl rfl) ?_
                      refine o_stS (vs := [.float .f32 r9]) hb3 hl4 hl3 rfl rfl (PH.le_refl _) fit40 rfl rfl rfl rfl (idx_some hx8).2.1 ?_
                      refine o_nil ?_
                      refine e_blk ?_
                      refine e_perm (fr1_perm 2 _) ?_
                      refine e_perm (fr1_perm 2 _) ?_
                      refine e_perm (fr1_perm 3 _) ?_
                      refine e_perm (fr1_perm 3 _) ?_
                      obtain rfl := Option.some.inj hs3
                      exact e_cut ⟨⟨rfl, rfl, rfl, rfl, rfl, rfl, rfl, rfl, rfl, rfl, trivial⟩, (PH.le_refl _), rfl⟩
                    · skip
                      replace hs3 := if_f ht9 hs3
                      refine c_skip ?_
                      refine e_blk ?_
                      refine e_perm (fr1_perm 3 _) ?_
                      refine e_perm (fr1_perm 3 _) ?_
                      refine e_perm (fr1_perm 3 _) ?_
                      refine e_perm (fr1_perm 3 _) ?_
                      obtain rfl := Option.some.inj hs3
                      exact e_cut ⟨⟨rfl, rfl, rfl, rfl, rfl, rfl, rfl, rfl, rfl, rfl, trivial⟩, (PH.le_refl _), rfl⟩
              · skip
                rintro φ2 D7 As6 ⟨hI2, hD2, hA6⟩
                subst As6
                replace bed0_h1 := bed0_h1.mono hD2
                replace h4 := h4.mono hD2
                replace h3 := h3.mono hD2
                replace f0_h1 := f0_h1.mono hD2
                refine e_frame _ hI2 ?_
                refine e_then ?_
                refine c_quiet ?_
                refine ql_s (.int .i64 (addI (i1 : Int) 1)) (by kernel_rfl) ?_
                refine ql_s (.int .i64 (addI (i1 : Int) 1)) (by kernel_rfl) ?_
                refine ql_nil ?_
                refine e_perm (fr1_perm 3 _) ?_
                refine e_perm (fr1_perm 3 _) ?_
                refine e_perm (fr1_perm 3 _) ?_
                refine e_perm (fr1_perm 3 _) ?_
                obtain rfl := Option.some.inj hx1
                exact e_cut ⟨j1, i1 + 1, s2, by omega, by omega, ⟨rfl, rfl, rfl, rfl, rfl, rfl, rfl, rfl, rfl, (congrArg (Value.int .i64) (addI_succ (by omega))), trivial⟩, (PH.le_trans hD1 hD2), rfl, hs2⟩
          · skip
            rintro φ3 D5 As7 ⟨hI3, hD3, hA7⟩
            subst As7
            replace f0_h1 := f0_h1.mono hD3
            refine e_frame _ hI3 ?_
            refine e_then ?_
            refine c_seq ?_
            obtain ⟨r10, hr10, hp⟩ := bnd_some hp
            refine c_perm (fr1_perm 1 _) ?_
            refine c_adr (fun b14 hb4 hl5 hbd3 hcap3 => ?_)
            refine c_region ?_
            refine l_q rfl (qs_ldpt (encW 5 (by decide)) fitv26 rfl 1 rfl (.agg #[.int .i64 r4.Region.X, .int .i64 r4.Region.Y, .int .i64 r4.Region.W, .int .i64 r4.Region.H, .slice a6 r4.V.length cp6]) (Nat.le_of_ble_eq_true rfl) rfl) ?_
            refine l_layS (PH.le_refl _) (fun D10 hle7 h14 => ?_)
            replace f0_h1 := f0_h1.mono hle7
            refine l_call rfl rfl Try.call40 (vs := [.agg #[.int .i64 r4.Region.X, .int .i64 r4.Region.Y, .int .i64 r4.Region.W, .int .i64 r4.Region.H, .slice a6 r4.V.length cp6]]) rfl (fun v D11 As9 => ∃ (a8 : Option Addr) (cp8 : Nat), PH.le D10 D11 ∧ v = .tuple #[.agg #[.int .i64 r10.1.Region.X, .int .i64 r10.1.Region.Y, .int .i64 r10.1.Region.W, .int .i64 r10.1.Region.H, .slice a8 r10.1.V.length cp8], .int .i64 r10.2] ∧ RO (encF .f32) D11 (.slice a8 r10.1.V.length cp8) r10.1.V ∧ As9 = pt b6 [.int .i64 r4.Region.X, .int .i64 r4.Region.Y, .int .i64 r4.Region.W, .int .i64 r4.Region.H, .slice a6 r4.V.length cp6] 26 :: pt b4 [.int .i64 0, .int .i64 0, .int .i64 0, .int .i64 0, .slice none 0 0] 26 :: pt b3 [.int .i64 f0.Region.X, .int .i64 f0.Region.Y, .int .i64 f0.Region.W, .int .i64 f0.Region.H, .slice f0_v1a f0.V.length f0_v1c] 26 :: F) (fun w hS => (show Calls Try.prog 40 #[.agg #[.int .i64 r4.Region.X, .int .i64 r4.Region.Y, .int .i64 r4.Region.W, .int .i64 r4.Region.H, .slice a6 r4.V.length cp6]] w (fun e w' => ∃ (D11 : PH) (a8 : Option Addr) (cp8 : Nat), PH.le D10 D11 ∧ e = .returned (.tuple #[.agg #[.int .i64 r10.1.Region.X, .int .i64 r10.1.Region.Y, .int .i64 r10.1.Region.W, .int .i64 r10.1.Region.H, .slice a8 r10.1.V.length cp8], .int .i64 r10.2]) ∧ RO (encF .f32) D11 (.slice a8 r10.1.V.length cp8) r10.1.V ∧ SInv D11 (pt b6 [.int .i64 r4.Region.X, .int .i64 r4.Region.Y, .int .i64 r4.Region.W, .int .i64 r4.Region.H, .slice a6 r4.V.length cp6] 26 :: pt b4 [.int .i64 0, .int .i64 0, .int .i64 0, .int .i64 0, .slice none 0 0] 26 :: pt b3 [.int .i64 f0.Region.X, .int .i64 f0.Region.Y, .int .i64 f0.Region.W, .int .i64 f0.Region.H, .slice f0_v1a f0.V.length f0_v1c] 26 :: F) w') from by have hq := field_Result_s (⟨r4.Region, x1⟩ : S_api_Field) a6 cp6 _ (by rw [hl5]; exact h14) _ _ hr10 w (show SInv D10 (pt b6 [.int .i64 r4.Region.X, .int .i64 r4.Region.Y, .int .i64 r4.Region.W, .int .i64 r4.Region.H, .slice a6 x1.length cp6] 26 :: pt b4 [.int .i64 0, .int .i64 0, .int .i64 0, .int .i64 0, .slice none 0 0] 26 :: pt b3 [.int .i64 f0.Region.X, .int .i64 f0.Region.Y, .int .i64 f0.Region.W, .int .i64 f0.Region.H, .slice f0_v1a f0.V.length f0_v1c] 26 :: F) w from by have h2 : SInv D10 (pt b6 [.int .i64 r4.Region.X, .int .i64 r4.Region.Y, .int .i64 r4.Region.W, .int .i64 r4.Region.H, .slice a6 r4.V.length cp6] 26 :: pt b4 [.int .i64 0, .int .i64 0, .int .i64 0, .int .i64 0, .slice none 0 0] 26 :: pt b3 [.int .i64 f0.Region.X, .int .i64 f0.Region.Y, .int .i64 f0.Region.W, .int .i64 f0.Region.H, .slice f0_v1a f0.V.length f0_v1c] 26 :: F) w := hS; rw [← hl5] at h2; exact h2); (try simp only [hl5] at hq); exact hq).mono fun e w' ⟨D11, a8, cp8, hle8, he, h15, hS2⟩ => ⟨_, D11, _, he, ⟨a8, cp8, hle8, rfl, h15, rfl⟩, hS2⟩) ?_
            rintro _ D11 As9 ⟨a8, cp8, hle8, rfl, h15, hA9⟩
            subst As9
            replace h14 := h14.mono hle8
            replace f0_h1 := f0_h1.mono hle8
            refine l_s (.agg #[.int .i64 r10.1.Region.X, .int .i64 r10.1.Region.Y, .int .i64 r10.1.Region.W, .int .i64 r10.1.Region.H, .slice a8 r10.1.V.length cp8]) (by kernel_rfl) ?_
            refine l_s (.int .i64 r10.2) (by kernel_rfl) ?_
            refine l_perm (fr1_perm 1 _) ?_
            refine l_store (dd := none) (vs := [.int .i64 r10.1.Region.X, .int .i64 r10.1.Region.Y, .int .i64 r10.1.Region.W, .int .i64 r10.1.Region.H, .slice a8 r10.1.V.length cp8]) (cs' := [.int .i64 r10.1.Region.X, .int .i64 r10.1.Region.Y, .int .i64 r10.1.Region.W, .int .i64 r10.1.Region.H, .slice a8 r10.1.V.length cp8]) rfl (by kernel_rfl) (by kernel_rfl) rfl rfl (Nat.le_of_ble_eq_true rfl) rfl rfl ?_
            refine l_s (.int .i64 r10.2) (by kernel_rfl) ?_
            refine l_nil ?_
            refine e_perm (fr1_perm 1 _) ?_
            refine e_drop ?_
            refine e_perm (fr1_perm 1 _) ?_
            refine e_drop ?_
            refine e_then ?_
            refine c_ret ?_
            obtain rfl := Option.some.inj hp
            exact post_all (vs := [.agg #[.int .i64 r10.1.Region.X, .int .i64 r10.1.Region.Y, .int .i64 r10.1.Region.W, .int .i64 r10.1.Region.H, .slice a8 r10.1.V.length cp8], .int .i64 r10.2]) (.tuple #[.agg #[.int .i64 r10.1.Region.X, .int .i64 r10.1.Region.Y, .int .i64 r10.1.Region.W, .int .i64 r10.1.Region.H, .slice a8 r10.1.V.length cp8], .int .i64 r10.2]) ⟨⟨_, 0, _, _, 5, by decide, rfl, rfl, .inr ⟨fitv26, rfl, rfl⟩⟩, rfl, trivial⟩ rfl (.inl rfl) (fun w hS => ⟨D11, a8, cp8, (PH.le_trans (PH.le_trans (PH.le_trans (PH.le_trans hle2 hle4) hD3) hle7) hle8), rfl, h15, hS.tail⟩)

-- tarnfell/tarnref2.RegionError
set_option maxRecDepth 100000 in
set_option maxHeartbeats 4000000 in
theorem tarnref2_RegionError_s (r0 : S_api_Region) (D : PH)  (F : List Assert) (r : Int) (hp : tarnref2_RegionError_p r0 = some r) : ∀ w : World, SInv D (F) w → Calls Try.prog 41 #[.agg #[.int .i64 r0.X, .int .i64 r0.Y, .int .i64 r0.W, .int .i64 r0.H]] w (fun e w' => e = .returned (.int .i64 r) ∧ SInv D (F) w') := by
  intro w hS
  refine call_intro Try.func41 rfl Try.ntmps41 (Nat.le_of_ble_eq_true rfl) hS ?_
  clear hS w
  unfold tarnref2_RegionError_p at hp
  refine c_seq ?_
  refine c_region ?_
  refine l_box (cs := [.int .i64 r0.X, .int .i64 r0.Y, .int .i64 r0.W, .int .i64 r0.H]) rfl rfl (fun b2 => ?_)
  refine l_s (.int .i64 0) (by kernel_rfl) ?_
  refine l_nil ?_
  refine e_then ?_
  refine c_seq ?_
  refine c_seq ?_
  refine c_cutq_end [(1, .pointer (some ⟨b2, 0, none⟩)), (20, .bool ((decide (r0.W < 1)) || ((decide (r0.W > 512)) || ((decide (r0.H < 1)) || (decide (r0.H > 512))))))] ?_ ?_
  · skip
    refine c_quiet ?_
    refine ql_s (.pointer (some ⟨b2, 2, none⟩)) (by kernel_rfl) ?_
    refine ql_q rfl (qs_ldpt encV fitv3 rfl 0 rfl (.int .i64 r0.W) (Nat.le_of_ble_eq_true rfl) rfl) ?_
    refine ql_s (.bool (decide (r0.W < 1))) (by kernel_rfl) ?_
    refine ql_s (.bool (decide (r0.W < 1))) (by kernel_rfl) ?_
    refine ql_case 6 (decide (r0.W < 1)) rfl (fun hg1 => ?_) (fun hg1 => ?_)
    · skip
      refine ql_s undef (by kernel_rfl) ?_
      refine ql_s undef (by kernel_rfl) ?_
      refine ql_s undef (by kernel_rfl) ?_
      refine ql_s (.bool true) (by kernel_rfl) ?_
      refine ql_s (.bool true) (by kernel_rfl) ?_
      refine ql_s undef (by kernel_rfl) ?_
      refine ql_s undef (by kernel_rfl) ?_
      refine ql_s undef (by kernel_rfl) ?_
      refine ql_s (.bool true) (by kernel_rfl) ?_
      refine ql_s (.bool true) (by kernel_rfl) ?_
      refine ql_s undef (by kernel_rfl) ?_
      refine ql_s undef (by kernel_rfl) ?_
      refine ql_s undef (by kernel_rfl) ?_
      refine ql_s (.bool true) (by kernel_rfl) ?_
      refine ql_nil (e_cutq ?_)
      exact ⟨rfl, (congrArg Value.bool (by first | rfl | (rw [hg1]; rfl) | simp [hg1])), trivial⟩
    · skip
      refine ql_s (.pointer (some ⟨b2, 2, none⟩)) (by kernel_rfl) ?_
      refine ql_q rfl (qs_ldpt encV fitv3 rfl 0 rfl (.int .i64 r0.W) (Nat.le_of_ble_eq_true rfl) rfl) ?_
      refine ql_s (.bool (decide (r0.W > 512))) (by kernel_rfl) ?_
      refine ql_s (.bool (decide (r0.W > 512))) (by kernel_rfl) ?_
      refine ql_s (.bool (decide (r0.W > 512))) (by kernel_rfl) ?_
      refine ql_case 11 (decide (r0.W > 512)) rfl (fun hg2 => ?_) (fun hg2 => ?_)
      · skip
        refine ql_s undef (by kernel_rfl) ?_
        refine ql_s undef (by kernel_rfl) ?_
        refine ql_s undef (by kernel_rfl) ?_
        refine ql_s (.bool true) (by kernel_rfl) ?_
        refine ql_s (.bool true) (by kernel_rfl) ?_
        refine ql_s undef (by kernel_rfl) ?_
        refine ql_s undef (by kernel_rfl) ?_
        refine ql_s undef (by kernel_rfl) ?_
        refine ql_s (.bool true) (by kernel_rfl) ?_
        refine ql_nil (e_cutq ?_)
        exact ⟨rfl, (congrArg Value.bool (by first | rfl | (rw [hg1, hg2]; rfl) | simp [hg1, hg2])), trivial⟩
      · skip
        refine ql_s (.pointer (some ⟨b2, 3, none⟩)) (by kernel_rfl) ?_
        refine ql_q rfl (qs_ldpt encV fitv3 rfl 0 rfl (.int .i64 r0.H) (Nat.le_of_ble_eq_true rfl) rfl) ?_
        refine ql_s (.bool (decide (r0.H < 1))) (by kernel_rfl) ?_
        refine ql_s (.bool (decide (r0.H < 1))) (by kernel_rfl) ?_
        refine ql_s (.bool (decide (r0.H < 1))) (by kernel_rfl) ?_
        refine ql_case 16 (decide (r0.H < 1)) rfl (fun hg3 => ?_) (fun hg3 => ?_)
        · skip
          refine ql_s undef (by kernel_rfl) ?_
          refine ql_s undef (by kernel_rfl) ?_
          refine ql_s undef (by kernel_rfl) ?_
          refine ql_s (.bool true) (by kernel_rfl) ?_
          refine ql_nil (e_cutq ?_)
          exact ⟨rfl, (congrArg Value.bool (by first | rfl | (rw [hg1, hg2, hg3]; rfl) | simp [hg1, hg2, hg3])), trivial⟩
        · skip
          refine ql_s (.pointer (some ⟨b2, 3, none⟩)) (by kernel_rfl) ?_
          refine ql_q rfl (qs_ldpt encV fitv3 rfl 0 rfl (.int .i64 r0.H) (Nat.le_of_ble_eq_true rfl) rfl) ?_
          refine ql_s (.bool (decide (r0.H > 512))) (by kernel_rfl) ?_
          refine ql_s (.bool (decide (r0.H > 512))) (by kernel_rfl) ?_
          refine ql_nil (e_cutq ?_)
          exact ⟨rfl, (congrArg Value.bool (by first | rfl | (rw [hg1, hg2, hg3]; rfl) | simp [hg1, hg2, hg3])), trivial⟩
  intro _
  refine e_then ?_
  refine c_cond (((decide (r0.W < 1)) || ((decide (r0.W > 512)) || ((decide (r0.H < 1)) || (decide (r0.H > 512)))))) rfl (fun ht1 => ?_) (fun ht1 => ?_)
  · skip
    replace hp := if_t ht1 hp
    refine c_seq ?_
    refine c_quiet ?_
    refine ql_s (.int .i64 3) (by kernel_rfl) ?_
    refine ql_nil ?_
    refine e_drop ?_
    refine e_then ?_
    refine c_ret ?_
    refine e_then_ret ?_
    obtain rfl := Option.some.inj hp
    exact post_all (vs := [.int .i64 3]) (.int .i64 3) ⟨rfl, trivial⟩ rfl (.inl rfl) (fun w hS => ⟨rfl, hS⟩)
  · skip
    replace hp := if_f ht1 hp
    refine c_skip ?_
    refine e_then ?_
    refine c_seq ?_
    refine c_seq ?_
    refine c_quiet ?_
    refine ql_s (.pointer (some ⟨b2, 2, none⟩)) (by kernel_rfl) ?_
    refine ql_q rfl (qs_ldpt encV fitv3 rfl 0 rfl (.int .i64 r0.W) (Nat.le_of_ble_eq_true rfl) rfl) ?_
    refine ql_s (.pointer (some ⟨b2, 3, none⟩)) (by kernel_rfl) ?_
    refine ql_q rfl (qs_ldpt encV fitv3 rfl 0 rfl (.int .i64 r0.H) (Nat.le_of_ble_eq_true rfl) rfl) ?_
    refine ql_s (.int .i64 (mulI r0.W r0.H)) (by kernel_rfl) ?_
    refine ql_s (.bool (decide ((mulI r0.W r0.H) > 65536))) (by kernel_rfl) ?_
    refine ql_nil ?_
    refine e_then ?_
    refine c_cond (decide ((mulI r0.W r0.H) > 65536)) rfl (fun ht2 => ?_) (fun ht2 => ?_)
    · skip
      replace hp := if_t ht2 hp
      refine c_seq ?_
      refine c_quiet ?_
      refine ql_s (.int .i64 4) (by kernel_rfl) ?_
      refine ql_nil ?_
      refine e_drop ?_
      refine e_then ?_
      refine c_ret ?_
      refine e_then_ret ?_
      obtain rfl := Option.some.inj hp
      exact post_all (vs := [.int .i64 4]) (.int .i64 4) ⟨rfl, trivial⟩ rfl (.inl rfl) (fun w hS => ⟨rfl, hS⟩)
    · skip
      replace hp := if_f ht2 hp
      refine c_skip ?_
      refine e_then ?_
      refine c_seq ?_
      refine c_seq ?_
      refine c_cutq_end [(50, .bool ((decide (r0.X < (-4194304))) || ((decide (r0.Y < (-4194304))) || ((decide (r0.X > (subI 4194304 r0.W))) || (decide (r0.Y > (subI 4194304 r0.H)))))))] ?_ ?_
      · skip
        refine c_quiet ?_
        refine ql_s (.pointer (some ⟨b2, 0, none⟩)) (by kernel_rfl) ?_
        refine ql_q rfl (qs_ldpt encV fitv3 rfl 0 rfl (.int .i64 r0.X) (Nat.le_of_ble_eq_true rfl) rfl) ?_
        refine ql_s (.bool (decide (r0.X < (-4194304)))) (by kernel_rfl) ?_
        refine ql_s (.bool (decide (r0.X < (-4194304)))) (by kernel_rfl) ?_
        refine ql_case 30 (decide (r0.X < (-4194304))) rfl (fun hg4 => ?_) (fun hg4 => ?_)
        · skip
          refine ql_s undef (by kernel_rfl) ?_
          refine ql_s undef (by kernel_rfl) ?_
          refine ql_s undef (by kernel_rfl) ?_
          refine ql_s (.bool true) (by kernel_rfl) ?_
          refine ql_s (.bool true) (by kernel_rfl) ?_
          refine ql_s undef (by kernel_rfl) ?_
          refine ql_s undef (by kernel_rfl) ?_
          refine ql_s undef (by kernel_rfl) ?_
          refine ql_s undef (by kernel_rfl) ?_
          refine ql_s undef (by kernel_rfl) ?_
          refine ql_s undef (by kernel_rfl) ?_
          refine ql_s (.bool true) (by kernel_rfl) ?_
          refine ql_s (.bool true) (by kernel_rfl) ?_
          refine ql_s undef (by kernel_rfl) ?_
          refine ql_s undef (by kernel_rfl) ?_
          refine ql_s undef (by kernel_rfl) ?_
          refine ql_s undef (by kernel_rfl) ?_
          refine ql_s undef (by kernel_rfl) ?_
          refine ql_s undef (by kernel_rfl) ?_
          refine ql_s (.bool true) (by kernel_rfl) ?_
          refine ql_nil (e_cutq ?_)
          exact ⟨(congrArg Value.bool (by first | rfl | (rw [hg4]; rfl) | simp [hg4])), trivial⟩
        · skip
          refine ql_s (.pointer (some ⟨b2, 1, none⟩)) (by kernel_rfl) ?_
          refine ql_q rfl (qs_ldpt encV fitv3 rfl 0 rfl (.int .i64 r0.Y) (Nat.le_of_ble_eq_true rfl) rfl) ?_
          refine ql_s (.bool (decide (r0.Y < (-4194304)))) (by kernel_rfl) ?_
          refine ql_s (.bool (decide (r0.Y < (-4194304)))) (by kernel_rfl) ?_
          refine ql_s (.bool (decide (r0.Y < (-4194304)))) (by kernel_rfl) ?_
          refine ql_case 35 (decide (r0.Y < (-4194304))) rfl (fun hg5 => ?_) (fun hg5 => ?_)
          · skip
            refine ql_s undef (by kernel_rfl) ?_
            refine ql_s undef (by kernel_rfl) ?_
            refine ql_s undef (by kernel_rfl) ?_
            refine ql_s undef (by kernel_rfl) ?_
            refine ql_s undef (by kernel_rfl) ?_
            refine ql_s undef (by kernel_rfl) ?_
            refine ql_s (.bool true) (by kernel_rfl) ?_
            refine ql_s (.bool true) (by kernel_rfl) ?_
            refine ql_s undef (by kernel_rfl) ?_
            refine ql_s undef (by kernel_rfl) ?_
            refine ql_s undef (by kernel_rfl) ?_
            refine ql_s undef (by kernel_rfl) ?_
            refine ql_s undef (by kernel_rfl) ?_
            refine ql_s undef (by kernel_rfl) ?_
            refine ql_s (.bool true) (by kernel_rfl) ?_
            refine ql_nil (e_cutq ?_)
            exact ⟨(congrArg Value.bool (by first | rfl | (rw [hg4, hg5]; rfl) | simp [hg4, hg5])), trivial⟩
          · skip
            refine ql_s (.pointer (some ⟨b2, 0, none⟩)) (by kernel_rfl) ?_
            refine ql_q rfl (qs_ldpt encV fitv3 rfl 0 rfl (.int .i64 r0.X) (Nat.le_of_ble_eq_true rfl) rfl) ?_
            refine ql_s (.pointer (some ⟨b2, 2, none⟩)) (by kernel_rfl) ?_
            refine ql_q rfl (qs_ldpt encV fitv3 rfl 0 rfl (.int .i64 r0.W) (Nat.le_of_ble_eq_true rfl) rfl) ?_
            refine ql_s (.int .i64 (subI 4194304 r0.W)) (by kernel_rfl) ?_
            refine ql_s (.bool (decide (r0.X > (subI 4194304 r0.W)))) (by kernel_rfl) ?_
            refine ql_s (.bool (decide (r0.X > (subI 4194304 r0.W)))) (by kernel_rfl) ?_
            refine ql_s (.bool (decide (r0.X > (subI 4194304 r0.W)))) (by kernel_rfl) ?_
            refine ql_case 43 (decide (r0.X > (subI 4194304 r0.W))) rfl (fun hg6 => ?_) (fun hg6 => ?_)
            · skip
              refine ql_s undef (by kernel_rfl) ?_
              refine ql_s undef (by kernel_rfl) ?_
              refine ql_s undef (by kernel_rfl) ?_
              refine ql_s undef (by kernel_rfl) ?_
              refine ql_s undef (by kernel_rfl) ?_
              refine ql_s undef (by kernel_rfl) ?_
              refine ql_s (.bool true) (by kernel_rfl) ?_
              refine ql_nil (e_cutq ?_)
              exact ⟨(congrArg Value.bool (by first | rfl | (rw [hg4, hg5, hg6]; rfl) | simp [hg4, hg5, hg6])), trivial⟩
            · skip
              refine ql_s (.pointer (some ⟨b2, 1, none⟩)) (by kernel_rfl) ?_
              refine ql_q rfl (qs_ldpt encV fitv3 rfl 0 rfl (.int .i64 r0.Y) (Nat.le_of_ble_eq_true rfl) rfl) ?_
              refine ql_s (.pointer (some ⟨b2, 3, none⟩)) (by kernel_rfl) ?_
              refine ql_q rfl (qs_ldpt encV fitv3 rfl 0 rfl (.int .i64 r0.H) (Nat.le_of_ble_eq_true rfl) rfl) ?_
              refine ql_s (.int .i64 (subI 4194304 r0.H)) (by kernel_rfl) ?_
              refine ql_s (.bool (decide (r0.Y > (subI 4194304 r0.H)))) (by kernel_rfl) ?_
              refine ql_s (.bool (decide (r0.Y > (subI 4194304 r0.H)))) (by kernel_rfl) ?_
              refine ql_nil (e_cutq ?_)
              exact ⟨(congrArg Value.bool (by first | rfl | (rw [hg4, hg5, hg6]; rfl) | simp [hg4, hg5, hg6])), trivial⟩
      intro _
      refine e_then ?_
      refine c_cond (((decide (r0.X < (-4194304))) || ((decide (r0.Y < (-4194304))) || ((decide (r0.X > (subI 4194304 r0.W))) || (decide (r0.Y > (subI 4194304 r0.H))))))) rfl (fun ht3 => ?_) (fun ht3 => ?_)
      · skip
        replace hp := if_t ht3 hp
        refine c_seq ?_
        refine c_quiet ?_
        refine ql_s (.int .i64 5) (by kernel_rfl) ?_
        refine ql_nil ?_
        refine e_drop ?_
        refine e_then ?_
        refine c_ret ?_
        refine e_then_ret ?_
        obtain rfl := Option.some.inj hp
        exact post_all (vs := [.int .i64 5]) (.int .i64 5) ⟨rfl, trivial⟩ rfl (.inl rfl) (fun w hS => ⟨rfl, hS⟩)
      · skip
        replace hp := if_f ht3 hp
        refine c_skip ?_
        refine e_then ?_
        refine c_seq ?_
        refine c_quiet ?_
        refine ql_s (.int .i64 0) (by kernel_rfl) ?_
        refine ql_nil ?_
        refine e_drop ?_
        refine e_then ?_
        refine c_ret ?_
        obtain rfl := Option.some.inj hp
        exact post_all (vs := [.int .i64 0]) (.int .i64 0) ⟨rfl, trivial⟩ rfl (.inl rfl) (fun w hS => ⟨rfl, hS⟩)

end Go.Proofs.Ythibohbaaljnkaa
