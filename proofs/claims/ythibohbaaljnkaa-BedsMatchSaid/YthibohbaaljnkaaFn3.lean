/- Own text, by program: that the code computes the pure functions. -/
import Derived.Test.YthibohbaaljnkaaFn2
namespace Go.Proofs.Ythibohbaaljnkaa
open Sx
set_option linter.all false
variable [WB]

-- tarnfell/road.Way
set_option maxRecDepth 100000 in
set_option maxHeartbeats 4000000 in
theorem road_Way_s (f0 : S_api_Field) (f0_v1a : Option Addr) (f0_v1c : Nat) (s0 : S_api_RoadRules) (s0_v1a : Option Addr) (s0_v1c : Nat) (from0 : S_api_Point) (to0 : S_api_Point) (D : PH) (f0_h1 : RO (encF .f32) D (.slice f0_v1a f0.V.length f0_v1c) f0.V) (s0_h1 : RO encS_api_Field D (.slice s0_v1a s0.Costly.length s0_v1c) s0.Costly) (F : List Assert) (r : (List S_api_Point) × Nat × Int) (hp : road_Way_p f0 s0 from0 to0 = some r) : ∀ w : World, SInv D (F) w → Calls Try.prog 31 #[.agg #[.int .i64 f0.Region.X, .int .i64 f0.Region.Y, .int .i64 f0.Region.W, .int .i64 f0.Region.H, .slice f0_v1a f0.V.length f0_v1c], .agg #[.float .f32 s0.Grade, .float .f32 s0.Weight, .float .f32 s0.Bridge, .float .f32 s0.Dear, .int .i64 s0.Span, .slice s0_v1a s0.Costly.length s0_v1c], .agg #[.int .i64 from0.X, .int .i64 from0.Y], .agg #[.int .i64 to0.X, .int .i64 to0.Y]] w (fun e w' => ∃ (D1 : PH) (q_a1 : Option Addr) (q_cp1 : Nat), PH.le D D1 ∧ e = .returned (.tuple #[.slice q_a1 r.1.length q_cp1, .float .f32 r.2.1, .int .i64 r.2.2]) ∧ RO encS_api_Point D1 (.slice q_a1 r.1.length q_cp1) r.1 ∧ SInv D1 (F) w') := by
  intro w hS
  refine call_intro Try.func31 rfl Try.ntmps31 (Nat.le_of_ble_eq_true rfl) hS ?_
  clear hS w
  unfold road_Way_p at hp
  refine c_seq ?_
  refine c_region ?_
  refine l_box (cs := [.int .i64 f0.Region.X, .int .i64 f0.Region.Y, .int .i64 f0.Region.W, .int .i64 f0.Region.H, .slice f0_v1a f0.V.length f0_v1c]) rfl rfl (fun b5 => ?_)
  refine l_box (cs := [.float .f32 s0.Grade, .float .f32 s0.Weight, .float .f32 s0.Bridge, .float .f32 s0.Dear, .int .i64 s0.Span, .slice s0_v1a s0.Costly.length s0_v1c]) rfl rfl (fun b6 => ?_)
  refine l_box (cs := [.int .i64 from0.X, .int .i64 from0.Y]) rfl rfl (fun b7 => ?_)
  refine l_box (cs := [.int .i64 to0.X, .int .i64 to0.Y]) rfl rfl (fun b8 => ?_)
  refine l_s (.slice none 0 0) (by kernel_rfl) ?_
  refine l_s (.float .f32 0) (by kernel_rfl) ?_
  refine l_s (.int .i64 0) (by kernel_rfl) ?_
  refine l_nil ?_
  refine e_then ?_
  refine c_seq ?_
  refine c_seq ?_
  obtain ⟨r1, hr1, hp⟩ := bnd_some hp
  refine c_quiet ?_
  refine ql_q rfl (qs_ldpt (encW 5 (by decide)) fitv26 rfl 3 rfl (.agg #[.int .i64 f0.Region.X, .int .i64 f0.Region.Y, .int .i64 f0.Region.W, .int .i64 f0.Region.H, .slice f0_v1a f0.V.length f0_v1c]) (Nat.le_of_ble_eq_true rfl) rfl) ?_
  refine ql_q rfl (qs_ldpt (encW 6 (by decide)) fitv57 rfl 2 rfl (.agg #[.float .f32 s0.Grade, .float .f32 s0.Weight, .float .f32 s0.Bridge, .float .f32 s0.Dear, .int .i64 s0.Span, .slice s0_v1a s0.Costly.length s0_v1c]) (Nat.le_of_ble_eq_true rfl) rfl) ?_
  refine ql_call (v := .int .i64 r1) rfl (run_call (vs := [.agg #[.int .i64 f0.Region.X, .int .i64 f0.Region.Y, .int .i64 f0.Region.W, .int .i64 f0.Region.H, .slice f0_v1a f0.V.length f0_v1c], .agg #[.float .f32 s0.Grade, .float .f32 s0.Weight, .float .f32 s0.Bridge, .float .f32 s0.Dear, .int .i64 s0.Span, .slice s0_v1a s0.Costly.length s0_v1c]]) rfl Try.call70 rfl) (fun w hS => (road_check_s f0 f0_v1a f0_v1c s0 s0_v1a s0_v1c _ f0_h1 s0_h1 _ _ hr1 w (hS)).mono fun e w' h => ⟨h.1, h.2⟩) ?_
  refine ql_s (.int .i64 r1) (by kernel_rfl) ?_
  refine ql_nil ?_
  refine e_then ?_
  refine c_seq ?_
  refine c_quiet ?_
  refine ql_s (.int .i64 r1) (by kernel_rfl) ?_
  refine ql_s (.bool (r1 != 0)) (by kernel_rfl) ?_
  refine ql_nil ?_
  refine e_then ?_
  refine c_cond ((r1 != 0)) rfl (fun ht1 => ?_) (fun ht1 => ?_)
  · skip
    replace hp := if_t ht1 hp
    refine c_seq ?_
    refine c_quiet ?_
    refine ql_s (.int .i64 r1) (by kernel_rfl) ?_
    refine ql_s (.slice none 0 0) (by kernel_rfl) ?_
    refine ql_s (.float .f32 0) (by kernel_rfl) ?_
    refine ql_s (.int .i64 r1) (by kernel_rfl) ?_
    refine ql_nil ?_
    refine e_drop ?_
    refine e_drop ?_
    refine e_drop ?_
    refine e_drop ?_
    refine e_then ?_
    refine c_ret ?_
    refine e_then_ret ?_
    obtain rfl := Option.some.inj hp
    exact post_all (vs := [.slice none 0 0, .float .f32 0, .int .i64 r1]) (.tuple #[.slice none 0 0, .float .f32 0, .int .i64 r1]) ⟨rfl, rfl, rfl, trivial⟩ rfl (.inl rfl) (fun w hS => ⟨D, none, 0, (PH.le_refl _), rfl, (RO.nil _ _), hS⟩)
  · skip
    replace hp := if_f ht1 hp
    refine c_skip ?_
    refine e_then ?_
    refine c_seq ?_
    refine c_seq ?_
    obtain ⟨r2, hr2, hp⟩ := bnd_some hp
    refine c_region ?_
    refine l_q rfl (qs_ldpt (encW 5 (by decide)) fitv26 rfl 3 rfl (.agg #[.int .i64 f0.Region.X, .int .i64 f0.Region.Y, .int .i64 f0.Region.W, .int .i64 f0.Region.H, .slice f0_v1a f0.V.length f0_v1c]) (Nat.le_of_ble_eq_true rfl) rfl) ?_
    refine l_q rfl (qs_ldpt (encW 2 (by decide)) fitv71 rfl 1 rfl (.agg #[.int .i64 from0.X, .int .i64 from0.Y]) (Nat.le_of_ble_eq_true rfl) rfl) ?_
    refine l_q rfl (qs_ldpt (encW 2 (by decide)) fitv71 rfl 0 rfl (.agg #[.int .i64 to0.X, .int .i64 to0.Y]) (Nat.le_of_ble_eq_true rfl) rfl) ?_
    refine l_bslS (cs := [.int .i64 from0.X, .int .i64 from0.Y, .int .i64 to0.X, .int .i64 to0.Y]) (E := 71) (e := encS_api_Point) ([from0, to0] : List S_api_Point) rfl (by kernel_rfl) rfl rfl (Nat.le_of_ble_eq_true rfl) ⟨rfl, rfl, trivial⟩ (fun b10 cp2 => ?_)
    refine l_callq (v := .int .i64 r2) rfl rfl Try.call71 (vs := [.agg #[.int .i64 f0.Region.X, .int .i64 f0.Region.Y, .int .i64 f0.Region.W, .int .i64 f0.Region.H, .slice f0_v1a f0.V.length f0_v1c], .slice (some ⟨b10, 0, none⟩) ([from0, to0] : List S_api_Point).length cp2]) rfl (fun w hS => (calls_thaw (PH.le_refl _) (hS) (fun D0' hLl0 hLr0 hS => (road_inside_s f0 f0_v1a f0_v1c ([from0, to0] : List S_api_Point) (some ⟨b10, 0, none⟩) cp2 _ (f0_h1.mono hLl0) hLr0 _ _ hr2 w (hS)).mono fun e w' h => ⟨h.1, h.2⟩)).mono fun e w' h => ⟨h.1, h.2⟩) ?_
    refine l_s (.int .i64 r2) (by kernel_rfl) ?_
    refine l_nil ?_
    refine e_drop ?_
    refine e_then ?_
    refine c_seq ?_
    refine c_quiet ?_
    refine ql_s (.int .i64 r2) (by kernel_rfl) ?_
    refine ql_s (.bool (r2 != 0)) (by kernel_rfl) ?_
    refine ql_nil ?_
    refine e_then ?_
    refine c_cond ((r2 != 0)) rfl (fun ht2 => ?_) (fun ht2 => ?_)
    · skip
      replace hp := if_t ht2 hp
      refine c_seq ?_
      refine c_quiet ?_
      refine ql_s (.int .i64 r2) (by kernel_rfl) ?_
      refine ql_s (.slice none 0 0) (by kernel_rfl) ?_
      refine ql_s (.float .f32 0) (by kernel_rfl) ?_
      refine ql_s (.int .i64 r2) (by kernel_rfl) ?_
      refine ql_nil ?_
      refine e_drop ?_
      refine e_drop ?_
      refine e_drop ?_
      refine e_drop ?_
      refine e_then ?_
      refine c_ret ?_
      refine e_then_ret ?_
      obtain rfl := Option.some.inj hp
      exact post_all (vs := [.slice none 0 0, .float .f32 0, .int .i64 r2]) (.tuple #[.slice none 0 0, .float .f32 0, .int .i64 r2]) ⟨rfl, rfl, rfl, trivial⟩ rfl (.inl rfl) (fun w hS => ⟨D, none, 0, (PH.le_refl _), rfl, (RO.nil _ _), hS⟩)
    · skip
      replace hp := if_f ht2 hp
      refine c_skip ?_
      refine e_then ?_
      refine c_seq ?_
      obtain ⟨r3, hr3, hp⟩ := bnd_some hp
      refine c_region ?_
      refine l_q rfl (qs_ldpt (encW 5 (by decide)) fitv26 rfl 3 rfl (.agg #[.int .i64 f0.Region.X, .int .i64 f0.Region.Y, .int .i64 f0.Region.W, .int .i64 f0.Region.H, .slice f0_v1a f0.V.length f0_v1c]) (Nat.le_of_ble_eq_true rfl) rfl) ?_
      refine l_q rfl (qs_ldpt (encW 6 (by decide)) fitv57 rfl 2 rfl (.agg #[.float .f32 s0.Grade, .float .f32 s0.Weight, .float .f32 s0.Bridge, .float .f32 s0.Dear, .int .i64 s0.Span, .slice s0_v1a s0.Costly.length s0_v1c]) (Nat.le_of_ble_eq_true rfl) rfl) ?_
      refine l_q rfl (qs_ldpt (encW 2 (by decide)) fitv71 rfl 1 rfl (.agg #[.int .i64 from0.X, .int .i64 from0.Y]) (Nat.le_of_ble_eq_true rfl) rfl) ?_
      refine l_call rfl rfl Try.call72 (vs := [.agg #[.int .i64 f0.Region.X, .int .i64 f0.Region.Y, .int .i64 f0.Region.W, .int .i64 f0.Region.H, .slice f0_v1a f0.V.length f0_v1c], .agg #[.float .f32 s0.Grade, .float .f32 s0.Weight, .float .f32 s0.Bridge, .float .f32 s0.Dear, .int .i64 s0.Span, .slice s0_v1a s0.Costly.length s0_v1c], .agg #[.int .i64 from0.X, .int .i64 from0.Y]]) rfl (fun v D2 As2 => ∃ (a3 : Option Addr) (cp5 : Nat) (a4 : Option Addr) (cp6 : Nat), PH.le D D2 ∧ v = .tuple #[.agg #[.int .i64 r3.1.from0, .slice a3 r3.1.price.length cp5, .slice a4 r3.1.ok.length cp6], .int .i64 r3.2] ∧ RO (encF .f32) D2 (.slice a3 r3.1.price.length cp5) r3.1.price ∧ RO encB D2 (.slice a4 r3.1.ok.length cp6) r3.1.ok ∧ As2 = pt b8 [.int .i64 to0.X, .int .i64 to0.Y] 71 :: pt b7 [.int .i64 from0.X, .int .i64 from0.Y] 71 :: pt b6 [.float .f32 s0.Grade, .float .f32 s0.Weight, .float .f32 s0.Bridge, .float .f32 s0.Dear, .int .i64 s0.Span, .slice s0_v1a s0.Costly.length s0_v1c] 57 :: pt b5 [.int .i64 f0.Region.X, .int .i64 f0.Region.Y, .int .i64 f0.Region.W, .int .i64 f0.Region.H, .slice f0_v1a f0.V.length f0_v1c] 26 :: F) (fun w hS => (road_pricesFrom_s f0 f0_v1a f0_v1c s0 s0_v1a s0_v1c from0 _ f0_h1 s0_h1 _ _ hr3 w (hS)).mono fun e w' ⟨D2, a3, cp5, a4, cp6, hle2, he, h3, h4, hS2⟩ => ⟨_, D2, _, he, ⟨a3, cp5, a4, cp6, hle2, rfl, h3, h4, rfl⟩, hS2⟩) ?_
      rintro _ D2 As2 ⟨a3, cp5, a4, cp6, hle2, rfl, h3, h4, hA2⟩
      subst As2
      replace f0_h1 := f0_h1.mono hle2
      replace s0_h1 := s0_h1.mono hle2
      refine l_s (.tuple #[.agg #[.int .i64 r3.1.from0, .slice a3 r3.1.price.length cp5, .slice a4 r3.1.ok.length cp6], .int .i64 r3.2]) (by kernel_rfl) ?_
      refine l_s (.agg #[.int .i64 r3.1.from0, .slice a3 r3.1.price.length cp5, .slice a4 r3.1.ok.length cp6]) (by kernel_rfl) ?_
      refine l_s (.int .i64 r3.2) (by kernel_rfl) ?_
      refine l_alloc (zs := [.int .i64 0, .slice none 0 0, .slice none 0 0]) rfl (by kernel_rfl) (fun b12 => ?_)
      refine l_store (dd := none) (vs := [.int .i64 r3.1.from0, .slice a3 r3.1.price.length cp5, .slice a4 r3.1.ok.length cp6]) (cs' := [.int .i64 r3.1.from0, .slice a3 r3.1.price.length cp5, .slice a4 r3.1.ok.length cp6]) rfl (by kernel_rfl) (by kernel_rfl) rfl rfl (Nat.le_of_ble_eq_true rfl) rfl rfl ?_
      refine l_s (.int .i64 r3.2) (by kernel_rfl) ?_
      refine l_nil ?_
      refine e_perm (fr1_perm 2 _) ?_
      refine e_drop ?_
      refine e_then ?_
      refine c_seq ?_
      obtain ⟨r4, hr4, hp⟩ := bnd_some hp
      refine c_quiet ?_
      refine ql_s (.pointer (some ⟨b5, 0, none⟩)) (by kernel_rfl) ?_
      refine ql_q rfl (qs_ldpt (encW 4 (by decide)) fitv23 rfl 3 rfl (.agg #[.int .i64 f0.Region.X, .int .i64 f0.Region.Y, .int .i64 f0.Region.W, .int .i64 f0.Region.H]) (Nat.le_of_ble_eq_true rfl) rfl) ?_
      refine ql_s (.pointer (some ⟨b8, 0, none⟩)) (by kernel_rfl) ?_
      refine ql_q rfl (qs_ldpt encV fitv3 rfl 1 rfl (.int .i64 to0.X) (Nat.le_of_ble_eq_true rfl) rfl) ?_
      refine ql_s (.pointer (some ⟨b8, 1, none⟩)) (by kernel_rfl) ?_
      refine ql_q rfl (qs_ldpt encV fitv3 rfl 1 rfl (.int .i64 to0.Y) (Nat.le_of_ble_eq_true rfl) rfl) ?_
      refine ql_call (v := .tuple #[.int .i64 r4.1, .bool r4.2]) rfl (run_call (vs := [.agg #[.int .i64 f0.Region.X, .int .i64 f0.Region.Y, .int .i64 f0.Region.W, .int .i64 f0.Region.H], .int .i64 to0.X, .int .i64 to0.Y]) rfl Try.call73 rfl) (fun w hS => (field_Place_s f0.Region to0.X to0.Y _  _ _ hr4 w (hS)).mono fun e w' h => ⟨h.1, h.2⟩) ?_
      refine ql_s (.tuple #[.int .i64 r4.1, .bool r4.2]) (by kernel_rfl) ?_
      refine ql_s (.int .i64 r4.1) (by kernel_rfl) ?_
      refine ql_s (.bool r4.2) (by kernel_rfl) ?_
      refine ql_s (.int .i64 r4.1) (by kernel_rfl) ?_
      refine ql_s (.bool r4.2) (by kernel_rfl) ?_
      refine ql_nil ?_
      refine e_perm (fr1_perm 1 _) ?_
      refine e_drop ?_
      refine e_then ?_
      refine c_seq ?_
      refine c_seq ?_
      obtain ⟨x1, hx1, hp⟩ := bnd_some hp
      obtain ⟨b13, o1, h5, hq1⟩ := RO.at h4 hx1
      refine c_quiet ?_
      refine ql_s (.pointer (some ⟨b12, 2, none⟩)) (by kernel_rfl) ?_
      refine ql_q rfl (qs_ldpt encV fitv65 rfl 0 rfl (.slice a4 r3.1.ok.length cp6) (Nat.le_of_ble_eq_true rfl) rfl) ?_
      refine ql_s (.int .i64 r4.1) (by kernel_rfl) ?_
      refine ql_q rfl (qs_idx hq1 Try.underlying65 fit4 rfl rfl) ?_
      refine ql_q rfl (qs_ldAtV fit4 rfl h5 valB) ?_
      refine ql_s (.bool (!x1)) (by kernel_rfl) ?_
      refine ql_nil ?_
      refine e_then ?_
      refine c_cond (!x1) rfl (fun ht3 => ?_) (fun ht3 => ?_)
      · skip
        replace hp := if_t ht3 hp
        refine c_seq ?_
        refine c_quiet ?_
        refine ql_s (.slice none 0 0) (by kernel_rfl) ?_
        refine ql_s (.float .f32 0) (by kernel_rfl) ?_
        refine ql_s (.int .i64 11) (by kernel_rfl) ?_
        refine ql_nil ?_
        refine e_drop ?_
        refine e_drop ?_
        refine e_drop ?_
        refine e_then ?_
        refine c_ret ?_
        refine e_then_ret ?_
        obtain rfl := Option.some.inj hp
        exact post_all (vs := [.slice none 0 0, .float .f32 0, .int .i64 11]) (.tuple #[.slice none 0 0, .float .f32 0, .int .i64 11]) ⟨rfl, rfl, rfl, trivial⟩ rfl (.inl rfl) (fun w hS => ⟨D2, none, 0, hle2, rfl, (RO.nil _ _), hS⟩)
      · skip
        replace hp := if_f ht3 hp
        refine c_skip ?_
        refine e_then ?_
        refine c_seq ?_
        obtain ⟨x2, hx2, hp⟩ := bnd_some hp
        obtain ⟨b14, o2, h6, hq2⟩ := RO.at h3 hx2
        obtain ⟨r5, hr5, hp⟩ := bnd_some hp
        refine c_perm (fr1_perm 2 _) ?_
        refine c_perm (fr1_perm 2 _) ?_
        refine c_perm (fr1_perm 2 _) ?_
        refine c_order (B := [pt b12 [.int .i64 r3.1.from0, .slice a3 r3.1.price.length cp5, .slice a4 r3.1.ok.length cp6] 113, pt b6 [.float .f32 s0.Grade, .float .f32 s0.Weight, .float .f32 s0.Bridge, .float .f32 s0.Dear, .int .i64 s0.Span, .slice s0_v1a s0.Costly.length s0_v1c] 57, pt b5 [.int .i64 f0.Region.X, .int .i64 f0.Region.Y, .int .i64 f0.Region.W, .int .i64 f0.Region.H, .slice f0_v1a f0.V.length f0_v1c] 26]) (.q 0 (.q 1 (.q 2 (.q 3 (.q 4 (.q 6 (.q 7 (.q 8 (.q 9 (.q 10 (.e 5 (.q 11 (.q 12 (.q 13 .nil)))))))))))))) hmix (by kernel_rfl) (NoPanic.then NoPanic.post) ?_
        refine o_qs rfl rfl (qs_ldpt (encW 5 (by decide)) fitv26 rfl 2 rfl (.agg #[.int .i64 f0.Region.X, .int .i64 f0.Region.Y, .int .i64 f0.Region.W, .int .i64 f0.Region.H, .slice f0_v1a f0.V.length f0_v1c]) (Nat.le_of_ble_eq_true rfl) rfl) ?_
        refine o_qs rfl rfl (qs_ldpt (encW 6 (by decide)) fitv57 rfl 1 rfl (.agg #[.float .f32 s0.Grade, .float .f32 s0.Weight, .float .f32 s0.Bridge, .float .f32 s0.Dear, .int .i64 s0.Span, .slice s0_v1a s0.Costly.length s0_v1c]) (Nat.le_of_ble_eq_true rfl) rfl) ?_
        refine o_s (.agg #[.int .i64 f0.Region.X, .int .i64 f0.Region.Y, .int .i64 f0.Region.W, .int .i64 f0.Region.H, .slice f0_v1a f0.V.length f0_v1c, .float .f32 s0.Grade, .float .f32 s0.Weight, .float .f32 s0.Bridge, .float .f32 s0.Dear, .int .i64 s0.Span, .slice s0_v1a s0.Costly.length s0_v1c]) rfl (by kernel_rfl) ?_
        refine o_qs rfl rfl (qs_ldpt (encW 3 (by decide)) fitv113 rfl 0 rfl (.agg #[.int .i64 r3.1.from0, .slice a3 r3.1.price.length cp5, .slice a4 r3.1.ok.length cp6]) (Nat.le_of_ble_eq_true rfl) rfl) ?_
        refine o_s (.int .i64 r4.1) rfl (by kernel_rfl) ?_
        refine o_s (.pointer (some ⟨b12, 1, none⟩)) rfl (by kernel_rfl) ?_
        refine o_qs rfl rfl (qs_ldpt encV fitv24 rfl 0 rfl (.slice a3 r3.1.price.length cp5) (Nat.le_of_ble_eq_true rfl) rfl) ?_
        refine o_s (.int .i64 r4.1) rfl (by kernel_rfl) ?_
        refine o_qs rfl rfl (qs_idx hq2 Try.underlying24 fit40 rfl rfl) ?_
        refine o_qs rfl rfl (qs_ldAtV fit40 rfl h6 valF) ?_
        refine o_calle rfl rfl rfl Try.call74 (vs := [.agg #[.int .i64 f0.Region.X, .int .i64 f0.Region.Y, .int .i64 f0.Region.W, .int .i64 f0.Region.H, .slice f0_v1a f0.V.length f0_v1c, .float .f32 s0.Grade, .float .f32 s0.Weight, .float .f32 s0.Bridge, .float .f32 s0.Dear, .int .i64 s0.Span, .slice s0_v1a s0.Costly.length s0_v1c], .agg #[.int .i64 r3.1.from0, .slice a3 r3.1.price.length cp5, .slice a4 r3.1.ok.length cp6], .int .i64 r4.1]) rfl (fun v D4 As4 => ∃ (a6 : Option Addr) (cp8 : Nat), PH.le D2 D4 ∧ v = .slice a6 r5.length cp8 ∧ RO encS_api_Point D4 (.slice a6 r5.length cp8) r5 ∧ As4 = F) (fun w hS => (road_ground_way_s (⟨f0, s0⟩ : S_road_ground) f0_v1a f0_v1c s0_v1a s0_v1c r3.1 a3 cp5 a4 cp6 r4.1 _ f0_h1 s0_h1 h3 h4 _ _ hr5 w (hS)).mono fun e w' ⟨D4, a6, cp8, hle4, he, h8, hS2⟩ => ⟨_, D4, _, he, ⟨a6, cp8, hle4, rfl, h8, rfl⟩, hS2⟩) ?_
        rintro _ D4 As4 ⟨a6, cp8, hle4, rfl, h8, hA4⟩
        subst As4
        refine ⟨PH.le_trans (PH.le_refl _) hle4, ?_⟩
        replace f0_h1 := f0_h1.mono hle4
        replace s0_h1 := s0_h1.mono hle4
        replace h3 := h3.mono hle4
        replace h4 := h4.mono hle4
        replace h6 := h6.mono hle4
        refine o_s (.slice a6 r5.length cp8) rfl (by kernel_rfl) ?_
        refine o_s (.float .f32 x2) rfl (by kernel_rfl) ?_
        refine o_s (.int .i64 0) rfl (by kernel_rfl) ?_
        refine o_nil ?_
        refine e_drop ?_
        refine e_drop ?_
        refine e_drop ?_
        refine e_then ?_
        refine c_ret ?_
        obtain rfl := Option.some.inj hp
        exact post_all (vs := [.slice a6 r5.length cp8, .float .f32 x2, .int .i64 0]) (.tuple #[.slice a6 r5.length cp8, .float .f32 x2, .int .i64 0]) ⟨rfl, rfl, rfl, trivial⟩ rfl (.inl rfl) (fun w hS => ⟨D4, a6, cp8, (PH.le_trans hle2 hle4), rfl, h8, hS⟩)

-- tarnfell/tarnlaw2.leads
set_option maxRecDepth 100000 in
set_option maxHeartbeats 4000000 in
theorem tarnlaw2_leads_s  (D : PH)  (F : List Assert) (r : Bool) (hp : tarnlaw2_leads_p  = some r) : ∀ w : World, SInv D (F) w → Calls Try.prog 13 #[] w (fun e w' => e = .returned (.bool r) ∧ SInv D (F) w') := by
  intro w hS
  refine call_intro Try.func13 rfl Try.ntmps13 (Nat.le_of_ble_eq_true rfl) hS ?_
  clear hS w
  unfold tarnlaw2_leads_p at hp
  refine c_seq ?_
  refine c_quiet ?_
  refine ql_s (.bool false) (by kernel_rfl) ?_
  refine ql_nil ?_
  refine e_then ?_
  refine c_seq ?_
  refine c_region ?_
  refine l_s (.agg #[.int .i64 0, .int .i64 0, .int .i64 2, .int .i64 1]) (by kernel_rfl) ?_
  refine l_bslS (cs := [.float .f32 0, .float .f32 0]) (E := 40) (e := encF .f32) ([0, 0] : List Nat) rfl (by kernel_rfl) rfl rfl (Nat.le_of_ble_eq_true rfl) ⟨rfl, rfl, trivial⟩ (fun b3 cp2 => ?_)
  refine l_s (.agg #[.int .i64 0, .int .i64 0, .int .i64 2, .int .i64 1, .slice (some ⟨b3, 0, none⟩) (([0, 0] : List Nat).length) cp2]) (by kernel_rfl) ?_
  refine l_alloc (zs := [.int .i64 0, .int .i64 0, .int .i64 0, .int .i64 0, .slice none 0 0]) rfl (by kernel_rfl) (fun b4 => ?_)
  refine l_store (dd := none) (vs := [.int .i64 0, .int .i64 0, .int .i64 2, .int .i64 1, .slice (some ⟨b3, 0, none⟩) (([0, 0] : List Nat).length) cp2]) (cs' := [.int .i64 0, .int .i64 0, .int .i64 2, .int .i64 1, .slice (some ⟨b3, 0, none⟩) (([0, 0] : List Nat).length) cp2]) rfl (by kernel_rfl) (by kernel_rfl) rfl rfl (Nat.le_of_ble_eq_true rfl) rfl rfl ?_
  refine l_nil ?_
  refine e_then ?_
  refine c_seq ?_
  obtain ⟨r1, hr1, hp⟩ := bnd_some hp
  refine c_region ?_
  refine l_q rfl (qs_ldpt (encW 5 (by decide)) fitv26 rfl 0 rfl (.agg #[.int .i64 0, .int .i64 0, .int .i64 2, .int .i64 1, .slice (some ⟨b3, 0, none⟩) (([0, 0] : List Nat).length) cp2]) (Nat.le_of_ble_eq_true rfl) rfl) ?_
  refine l_s (.agg #[.float .f32 0, .float .f32 0, .float .f32 1065353216, .float .f32 0, .int .i64 0, .slice none 0 0]) (by kernel_rfl) ?_
  refine l_s (.agg #[.int .i64 0, .int .i64 0]) (by kernel_rfl) ?_
  refine l_s (.agg #[.int .i64 1, .int .i64 0]) (by kernel_rfl) ?_
  refine l_perm (fr1_perm 1 _) ?_
  refine l_layS (PH.le_refl _) (fun D3 hle3 h3 => ?_)
  refine l_call rfl rfl Try.call31 (vs := [.agg #[.int .i64 0, .int .i64 0, .int .i64 2, .int .i64 1, .slice (some ⟨b3, 0, none⟩) ([0, 0] : List Nat).length cp2], .agg #[.float .f32 0, .float .f32 0, .float .f32 1065353216, .float .f32 0, .int .i64 0, .slice none 0 0], .agg #[.int .i64 0, .int .i64 0], .agg #[.int .i64 1, .int .i64 0]]) rfl (fun v D4 As2 => ∃ (a2 : Option Addr) (cp4 : Nat), PH.le D3 D4 ∧ v = .tuple #[.slice a2 r1.1.length cp4, .float .f32 r1.2.1, .int .i64 r1.2.2] ∧ RO encS_api_Point D4 (.slice a2 r1.1.length cp4) r1.1 ∧ As2 = pt b4 [.int .i64 0, .int .i64 0, .int .i64 2, .int .i64 1, .slice (some ⟨b3, 0, none⟩) ([0, 0] : List Nat).length cp2] 26 :: F) (fun w hS => (road_Way_s (⟨(⟨0, 0, 2, 1⟩ : S_api_Region), ([0, 0] : List Nat)⟩ : S_api_Field) (some ⟨b3, 0, none⟩) cp2 (⟨0, 0, 1065353216, 0, 0, []⟩ : S_api_RoadRules) none 0 (⟨0, 0⟩ : S_api_Point) (⟨1, 0⟩ : S_api_Point) _ h3 (RO.nil _ _) _ _ hr1 w (hS)).mono fun e w' ⟨D4, a2, cp4, hle4, he, h4, hS2⟩ => ⟨_, D4, _, he, ⟨a2, cp4, hle4, rfl, h4, rfl⟩, hS2⟩) ?_
  rintro _ D4 As2 ⟨a2, cp4, hle4, rfl, h4, hA2⟩
  subst As2
  replace h3 := h3.mono hle4
  refine l_s (.tuple #[.slice a2 r1.1.length cp4, .float .f32 r1.2.1, .int .i64 r1.2.2]) (by kernel_rfl) ?_
  refine l_s (.slice a2 r1.1.length cp4) (by kernel_rfl) ?_
  refine l_s (.float .f32 r1.2.1) (by kernel_rfl) ?_
  refine l_s (.int .i64 r1.2.2) (by kernel_rfl) ?_
  refine l_s (.slice a2 r1.1.length cp4) (by kernel_rfl) ?_
  refine l_s (.float .f32 r1.2.1) (by kernel_rfl) ?_
  refine l_s (.int .i64 r1.2.2) (by kernel_rfl) ?_
  refine l_nil ?_
  refine e_drop ?_
  refine e_then ?_
  refine c_seq ?_
  refine c_cutq_end [(0, .bool ((r1.2.2 == 0) && (((r1.1.length : Int) == 2) && (feq .f32 r1.2.1 1065353216))))] ?_ ?_
  · skip
    refine c_quiet ?_
    refine ql_s (.int .i64 r1.2.2) (by kernel_rfl) ?_
    refine ql_s (.bool (r1.2.2 == 0)) (by kernel_rfl) ?_
    refine ql_s (.bool (r1.2.2 == 0)) (by kernel_rfl) ?_
    refine ql_case 19 ((r1.2.2 == 0)) rfl (fun hg1 => ?_) (fun hg1 => ?_)
    · skip
      refine ql_s (.slice a2 r1.1.length cp4) (by kernel_rfl) ?_
      refine ql_s (.int .i64 (r1.1.length : Int)) (by kernel_rfl) ?_
      refine ql_s (.bool ((r1.1.length : Int) == 2)) (by kernel_rfl) ?_
      refine ql_s (.bool ((r1.1.length : Int) == 2)) (by kernel_rfl) ?_
      refine ql_s (.bool ((r1.1.length : Int) == 2)) (by kernel_rfl) ?_
      refine ql_case 24 (((r1.1.length : Int) == 2)) rfl (fun hg2 => ?_) (fun hg2 => ?_)
      · skip
        refine ql_s (.float .f32 r1.2.1) (by kernel_rfl) ?_
        refine ql_s (.bool (feq .f32 r1.2.1 1065353216)) (by kernel_rfl) ?_
        refine ql_s (.bool (feq .f32 r1.2.1 1065353216)) (by kernel_rfl) ?_
        refine ql_s (.bool (feq .f32 r1.2.1 1065353216)) (by kernel_rfl) ?_
        refine ql_nil (e_cutq ?_)
        exact ⟨(congrArg Value.bool (by first | rfl | (rw [hg1, hg2]; rfl) | simp [hg1, hg2])), trivial⟩
      · skip
        refine ql_s undef (by kernel_rfl) ?_
        refine ql_s undef (by kernel_rfl) ?_
        refine ql_s (.bool false) (by kernel_rfl) ?_
        refine ql_s (.bool false) (by kernel_rfl) ?_
        refine ql_nil (e_cutq ?_)
        exact ⟨(congrArg Value.bool (by first | rfl | (rw [hg1, hg2]; rfl) | simp [hg1, hg2])), trivial⟩
    · skip
      refine ql_s undef (by kernel_rfl) ?_
      refine ql_s undef (by kernel_rfl) ?_
      refine ql_s undef (by kernel_rfl) ?_
      refine ql_s (.bool false) (by kernel_rfl) ?_
      refine ql_s (.bool false) (by kernel_rfl) ?_
      refine ql_s undef (by kernel_rfl) ?_
      refine ql_s undef (by kernel_rfl) ?_
      refine ql_s (.bool false) (by kernel_rfl) ?_
      refine ql_s (.bool false) (by kernel_rfl) ?_
      refine ql_nil (e_cutq ?_)
      exact ⟨(congrArg Value.bool (by first | rfl | (rw [hg1]; rfl) | simp [hg1])), trivial⟩
  intro _
  refine e_then ?_
  refine c_ret ?_
  obtain rfl := Option.some.inj hp
  exact post_all (vs := [.bool ((r1.2.2 == 0) && (((r1.1.length : Int) == 2) && (feq .f32 r1.2.1 1065353216)))]) (.bool ((r1.2.2 == 0) && (((r1.1.length : Int) == 2) && (feq .f32 r1.2.1 1065353216)))) ⟨rfl, trivial⟩ rfl (.inl rfl) (fun w hS => ⟨rfl, (hS.lower (PH.le_trans hle3 hle4))⟩)

-- tarnfell/tarnref2.Cell
set_option maxRecDepth 100000 in
set_option maxHeartbeats 4000000 in
theorem tarnref2_Cell_s (r0 : S_api_Region) (x0 : Int) (y0 : Int) (D : PH)  (F : List Assert) (r : Int) (hp : tarnref2_Cell_p r0 x0 y0 = some r) : ∀ w : World, SInv D (F) w → Calls Try.prog 54 #[.agg #[.int .i64 r0.X, .int .i64 r0.Y, .int .i64 r0.W, .int .i64 r0.H], .int .i64 x0, .int .i64 y0] w (fun e w' => e = .returned (.int .i64 r) ∧ SInv D (F) w') := by
  intro w hS
  refine call_intro Try.func54 rfl Try.ntmps54 (Nat.le_of_ble_eq_true rfl) hS ?_
  clear hS w
  unfold tarnref2_Cell_p at hp
  refine c_seq ?_
  refine c_region ?_
  refine l_box (cs := [.int .i64 r0.X, .int .i64 r0.Y, .int .i64 r0.W, .int .i64 r0.H]) rfl rfl (fun b2 => ?_)
  refine l_s (.int .i64 0) (by kernel_rfl) ?_
  refine l_nil ?_
  refine e_then ?_
  refine c_seq ?_
  refine c_quiet ?_
  refine ql_s (.int .i64 y0) (by kernel_rfl) ?_
  refine ql_s (.pointer (some ⟨b2, 1, none⟩)) (by kernel_rfl) ?_
  refine ql_q rfl (qs_ldpt encV fitv3 rfl 0 rfl (.int .i64 r0.Y) (Nat.le_of_ble_eq_true rfl) rfl) ?_
  refine ql_s (.int .i64 (subI y0 r0.Y)) (by kernel_rfl) ?_
  refine ql_s (.pointer (some ⟨b2, 2, none⟩)) (by kernel_rfl) ?_
  refine ql_q rfl (qs_ldpt encV fitv3 rfl 0 rfl (.int .i64 r0.W) (Nat.le_of_ble_eq_true rfl) rfl) ?_
  refine ql_s (.int .i64 (mulI (subI y0 r0.Y) r0.W)) (by kernel_rfl) ?_
  refine ql_s (.int .i64 x0) (by kernel_rfl) ?_
  refine ql_s (.int .i64 (addI (mulI (subI y0 r0.Y) r0.W) x0)) (by kernel_rfl) ?_
  refine ql_s (.pointer (some ⟨b2, 0, none⟩)) (by kernel_rfl) ?_
  refine ql_q rfl (qs_ldpt encV fitv3 rfl 0 rfl (.int .i64 r0.X) (Nat.le_of_ble_eq_true rfl) rfl) ?_
  refine ql_s (.int .i64 (subI (addI (mulI (subI y0 r0.Y) r0.W) x0) r0.X)) (by kernel_rfl) ?_
  refine ql_s (.int .i64 (subI (addI (mulI (subI y0 r0.Y) r0.W) x0) r0.X)) (by kernel_rfl) ?_
  refine ql_nil ?_
  refine e_drop ?_
  refine e_then ?_
  refine c_ret ?_
  obtain rfl := Option.some.inj hp
  exact post_all (vs := [.int .i64 (subI (addI (mulI (subI y0 r0.Y) r0.W) x0) r0.X)]) (.int .i64 (subI (addI (mulI (subI y0 r0.Y) r0.W) x0) r0.X)) ⟨rfl, trivial⟩ rfl (.inl rfl) (fun w hS => ⟨rfl, hS⟩)

-- tarnfell/tarnref2.Values
set_option maxRecDepth 100000 in
set_option maxHeartbeats 4000000 in
theorem tarnref2_Values_s (f0 : S_api_Field) (f0_v1a : Option Addr) (f0_v1c : Nat) (way0 : List S_api_Point) (way0_v1a : Option Addr) (way0_v1c : Nat) (D : PH) (f0_h1 : RO (encF .f32) D (.slice f0_v1a f0.V.length f0_v1c) f0.V) (way0_h1 : RO encS_api_Point D (.slice way0_v1a way0.length way0_v1c) way0) (F : List Assert) (r : (List Nat)) (hp : tarnref2_Values_p f0 way0 = some r) : ∀ w : World, SInv D (F) w → Calls Try.prog 20 #[.agg #[.int .i64 f0.Region.X, .int .i64 f0.Region.Y, .int .i64 f0.Region.W, .int .i64 f0.Region.H, .slice f0_v1a f0.V.length f0_v1c], .slice way0_v1a way0.length way0_v1c] w (fun e w' => ∃ (D1 : PH) (q_a1 : Option Addr) (q_cp1 : Nat), PH.le D D1 ∧ e = .returned (.slice q_a1 r.length q_cp1) ∧ RO (encF .f32) D1 (.slice q_a1 r.length q_cp1) r ∧ SInv D1 (F) w') := by
  intro w hS
  refine call_intro Try.func20 rfl Try.ntmps20 (Nat.le_of_ble_eq_true rfl) hS ?_
  clear hS w
  unfold tarnref2_Values_p at hp
  refine c_seq ?_
  refine c_region ?_
  refine l_box (cs := [.int .i64 f0.Region.X, .int .i64 f0.Region.Y, .int .i64 f0.Region.W, .int .i64 f0.Region.H, .slice f0_v1a f0.V.length f0_v1c]) rfl rfl (fun b2 => ?_)
  refine l_s (.slice none 0 0) (by kernel_rfl) ?_
  refine l_nil ?_
  refine e_then ?_
  refine c_seq ?_
  refine c_region ?_
  refine l_s (.slice none 0 0) (by kernel_rfl) ?_
  refine l_nilS D (encF .f32) 40 ?_
  refine l_nil ?_
  refine e_then ?_
  refine c_seq ?_
  refine c_seq ?_
  refine c_quiet ?_
  refine ql_s (.slice way0_v1a way0.length way0_v1c) (by kernel_rfl) ?_
  refine ql_s (.int .i64 (way0.length : Int)) (by kernel_rfl) ?_
  refine ql_s (.int .i64 0) (by kernel_rfl) ?_
  refine ql_nil ?_
  refine e_then ?_
  have hb0 : (way0.length : Int) ≤ 4611686018427387904 := by have := RO.bound way0_h1; omega
  have hm0 : way0.length = (way0.length : Int).toNat := by omega
  have hm1 := hm0; have hb1 := hb0; clear hm0 hb0
  obtain ⟨x1, hs1, hp⟩ := bnd_some hp
  obtain ⟨body1, hbody1, hs1⟩ := forS_gen hs1
  refine c_cut_end (fun φ1 D1 As1 => ∃ (a1 : Option Addr) (cp1 : Nat), Is φ1 [(5, .slice a1 x1.length cp1)] ∧ PH.le D D1 ∧ As1 = OwnS D1 (encF .f32) 40 (.slice a1 x1.length cp1) x1 :: pt b2 [.int .i64 f0.Region.X, .int .i64 f0.Region.Y, .int .i64 f0.Region.W, .int .i64 f0.Region.H, .slice f0_v1a f0.V.length f0_v1c] 26 :: F) ?_ ?_
  · skip
    refine c_block ?_
    refine c_perm (fr1_perm 1 _) ?_
    refine c_perm (fr1_perm 1 _) ?_
    refine c_loop (fun k φ1 D2 As1 => ∃ (j1 i1 : Nat) (s1 : (List Nat)) (a2 : Option Addr) (cp2 : Nat), k = j1 + 1 ∧ i1 + j1 = way0.length ∧ Is φ1 [(2, .pointer (some ⟨b2, 0, none⟩)), (5, .slice a2 s1.length cp2), (8, .slice way0_v1a way0.length way0_v1c), (9, .int .i64 (way0.length : Int)), (10, .int .i64 (i1 : Int))] ∧ PH.le D D2 ∧ As1 = OwnS D2 (encF .f32) 40 (.slice a2 s1.length cp2) s1 :: pt b2 [.int .i64 f0.Region.X, .int .i64 f0.Region.Y, .int .i64 f0.Region.W, .int .i64 f0.Region.H, .slice f0_v1a f0.V.length f0_v1c] 26 :: F ∧ forS body1 j1 i1 s1 = some x1) ⟨way0.length + 1, way0.length, 0, ([] : List Nat), none, 0, rfl, Nat.zero_add _, ⟨rfl, rfl, rfl, rfl, rfl, trivial⟩, (PH.le_refl _), rfl, hs1⟩ ?_ ?_
    · rintro _ _ _ ⟨_, _, _, _, _, h0, _⟩; omega
    intro k1
    rintro φ1 D2 As1 ⟨j1, i1, s1, a2, cp2, hk1, hij1, hI1, hD1, hA1, hs2⟩
    subst As1
    replace way0_h1 := way0_h1.mono hD1
    replace f0_h1 := f0_h1.mono hD1
    refine c_frame _ hI1 ?_
    obtain rfl : k1 = j1 := by omega
    clear hk1
    rcases k1 with _ | j1
    · skip
      refine c_seq ?_
      refine c_quiet ?_
      refine ql_s (.bool (decide ((i1 : Int) < (way0.length : Int)))) (by kernel_rfl) ?_
      refine ql_nil ?_
      refine e_then ?_
      refine c_seq ?_
      refine c_cond (decide ((i1 : Int) < (way0.length : Int))) rfl (fun ht1 => absurd ((dec_lt_f hm1 (by omega)).symm.trans ht1) (by simp)) (fun _ => ?_)
      refine c_exit ?_
      refine e_then_exit ?_
      refine e_then_exit ?_
      obtain rfl := Option.some.inj hs2
      refine e_blk_exit ?_
      refine e_perm (fr1_perm 1 _) ?_
      refine e_perm (fr1_perm 1 _) ?_
      exact e_cut ⟨a2, cp2, ⟨rfl, trivial⟩, hD1, rfl⟩
    · skip
      obtain ⟨y1, hx1, hs2⟩ := forS_some hs2
      replace hx1 := (congrFun (congrFun hbody1 i1) s1).trans hx1
      refine c_seq ?_
      refine c_quiet ?_
      refine ql_s (.bool (decide ((i1 : Int) < (way0.length : Int)))) (by kernel_rfl) ?_
      refine ql_nil ?_
      refine e_then ?_
      refine c_seq ?_
      refine c_cond (decide ((i1 : Int) < (way0.length : Int))) rfl (fun _ => ?_) (fun ht2 => absurd ((dec_lt_t hm1 (by omega)).symm.trans ht2) (by simp))
      refine c_skip ?_
      refine e_then ?_
      refine c_seq ?_
      refine c_block ?_
      refine c_seq ?_
      obtain ⟨x2, hx2, hx1⟩ := bnd_some hx1
      obtain ⟨b3, o1, h1, hq1⟩ := RO.at way0_h1 hx2
      obtain ⟨cs1, hc1, ha1⟩ := h1.cells
      obtain rfl := hc1
      refine c_region ?_
      refine l_q rfl (qs_idx hq1 Try.underlying27 fit71 rfl rfl) ?_
      refine l_q rfl (qs_ldC fit71 rfl ha1 rfl (.agg #[.int .i64 x2.X, .int .i64 x2.Y]) rfl) ?_
      refine l_alloc (zs := [.int .i64 0, .int .i64 0]) rfl (by kernel_rfl) (fun b5 => ?_)
      refine l_store (dd := none) (vs := [.int .i64 x2.X, .int .i64 x2.Y]) (cs' := [.int .i64 x2.X, .int .i64 x2.Y]) rfl (by kernel_rfl) (by kernel_rfl) rfl rfl (Nat.le_of_ble_eq_true rfl) rfl rfl ?_
      refine l_nil ?_
      refine e_then ?_
      obtain ⟨r1, hr1, hx1⟩ := bnd_some hx1
      obtain ⟨x3, hx3, hx1⟩ := bnd_some hx1
      obtain ⟨b6, o2, h2, hq2⟩ := RO.at f0_h1 hx3
      obtain ⟨l1, hl1, hx1⟩ := bnd_some hx1
      refine c_perm (fr1_perm 2 _) ?_
      refine c_perm (fr1_perm 1 _) ?_
      refine c_order (B := [pt b5 [.int .i64 x2.X, .int .i64 x2.Y] 71, pt b2 [.int .i64 f0.Region.X, .int .i64 f0.Region.Y, .int .i64 f0.Region.W, .int .i64 f0.Region.H, .slice f0_v1a f0.V.length f0_v1c] 26]) (.q 0 (.q 1 (.q 2 (.q 3 (.q 4 (.q 5 (.q 6 (.q 7 (.q 8 (.q 9 (.q 10 (.q 11 (.e 12 (.e 13 (.q 14 .nil))))))))))))))) hmix (by kernel_rfl) (NoPanic.blk (NoPanic.then (NoPanic.then (NoPanic.blk (NoPanic.then (NoPanic.then NoPanic.post)))))) ?_
      refine o_s (.slice a2 s1.length cp2) rfl (by kernel_rfl) ?_
      refine o_s (.pointer (some ⟨b2, 4, none⟩)) rfl (by kernel_rfl) ?_
      refine o_qs rfl rfl (qs_ldpt encV fitv24 rfl 1 rfl (.slice f0_v1a f0.V.length f0_v1c) (Nat.le_of_ble_eq_true rfl) rfl) ?_
      refine o_s (.pointer (some ⟨b2, 0, none⟩)) rfl (by kernel_rfl) ?_
      refine o_qs rfl rfl (qs_ldpt (encW 4 (by decide)) fitv23 rfl 1 rfl (.agg #[.int .i64 f0.Region.X, .int .i64 f0.Region.Y, .int .i64 f0.Region.W, .int .i64 f0.Region.H]) (Nat.le_of_ble_eq_true rfl) rfl) ?_
      refine o_s (.pointer (some ⟨b5, 0, none⟩)) rfl (by kernel_rfl) ?_
      refine o_qs rfl rfl (qs_ldpt encV fitv3 rfl 0 rfl (.int .i64 x2.X) (Nat.le_of_ble_eq_true rfl) rfl) ?_
      refine o_s (.pointer (some ⟨b5, 1, none⟩)) rfl (by kernel_rfl) ?_
      refine o_qs rfl rfl (qs_ldpt encV fitv3 rfl 0 rfl (.int .i64 x2.Y) (Nat.le_of_ble_eq_true rfl) rfl) ?_
      refine o_call (v := .int .i64 r1) rfl rfl (run_call (vs := [.agg #[.int .i64 f0.Region.X, .int .i64 f0.Region.Y, .int .i64 f0.Region.W, .int .i64 f0.Region.H], .int .i64 x2.X, .int .i64 x2.Y]) rfl Try.call54 rfl) (fun D' R' hD w hS => (tarnref2_Cell_s f0.Region x2.X x2.Y _  _ _ hr1 w (hS)).mono fun e w' h => ⟨h.1, h.2⟩) ?_
      refine o_qs rfl rfl (qs_idx hq2 Try.underlying24 fit40 rfl rfl) ?_
      refine o_qs rfl rfl (qs_ldAtV fit40 rfl h2 valF) ?_
      refine o_bslS (cs := [.float .f32 x3]) (E := 40) (e := encF .f32) ([x3] : List Nat) rfl rfl (PH.le_refl _) (by kernel_rfl) rfl rfl (Nat.le_of_ble_eq_true rfl) ⟨rfl, trivial⟩ (fun b8 cp5 => ?_)
      refine o_perm (fr1_perm 1 _) ?_
      refine o_app hl1 rfl rfl (PH.le_refl _) elem24 Try.underlying24 rfl rfl rfl (OwnS.src 3 rfl ⟨_, _, rfl⟩) (fun a4 cp6 => ?_)
      refine o_s (.slice a4 l1.length cp6) rfl (by kernel_rfl) ?_
      refine o_nil ?_
      refine e_drop ?_
      refine e_perm (fr1_perm 2 _) ?_
      refine e_drop ?_
      refine e_blk ?_
      refine e_then ?_
      refine c_quiet ?_
      refine ql_s (.int .i64 (addI (i1 : Int) 1)) (by kernel_rfl) ?_
      refine ql_s (.int .i64 (addI (i1 : Int) 1)) (by kernel_rfl) ?_
      refine ql_nil ?_
      refine e_perm (fr1_perm 1 _) ?_
      obtain rfl := Option.some.inj hx1
      exact e_cut ⟨j1, i1 + 1, l1, a4, cp6, by omega, by omega, ⟨rfl, rfl, rfl, rfl, (congrArg (Value.int .i64) (addI_succ (by omega))), trivial⟩, hD1, rfl, hs2⟩
  · skip
    rintro φ2 D1 As2 ⟨a1, cp1, hI2, hD2, hA2⟩
    subst As2
    replace f0_h1 := f0_h1.mono hD2
    refine e_frame _ hI2 ?_
    refine e_then ?_
    refine c_seq ?_
    refine c_quiet ?_
    refine ql_s (.slice a1 x1.length cp1) (by kernel_rfl) ?_
    refine ql_s (.slice a1 x1.length cp1) (by kernel_rfl) ?_
    refine ql_nil ?_
    refine e_perm (fr1_perm 1 _) ?_
    refine e_drop ?_
    refine e_then ?_
    refine c_ret ?_
    refine e_layS (PH.le_refl _) (fun D3 hle1 h3 => ?_)
    replace f0_h1 := f0_h1.mono hle1
    obtain rfl := Option.some.inj hp
    exact post_all (vs := [.slice a1 x1.length cp1]) (.slice a1 x1.length cp1) ⟨rfl, trivial⟩ rfl (.inl rfl) (fun w hS => ⟨D3, a1, cp1, (PH.le_trans hD2 hle1), rfl, h3, hS⟩)

-- math.Sqrt
set_option maxRecDepth 100000 in
set_option maxHeartbeats 4000000 in
theorem math_Sqrt_s (x0 : Nat) (D : PH)  (F : List Assert) (r : Nat) (hp : math_Sqrt_p x0 = some r) : ∀ w : World, SInv D (F) w → Calls Try.prog 81 #[.float .f64 x0] w (fun e w' => e = .returned (.float .f64 r) ∧ SInv D (F) w') := by
  intro w hS
  refine call_intro Try.func81 rfl Try.ntmps81 (Nat.le_of_ble_eq_true rfl) hS ?_
  clear hS w
  unfold math_Sqrt_p at hp
  refine c_seq ?_
  refine c_quiet ?_
  refine ql_s (.float .f64 0) (by kernel_rfl) ?_
  refine ql_nil ?_
  refine e_then ?_
  refine c_seq ?_
  obtain ⟨r1, hr1, hp⟩ := bnd_some hp
  refine c_quiet ?_
  refine ql_s (.float .f64 x0) (by kernel_rfl) ?_
  refine ql_q rfl (qs_extern Try.func105 rfl rfl (by kernel_rfl) ext105 (vs := [.float .f64 x0]) rfl (fun w => run_sqrt hr1 w)) ?_
  refine ql_s (.float .f64 r1) (by kernel_rfl) ?_
  refine ql_nil ?_
  refine e_then ?_
  refine c_ret ?_
  obtain rfl := Option.some.inj hp
  exact post_all (vs := [.float .f64 r1]) (.float .f64 r1) ⟨rfl, trivial⟩ rfl (.inl rfl) (fun w hS => ⟨rfl, hS⟩)

-- tarnfell/tarnref2.Root
set_option maxRecDepth 100000 in
set_option maxHeartbeats 4000000 in
theorem tarnref2_Root_s (v0 : Nat) (D : PH)  (F : List Assert) (r : Nat) (hp : tarnref2_Root_p v0 = some r) : ∀ w : World, SInv D (F) w → Calls Try.prog 45 #[.float .f32 v0] w (fun e w' => e = .returned (.float .f32 r) ∧ SInv D (F) w') := by
  intro w hS
  refine call_intro Try.func45 rfl Try.ntmps45 (Nat.le_of_ble_eq_true rfl) hS ?_
  clear hS w
  unfold tarnref2_Root_p at hp
  refine c_seq ?_
  refine c_quiet ?_
  refine ql_s (.float .f32 0) (by kernel_rfl) ?_
  refine ql_nil ?_
  refine e_then ?_
  refine c_seq ?_
  obtain ⟨r1, hr1, hp⟩ := bnd_some hp
  obtain ⟨r2, hr2, hp⟩ := bnd_some hp
  obtain ⟨r3, hr3, hp⟩ := bnd_some hp
  refine c_quiet ?_
  refine ql_s (.float .f32 v0) (by kernel_rfl) ?_
  refine ql_q rfl (qs_fconv Try.underlying40 Try.underlying125 rfl hr1) ?_
  refine ql_call (v := .float .f64 r2) rfl (run_call (vs := [.float .f64 r1]) rfl Try.call81 rfl) (fun w hS => (math_Sqrt_s r1 _  _ _ hr2 w (hS)).mono fun e w' h => ⟨h.1, h.2⟩) ?_
  refine ql_q rfl (qs_fconv Try.underlying125 Try.underlying40 rfl hr3) ?_
  refine ql_s (.float .f32 r3) (by kernel_rfl) ?_
  refine ql_nil ?_
  refine e_then ?_
  refine c_ret ?_
  obtain rfl := Option.some.inj hp
  exact post_all (vs := [.float .f32 r3]) (.float .f32 r3) ⟨rfl, trivial⟩ rfl (.inl rfl) (fun w hS => ⟨rfl, hS⟩)

-- tarnfell/tarnref2.Long
set_option maxRecDepth 100000 in
set_option maxHeartbeats 4000000 in
theorem tarnref2_Long_s (d0 : Int) (D : PH)  (F : List Assert) (r : Nat) (hp : tarnref2_Long_p d0 = some r) : ∀ w : World, SInv D (F) w → Calls Try.prog 89 #[.int .i64 d0] w (fun e w' => e = .returned (.float .f32 r) ∧ SInv D (F) w') := by
  intro w hS
  refine call_intro Try.func89 rfl Try.ntmps89 (Nat.le_of_ble_eq_true rfl) hS ?_
  clear hS w
  unfold tarnref2_Long_p at hp
  refine c_seq ?_
  refine c_quiet ?_
  refine ql_s (.float .f32 0) (by kernel_rfl) ?_
  refine ql_nil ?_
  refine e_then ?_
  refine c_seq ?_
  refine c_seq ?_
  refine c_quiet ?_
  refine ql_s (.int .i64 d0) (by kernel_rfl) ?_
  refine ql_q rfl (qs_idiv (r := remI d0 2) (by decide) rfl rfl rfl) ?_
  refine ql_s (.bool ((remI d0 2) == 1)) (by kernel_rfl) ?_
  refine ql_nil ?_
  refine e_then ?_
  refine c_cond (((remI d0 2) == 1)) rfl (fun ht1 => ?_) (fun ht1 => ?_)
  · skip
    replace hp := if_t ht1 hp
    refine c_seq ?_
    obtain ⟨r1, hr1, hp⟩ := bnd_some hp
    refine c_quiet ?_
    refine ql_call (v := .float .f32 r1) rfl (run_call (vs := [.float .f32 1073741824]) rfl Try.call45 rfl) (fun w hS => (tarnref2_Root_s 1073741824 _  _ _ hr1 w (hS)).mono fun e w' h => ⟨h.1, h.2⟩) ?_
    refine ql_s (.float .f32 r1) (by kernel_rfl) ?_
    refine ql_nil ?_
    refine e_then ?_
    refine c_ret ?_
    refine e_then_ret ?_
    obtain rfl := Option.some.inj hp
    exact post_all (vs := [.float .f32 r1]) (.float .f32 r1) ⟨rfl, trivial⟩ rfl (.inl rfl) (fun w hS => ⟨rfl, hS⟩)
  · skip
    replace hp := if_f ht1 hp
    refine c_skip ?_
    refine e_then ?_
    refine c_seq ?_
    refine c_quiet ?_
    refine ql_s (.float .f32 1065353216) (by kernel_rfl) ?_
    refine ql_nil ?_
    refine e_then ?_
    refine c_ret ?_
    obtain rfl := Option.some.inj hp
    exact post_all (vs := [.float .f32 1065353216]) (.float .f32 1065353216) ⟨rfl, trivial⟩ rfl (.inl rfl) (fun w hS => ⟨rfl, hS⟩)

-- tarnfell/tarnref2.Reach
set_option maxRecDepth 100000 in
set_option maxHeartbeats 4000000 in
theorem tarnref2_Reach_s (d0 : Int) (n0 : Int) (D : PH)  (F : List Assert) (r : Nat) (hp : tarnref2_Reach_p d0 n0 = some r) : ∀ w : World, SInv D (F) w → Calls Try.prog 55 #[.int .i64 d0, .int .i64 n0] w (fun e w' => e = .returned (.float .f32 r) ∧ SInv D (F) w') := by
  intro w hS
  refine call_intro Try.func55 rfl Try.ntmps55 (Nat.le_of_ble_eq_true rfl) hS ?_
  clear hS w
  unfold tarnref2_Reach_p at hp
  refine c_seq ?_
  refine c_quiet ?_
  refine ql_s (.float .f32 0) (by kernel_rfl) ?_
  refine ql_nil ?_
  refine e_then ?_
  refine c_seq ?_
  refine c_seq ?_
  refine c_quiet ?_
  refine ql_s (.int .i64 n0) (by kernel_rfl) ?_
  refine ql_s (.bool (n0 == 1)) (by kernel_rfl) ?_
  refine ql_nil ?_
  refine e_then ?_
  refine c_cond ((n0 == 1)) rfl (fun ht1 => ?_) (fun ht1 => ?_)
  · skip
    replace hp := if_t ht1 hp
    refine c_seq ?_
    obtain ⟨r1, hr1, hp⟩ := bnd_some hp
    refine c_quiet ?_
    refine ql_s (.int .i64 d0) (by kernel_rfl) ?_
    refine ql_call (v := .float .f32 r1) rfl (run_call (vs := [.int .i64 d0]) rfl Try.call89 rfl) (fun w hS => (tarnref2_Long_s d0 _  _ _ hr1 w (hS)).mono fun e w' h => ⟨h.1, h.2⟩) ?_
    refine ql_s (.float .f32 r1) (by kernel_rfl) ?_
    refine ql_nil ?_
    refine e_then ?_
    refine c_ret ?_
    refine e_then_ret ?_
    obtain rfl := Option.some.inj hp
    exact post_all (vs := [.float .f32 r1]) (.float .f32 r1) ⟨rfl, trivial⟩ rfl (.inl rfl) (fun w hS => ⟨rfl, hS⟩)
  · skip
    replace hp := if_f ht1 hp
    refine c_skip ?_
    refine e_then ?_
    refine c_seq ?_
    refine c_seq ?_
    refine c_quiet ?_
    refine ql_s (.int .i64 d0) (by kernel_rfl) ?_
    refine ql_q rfl (qs_idiv (r := remI d0 2) (by decide) rfl rfl rfl) ?_
    refine ql_s (.bool ((remI d0 2) == 1)) (by kernel_rfl) ?_
    refine ql_nil ?_
    refine e_then ?_
    refine c_cond (((remI d0 2) == 1)) rfl (fun ht2 => ?_) (fun ht2 => ?_)
    · skip
      replace hp := if_t ht2 hp
      refine c_seq ?_
      obtain ⟨r2, hr2, hp⟩ := bnd_some hp
      obtain ⟨r3, hr3, hp⟩ := bnd_some hp
      refine c_quiet ?_
      refine ql_s (.int .i64 n0) (by kernel_rfl) ?_
      refine ql_s (.float .f32 (fofI .f32 n0)) (by kernel_rfl) ?_
      refine ql_call (v := .float .f32 r2) rfl (run_call (vs := [.float .f32 1073741824]) rfl Try.call45 rfl) (fun w hS => (tarnref2_Root_s 1073741824 _  _ _ hr2 w (hS)).mono fun e w' h => ⟨h.1, h.2⟩) ?_
      refine ql_q rfl (qs_fop hr3 rfl rfl) ?_
      refine ql_s (.float .f32 r3) (by kernel_rfl) ?_
      refine ql_nil ?_
      refine e_then ?_
      refine c_ret ?_
      refine e_then_ret ?_
      obtain rfl := Option.some.inj hp
      exact post_all (vs := [.float .f32 r3]) (.float .f32 r3) ⟨rfl, trivial⟩ rfl (.inl rfl) (fun w hS => ⟨rfl, hS⟩)
    · skip
      replace hp := if_f ht2 hp
      refine c_skip ?_
      refine e_then ?_
      refine c_seq ?_
      refine c_quiet ?_
      refine ql_s (.int .i64 n0) (by kernel_rfl) ?_
      refine ql_s (.float .f32 (fofI .f32 n0)) (by kernel_rfl) ?_
      refine ql_s (.float .f32 (fofI .f32 n0)) (by kernel_rfl) ?_
      refine ql_nil ?_
      refine e_then ?_
      refine c_ret ?_
      obtain rfl := Option.some.inj hp
      exact post_all (vs := [.float .f32 (fofI .f32 n0)]) (.float .f32 (fofI .f32 n0)) ⟨rfl, trivial⟩ rfl (.inl rfl) (fun w hS => ⟨rfl, hS⟩)

-- tarnfell/tarnref2.Lengths
set_option maxRecDepth 100000 in
set_option maxHeartbeats 4000000 in
theorem tarnref2_Lengths_s (way0 : List S_api_Point) (way0_v1a : Option Addr) (way0_v1c : Nat) (D : PH) (way0_h1 : RO encS_api_Point D (.slice way0_v1a way0.length way0_v1c) way0) (F : List Assert) (r : (List Nat)) (hp : tarnref2_Lengths_p way0 = some r) : ∀ w : World, SInv D (F) w → Calls Try.prog 21 #[.slice way0_v1a way0.length way0_v1c] w (fun e w' => ∃ (D1 : PH) (q_a1 : Option Addr) (q_cp1 : Nat), PH.le D D1 ∧ e = .returned (.slice q_a1 r.length q_cp1) ∧ RO (encF .f32) D1 (.slice q_a1 r.length q_cp1) r ∧ SInv D1 (F) w') := by
  intro w hS
  refine call_intro Try.func21 rfl Try.ntmps21 (Nat.le_of_ble_eq_true rfl) hS ?_
  clear hS w
  unfold tarnref2_Lengths_p at hp
  refine c_seq ?_
  refine c_quiet ?_
  refine ql_s (.slice none 0 0) (by kernel_rfl) ?_
  refine ql_nil ?_
  refine e_then ?_
  refine c_seq ?_
  refine c_region ?_
  refine l_s (.slice none 0 0) (by kernel_rfl) ?_
  refine l_nilS D (encF .f32) 40 ?_
  refine l_nil ?_
  refine e_then ?_
  refine c_seq ?_
  refine c_seq ?_
  refine c_quiet ?_
  refine ql_s (.int .i64 1) (by kernel_rfl) ?_
  refine ql_nil ?_
  refine e_then ?_
  obtain ⟨x1, hs1, hp⟩ := bnd_some hp
  obtain ⟨body1, hbody1, hs1⟩ := loopP_gen hs1
  refine c_cut_end (fun φ1 D1 As1 => ∃ (a1 : Option Addr) (cp1 : Nat), Is φ1 [(3, .slice a1 x1.length cp1)] ∧ PH.le D D1 ∧ As1 = OwnS D1 (encF .f32) 40 (.slice a1 x1.length cp1) x1 :: F) ?_ ?_
  · skip
    refine c_block ?_
    obtain ⟨kz1, hs1⟩ := loopP_ex hs1
    refine c_loop (fun k φ1 D2 As1 => ∃ (s1 : Int × (List Nat)) (a2 : Option Addr) (cp2 : Nat), Is φ1 [(0, .slice way0_v1a way0.length way0_v1c), (3, .slice a2 s1.2.length cp2), (4, .int .i64 s1.1)] ∧ PH.le D D2 ∧ As1 = OwnS D2 (encF .f32) 40 (.slice a2 s1.2.length cp2) s1.2 :: F ∧ iter body1 k s1 = some x1) ⟨kz1, (1, ([] : List Nat)), none, 0, ⟨rfl, rfl, rfl, trivial⟩, (PH.le_refl _), rfl, hs1⟩ ?_ ?_
    · rintro _ _ _ ⟨_, _, _, _, _, _, h0⟩; cases h0
    intro k1
    rintro φ1 D2 As1 ⟨s1, a2, cp2, hI1, hD1, hA1, hs2⟩
    subst As1
    replace way0_h1 := way0_h1.mono hD1
    refine c_frame _ hI1 ?_
    obtain ⟨y1, hx1, hs2⟩ := iter_some hs2
    replace hx1 := (congrFun hbody1 s1).trans hx1
    refine c_seq ?_
    refine c_seq ?_
    refine c_quiet ?_
    refine ql_s (.int .i64 s1.1) (by kernel_rfl) ?_
    refine ql_s (.slice way0_v1a way0.length way0_v1c) (by kernel_rfl) ?_
    refine ql_s (.int .i64 (way0.length : Int)) (by kernel_rfl) ?_
    refine ql_s (.bool (decide (s1.1 < (way0.length : Int)))) (by kernel_rfl) ?_
    refine ql_nil ?_
    refine e_then ?_
    refine c_cond (decide (s1.1 < (way0.length : Int))) rfl (fun ht1 => ?_) (fun ht1 => ?_)
    · skip
      replace hx1 := if_t ht1 hx1
      refine c_skip ?_
      refine e_then ?_
      refine c_seq ?_
      refine c_block ?_
      refine c_seq ?_
      obtain ⟨x2, hx2, hx1⟩ := bnd_some hx1
      obtain ⟨b1, o1, h1, hq1⟩ := RO.at way0_h1 hx2
      obtain ⟨cs1, hc1, ha1⟩ := h1.cells
      obtain rfl := hc1
      obtain ⟨x3, hx3, hx1⟩ := bnd_some hx1
      obtain ⟨b2, o2, h2, hq2⟩ := RO.at way0_h1 hx3
      obtain ⟨cs2, hc2, ha2⟩ := h2.cells
      obtain rfl := hc2
      obtain ⟨r1, hr1, hx1⟩ := bnd_some hx1
      refine c_quiet_draw hmix (by kernel_rfl) ?_
      refine ql_s (.slice way0_v1a way0.length way0_v1c) (by kernel_rfl) ?_
      refine ql_s (.int .i64 s1.1) (by kernel_rfl) ?_
      refine ql_s (.int .i64 (subI s1.1 1)) (by kernel_rfl) ?_
      refine ql_q rfl (qs_idx hq1 Try.underlying27 fit71 rfl rfl) ?_
      refine ql_q rfl (qs_ldC fit71 rfl ha1 rfl (.agg #[.int .i64 x2.X, .int .i64 x2.Y]) rfl) ?_
      refine ql_s (.slice way0_v1a way0.length way0_v1c) (by kernel_rfl) ?_
      refine ql_s (.int .i64 s1.1) (by kernel_rfl) ?_
      refine ql_q rfl (qs_idx hq2 Try.underlying27 fit71 rfl rfl) ?_
      refine ql_q rfl (qs_ldC fit71 rfl ha2 rfl (.agg #[.int .i64 x3.X, .int .i64 x3.Y]) rfl) ?_
      refine ql_call (v := .tuple #[.int .i64 r1.1, .int .i64 r1.2]) rfl (run_call (vs := [.agg #[.int .i64 x2.X, .int .i64 x2.Y], .agg #[.int .i64 x3.X, .int .i64 x3.Y]]) rfl Try.call43 rfl) (fun w hS => (tarnref2_Leap_s x2 x3 _  _ _ hr1 w (hS)).mono fun e w' h => ⟨h.1, h.2⟩) ?_
      refine ql_s (.tuple #[.int .i64 r1.1, .int .i64 r1.2]) (by kernel_rfl) ?_
      refine ql_s (.int .i64 r1.1) (by kernel_rfl) ?_
      refine ql_s (.int .i64 r1.2) (by kernel_rfl) ?_
      refine ql_s (.int .i64 r1.1) (by kernel_rfl) ?_
      refine ql_s (.int .i64 r1.2) (by kernel_rfl) ?_
      refine ql_nil ?_
      refine e_then ?_
      obtain ⟨r2, hr2, hx1⟩ := bnd_some hx1
      obtain ⟨l1, hl1, hx1⟩ := bnd_some hx1
      refine c_region ?_
      refine l_s (.slice a2 s1.2.length cp2) (by kernel_rfl) ?_
      refine l_s (.int .i64 r1.1) (by kernel_rfl) ?_
      refine l_s (.int .i64 r1.2) (by kernel_rfl) ?_
      refine l_callq (v := .float .f32 r2) rfl rfl Try.call55 (vs := [.int .i64 r1.1, .int .i64 r1.2]) rfl (fun w hS => (tarnref2_Reach_s r1.1 r1.2 _  _ _ hr2 w (hS)).mono fun e w' h => ⟨h.1, h.2⟩) ?_
      refine l_bslS (cs := [.float .f32 r2]) (E := 40) (e := encF .f32) ([r2] : List Nat) rfl (by kernel_rfl) rfl rfl (Nat.le_of_ble_eq_true rfl) ⟨rfl, trivial⟩ (fun b4 cp5 => ?_)
      refine l_perm (fr1_perm 1 _) ?_
      refine l_app hl1 rfl elem24 Try.underlying24 rfl rfl rfl (OwnS.src 1 rfl ⟨_, _, rfl⟩) (fun a4 cp6 => ?_)
      refine l_s (.slice a4 l1.length cp6) (by kernel_rfl) ?_
      refine l_nil ?_
      refine e_perm (fr1_perm 1 _) ?_
      refine e_drop ?_
      refine e_blk ?_
      refine e_then ?_
      refine c_quiet ?_
      refine ql_s (.int .i64 s1.1) (by kernel_rfl) ?_
      refine ql_s (.int .i64 (addI s1.1 1)) (by kernel_rfl) ?_
      refine ql_s (.int .i64 (addI s1.1 1)) (by kernel_rfl) ?_
      refine ql_nil ?_
      obtain rfl := Option.some.inj hx1
      exact e_cut ⟨(addI s1.1 1, l1), a4, cp6, ⟨rfl, rfl, rfl, trivial⟩, hD1, rfl, hs2⟩
    · skip
      replace hx1 := if_f ht1 hx1
      refine c_exit ?_
      refine e_then_exit ?_
      refine e_then_exit ?_
      obtain rfl := Option.some.inj hx1
      obtain rfl := hs2
      refine e_blk_exit ?_
      exact e_cut ⟨a2, cp2, ⟨rfl, trivial⟩, hD1, rfl⟩
  · skip
    rintro φ2 D1 As2 ⟨a1, cp1, hI2, hD2, hA2⟩
    subst As2
    refine e_frame _ hI2 ?_
    refine e_then ?_
    refine c_seq ?_
    refine c_quiet ?_
    refine ql_s (.slice a1 x1.length cp1) (by kernel_rfl) ?_
    refine ql_s (.slice a1 x1.length cp1) (by kernel_rfl) ?_
    refine ql_nil ?_
    refine e_then ?_
    refine c_ret ?_
    refine e_layS (PH.le_refl _) (fun D3 hle1 h3 => ?_)
    obtain rfl := Option.some.inj hp
    exact post_all (vs := [.slice a1 x1.length cp1]) (.slice a1 x1.length cp1) ⟨rfl, trivial⟩ rfl (.inl rfl) (fun w hS => ⟨D3, a1, cp1, (PH.le_trans hD2 hle1), rfl, h3, hS⟩)

-- tarnfell/tarnref2.Abs
set_option maxRecDepth 100000 in
set_option maxHeartbeats 4000000 in
theorem tarnref2_Abs_s (v0 : Nat) (D : PH)  (F : List Assert) (r : Nat) (hp : tarnref2_Abs_p v0 = some r) : ∀ w : World, SInv D (F) w → Calls Try.prog 22 #[.float .f32 v0] w (fun e w' => e = .returned (.float .f32 r) ∧ SInv D (F) w') := by
  intro w hS
  refine call_intro Try.func22 rfl Try.ntmps22 (Nat.le_of_ble_eq_true rfl) hS ?_
  clear hS w
  unfold tarnref2_Abs_p at hp
  refine c_seq ?_
  refine c_quiet ?_
  refine ql_s (.float .f32 0) (by kernel_rfl) ?_
  refine ql_nil ?_
  refine e_then ?_
  refine c_seq ?_
  refine c_quiet ?_
  refine ql_s (.float .f32 v0) (by kernel_rfl) ?_
  refine ql_q rfl (qs_extern Try.func57 rfl rfl (by kernel_rfl) ext57 (vs := [.float .f32 v0]) rfl (fun w => rfl)) ?_
  refine ql_q rfl (qs_bits (.inr (.inr (.inr rfl))) rfl rfl) ?_
  refine ql_q rfl (qs_extern Try.func56 rfl rfl (by kernel_rfl) ext56 (vs := [.int .u32 (bitsI .andNot .u32 (v0 : Int) 2147483648)]) rfl (fun w => rfl)) ?_
  refine ql_s (.float .f32 ((bitsI .andNot .u32 (v0 : Int) 2147483648).toNat)) (by kernel_rfl) ?_
  refine ql_nil ?_
  refine e_then ?_
  refine c_ret ?_
  obtain rfl := Option.some.inj hp
  exact post_all (vs := [.float .f32 ((bitsI .andNot .u32 (v0 : Int) 2147483648).toNat)]) (.float .f32 ((bitsI .andNot .u32 (v0 : Int) 2147483648).toNat)) ⟨rfl, trivial⟩ rfl (.inl rfl) (fun w hS => ⟨rfl, hS⟩)

-- slices.Equal[[]float32,float32]
set_option maxRecDepth 100000 in
set_option maxHeartbeats 4000000 in
theorem slices_Equal_float32_float32_s (s10 : List Nat) (s10_v1a : Option Addr) (s10_v1c : Nat) (s20 : List Nat) (s20_v1a : Option Addr) (s20_v1c : Nat) (D : PH) (s10_h1 : RO (encF .f32) D (.slice s10_v1a s10.length s10_v1c) s10) (s20_h1 : RO (encF .f32) D (.slice s20_v1a s20.length s20_v1c) s20) (F : List Assert) (r : Bool) (hp : slices_Equal_float32_float32_p s10 s20 = some r) : ∀ w : World, SInv D (F) w → Calls Try.prog 23 #[.slice s10_v1a s10.length s10_v1c, .slice s20_v1a s20.length s20_v1c] w (fun e w' => e = .returned (.bool r) ∧ SInv D (F) w') := by
  intro w hS
  refine call_intro Try.func23 rfl Try.ntmps23 (Nat.le_of_ble_eq_true rfl) hS ?_
  clear hS w
  unfold slices_Equal_float32_float32_p at hp
  refine c_seq ?_
  refine c_quiet ?_
  refine ql_s (.bool false) (by kernel_rfl) ?_
  refine ql_nil ?_
  refine e_then ?_
  refine c_seq ?_
  refine c_seq ?_
  refine c_quiet ?_
  refine ql_s (.slice s10_v1a s10.length s10_v1c) (by kernel_rfl) ?_
  refine ql_s (.int .i64 (s10.length : Int)) (by kernel_rfl) ?_
  refine ql_s (.slice s20_v1a s20.length s20_v1c) (by kernel_rfl) ?_
  refine ql_s (.int .i64 (s20.length : Int)) (by kernel_rfl) ?_
  refine ql_s (.bool ((s10.length : Int) != (s20.length : Int))) (by kernel_rfl) ?_
  refine ql_nil ?_
  refine e_then ?_
  refine c_cond (((s10.length : Int) != (s20.length : Int))) rfl (fun ht1 => ?_) (fun ht1 => ?_)
  · skip
    replace hp := if_t ht1 hp
    refine c_seq ?_
    refine c_quiet ?_
    refine ql_s (.bool false) (by kernel_rfl) ?_
    refine ql_nil ?_
    refine e_then ?_
    refine c_ret ?_
    refine e_then_ret ?_
    obtain rfl := Option.some.inj hp
    exact post_all (vs := [.bool false]) (.bool false) ⟨rfl, trivial⟩ rfl (.inl rfl) (fun w hS => ⟨rfl, hS⟩)
  · skip
    replace hp := if_f ht1 hp
    refine c_skip ?_
    refine e_then ?_
    refine c_seq ?_
    refine c_seq ?_
    refine c_quiet ?_
    refine ql_s (.slice s10_v1a s10.length s10_v1c) (by kernel_rfl) ?_
    refine ql_s (.int .i64 (s10.length : Int)) (by kernel_rfl) ?_
    refine ql_s (.int .i64 0) (by kernel_rfl) ?_
    refine ql_nil ?_
    refine e_then ?_
    have hb0 : (s10.length : Int) ≤ 4611686018427387904 := by have := RO.bound s10_h1; omega
    have hm0 : s10.length = (s10.length : Int).toNat := by omega
    have hm1 := hm0; have hb1 := hb0; clear hm0 hb0
    obtain ⟨x1, hs1, hp⟩ := bnd_some hp
    obtain ⟨body1, hbody1, hs1⟩ := forI_gen hs1
    refine c_cut_end (fun φ1 D1 As1 => ∃ (s1 : Unit), x1 = .go s1 ∧ Is φ1 [] ∧ PH.le D D1 ∧ As1 = F) ?_ ?_
    · skip
      refine c_block ?_
      refine c_loop (fun k φ1 D2 As1 => ∃ (j1 i1 : Nat) (s2 : Unit), k = j1 + 1 ∧ i1 + j1 = s10.length ∧ Is φ1 [(0, .slice s10_v1a s10.length s10_v1c), (1, .slice s20_v1a s20.length s20_v1c), (12, .int .i64 (s10.length : Int)), (13, .int .i64 (i1 : Int))] ∧ PH.le D D2 ∧ As1 = F ∧ forI body1 j1 i1 s2 = some x1) ⟨s10.length + 1, s10.length, 0, (), rfl, Nat.zero_add _, ⟨rfl, rfl, rfl, rfl, trivial⟩, (PH.le_refl _), rfl, hs1⟩ ?_ ?_
      · rintro _ _ _ ⟨_, _, _, h0, _⟩; omega
      intro k1
      rintro φ1 D2 As1 ⟨j1, i1, s2, hk1, hij1, hI1, hD1, hA1, hs2⟩
      subst As1
      replace s10_h1 := s10_h1.mono hD1
      replace s20_h1 := s20_h1.mono hD1
      refine c_frame _ hI1 ?_
      obtain rfl : k1 = j1 := by omega
      clear hk1
      rcases k1 with _ | j1
      · skip
        refine c_seq ?_
        refine c_quiet ?_
        refine ql_s (.bool (decide ((i1 : Int) < (s10.length : Int)))) (by kernel_rfl) ?_
        refine ql_nil ?_
        refine e_then ?_
        refine c_seq ?_
        refine c_cond (decide ((i1 : Int) < (s10.length : Int))) rfl (fun ht2 => absurd ((dec_lt_f hm1 (by omega)).symm.trans ht2) (by simp)) (fun _ => ?_)
        refine c_exit ?_
        refine e_then_exit ?_
        refine e_then_exit ?_
        obtain rfl := Option.some.inj hs2
        refine e_blk_exit ?_
        exact e_cut ⟨(), rfl, trivial, hD1, rfl⟩
      · skip
        obtain ⟨y1, hx1, hs2⟩ := forI_some hs2
        replace hx1 := (congrFun (congrFun hbody1 i1) s2).trans hx1
        refine c_seq ?_
        refine c_quiet ?_
        refine ql_s (.bool (decide ((i1 : Int) < (s10.length : Int)))) (by kernel_rfl) ?_
        refine ql_nil ?_
        refine e_then ?_
        refine c_seq ?_
        refine c_cond (decide ((i1 : Int) < (s10.length : Int))) rfl (fun _ => ?_) (fun ht3 => absurd ((dec_lt_t hm1 (by omega)).symm.trans ht3) (by simp))
        refine c_skip ?_
        refine e_then ?_
        refine c_seq ?_
        refine c_block ?_
        refine c_seq ?_
        refine c_quiet ?_
        refine ql_s (.int .i64 (i1 : Int)) (by kernel_rfl) ?_
        refine ql_s (.int .i64 (i1 : Int)) (by kernel_rfl) ?_
        refine ql_nil ?_
        refine e_then ?_
        refine c_seq ?_
        obtain ⟨x2, hx2, hx1⟩ := bnd_some hx1
        obtain ⟨b1, o1, h1, hq1⟩ := RO.at s10_h1 hx2
        obtain ⟨x3, hx3, hx1⟩ := bnd_some hx1
        obtain ⟨b2, o2, h2, hq2⟩ := RO.at s20_h1 hx3
        refine c_quiet_draw hmix (by kernel_rfl) ?_
        refine ql_s (.slice s10_v1a s10.length s10_v1c) (by kernel_rfl) ?_
        refine ql_s (.int .i64 (i1 : Int)) (by kernel_rfl) ?_
        refine ql_q rfl (qs_idx hq1 Try.underlying24 fit40 rfl rfl) ?_
        refine ql_q rfl (qs_ldAtV fit40 rfl h1 valF) ?_
        refine ql_s (.slice s20_v1a s20.length s20_v1c) (by kernel_rfl) ?_
        refine ql_s (.int .i64 (i1 : Int)) (by kernel_rfl) ?_
        refine ql_q rfl (qs_idx hq2 Try.underlying24 fit40 rfl rfl) ?_
        refine ql_q rfl (qs_ldAtV fit40 rfl h2 valF) ?_
        refine ql_s (.bool (fne .f32 x2 x3)) (by kernel_rfl) ?_
        refine ql_nil ?_
        refine e_then ?_
        refine c_cond (fne .f32 x2 x3) rfl (fun ht4 => ?_) (fun ht4 => ?_)
        · skip
          replace hx1 := if_t ht4 hx1
          refine c_seq ?_
          refine c_quiet ?_
          refine ql_s (.bool false) (by kernel_rfl) ?_
          refine ql_nil ?_
          refine e_then ?_
          refine c_ret ?_
          refine e_blk_ret ?_
          refine e_then_ret ?_
          refine e_then_ret ?_
          obtain rfl := Option.some.inj hx1
          obtain rfl := hs2
          refine e_blk_ret ?_
          refine e_then_ret ?_
          dsimp only at hp
          refine e_then_ret ?_
          obtain rfl := Option.some.inj hp
          exact post_all (vs := [.bool false]) (.bool false) ⟨rfl, trivial⟩ rfl (.inl rfl) (fun w hS => ⟨rfl, (hS.lower hD1)⟩)
        · skip
          replace hx1 := if_f ht4 hx1
          refine c_skip ?_
          refine e_blk ?_
          refine e_then ?_
          refine c_quiet ?_
          refine ql_s (.int .i64 (addI (i1 : Int) 1)) (by kernel_rfl) ?_
          refine ql_s (.int .i64 (addI (i1 : Int) 1)) (by kernel_rfl) ?_
          refine ql_nil ?_
          obtain rfl := Option.some.inj hx1
          exact e_cut ⟨j1, i1 + 1, (), by omega, by omega, ⟨rfl, rfl, rfl, (congrArg (Value.int .i64) (addI_succ (by omega))), trivial⟩, hD1, rfl, hs2⟩
    · skip
      rintro φ2 D1 As2 ⟨s1, rfl, hI2, hD2, hA2⟩
      subst As2
      dsimp only at hp
      refine e_frame _ hI2 ?_
      refine e_then ?_
      refine c_seq ?_
      refine c_quiet ?_
      refine ql_s (.bool true) (by kernel_rfl) ?_
      refine ql_nil ?_
      refine e_then ?_
      refine c_ret ?_
      obtain rfl := Option.some.inj hp
      exact post_all (vs := [.bool true]) (.bool true) ⟨rfl, trivial⟩ rfl (.inl rfl) (fun w hS => ⟨rfl, (hS.lower hD2)⟩)

-- tarnfell/tarnlaw2.within
set_option maxRecDepth 100000 in
set_option maxHeartbeats 4000000 in
theorem tarnlaw2_within_s (n0 : Int) (low0 : Int) (high0 : Int) (D : PH)  (F : List Assert) (r : Bool) (hp : tarnlaw2_within_p n0 low0 high0 = some r) : ∀ w : World, SInv D (F) w → Calls Try.prog 12 #[.int .i64 n0, .int .i64 low0, .int .i64 high0] w (fun e w' => e = .returned (.bool r) ∧ SInv D (F) w') := by
  intro w hS
  refine call_intro Try.func12 rfl Try.ntmps12 (Nat.le_of_ble_eq_true rfl) hS ?_
  clear hS w
  unfold tarnlaw2_within_p at hp
  refine c_seq ?_
  refine c_quiet ?_
  refine ql_s (.bool false) (by kernel_rfl) ?_
  refine ql_nil ?_
  refine e_then ?_
  refine c_seq ?_
  refine c_cutq_end [(6, .bool ((decide (n0 ≥ low0)) && (decide (n0 ≤ high0))))] ?_ ?_
  · skip
    refine c_quiet ?_
    refine ql_s (.int .i64 n0) (by kernel_rfl) ?_
    refine ql_s (.int .i64 low0) (by kernel_rfl) ?_
    refine ql_s (.bool (decide (n0 ≥ low0))) (by kernel_rfl) ?_
    refine ql_s (.bool (decide (n0 ≥ low0))) (by kernel_rfl) ?_
    refine ql_case 10 (decide (n0 ≥ low0)) rfl (fun hg1 => ?_) (fun hg1 => ?_)
    · skip
      refine ql_s (.int .i64 n0) (by kernel_rfl) ?_
      refine ql_s (.int .i64 high0) (by kernel_rfl) ?_
      refine ql_s (.bool (decide (n0 ≤ high0))) (by kernel_rfl) ?_
      refine ql_s (.bool (decide (n0 ≤ high0))) (by kernel_rfl) ?_
      refine ql_s (.bool (decide (n0 ≤ high0))) (by kernel_rfl) ?_
      refine ql_nil (e_cutq ?_)
      exact ⟨(congrArg Value.bool (by first | rfl | (rw [hg1]; rfl) | simp [hg1])), trivial⟩
    · skip
      refine ql_s undef (by kernel_rfl) ?_
      refine ql_s undef (by kernel_rfl) ?_
      refine ql_s undef (by kernel_rfl) ?_
      refine ql_s (.bool false) (by kernel_rfl) ?_
      refine ql_s (.bool false) (by kernel_rfl) ?_
      refine ql_nil (e_cutq ?_)
      exact ⟨(congrArg Value.bool (by first | rfl | (rw [hg1]; rfl) | simp [hg1])), trivial⟩
  intro _
  refine e_then ?_
  refine c_ret ?_
  obtain rfl := Option.some.inj hp
  exact post_all (vs := [.bool ((decide (n0 ≥ low0)) && (decide (n0 ≤ high0)))]) (.bool ((decide (n0 ≥ low0)) && (decide (n0 ≤ high0)))) ⟨rfl, trivial⟩ rfl (.inl rfl) (fun w hS => ⟨rfl, hS⟩)

-- tarnfell/tarnlaw2.when
set_option maxRecDepth 100000 in
set_option maxHeartbeats 4000000 in
theorem tarnlaw2_when_s (is0 : Bool) (e0 : Int) (D : PH)  (F : List Assert) (r : Int) (hp : tarnlaw2_when_p is0 e0 = some r) : ∀ w : World, SInv D (F) w → Calls Try.prog 10 #[.bool is0, .int .i64 e0] w (fun e w' => e = .returned (.int .i64 r) ∧ SInv D (F) w') := by
  intro w hS
  refine call_intro Try.func10 rfl Try.ntmps10 (Nat.le_of_ble_eq_true rfl) hS ?_
  clear hS w
  unfold tarnlaw2_when_p at hp
  refine c_seq ?_
  refine c_quiet ?_
  refine ql_s (.int .i64 0) (by kernel_rfl) ?_
  refine ql_nil ?_
  refine e_then ?_
  refine c_seq ?_
  refine c_seq ?_
  refine c_quiet ?_
  refine ql_s (.bool is0) (by kernel_rfl) ?_
  refine ql_nil ?_
  refine e_then ?_
  refine c_cond (is0) rfl (fun ht1 => ?_) (fun ht1 => ?_)
  · skip
    replace hp := if_t ht1 hp
    refine c_seq ?_
    refine c_quiet ?_
    refine ql_s (.int .i64 e0) (by kernel_rfl) ?_
    refine ql_s (.int .i64 e0) (by kernel_rfl) ?_
    refine ql_nil ?_
    refine e_then ?_
    refine c_ret ?_
    refine e_then_ret ?_
    obtain rfl := Option.some.inj hp
    exact post_all (vs := [.int .i64 e0]) (.int .i64 e0) ⟨rfl, trivial⟩ rfl (.inl rfl) (fun w hS => ⟨rfl, hS⟩)
  · skip
    replace hp := if_f ht1 hp
    refine c_skip ?_
    refine e_then ?_
    refine c_seq ?_
    refine c_quiet ?_
    refine ql_s (.int .i64 0) (by kernel_rfl) ?_
    refine ql_nil ?_
    refine e_then ?_
    refine c_ret ?_
    obtain rfl := Option.some.inj hp
    exact post_all (vs := [.int .i64 0]) (.int .i64 0) ⟨rfl, trivial⟩ rfl (.inl rfl) (fun w hS => ⟨rfl, hS⟩)

-- tarnfell/tarnref2.BedOf
set_option maxRecDepth 100000 in
set_option maxHeartbeats 4000000 in
theorem tarnref2_BedOf_v2_s (f0 : S_api_Field) (f0_v1a : Option Addr) (f0_v1c : Nat) (way0 : List S_api_Point) (way0_v1a : Option Addr) (way0_v1c : Nat) (how0 : Int) (grade0 : Nat) (D : PH) (f0_h1 : RO (encF .f32) D (.slice f0_v1a f0.V.length f0_v1c) f0.V) (way0_h1 : RO encS_api_Point D (.slice way0_v1a way0.length way0_v1c) way0) (F : List Assert) (r : (List Nat)) (hp : tarnref2_BedOf_v2_p f0 way0 how0 grade0 = some r) : ∀ w : World, SInv D (F) w → Calls Try.prog 24 #[.agg #[.int .i64 f0.Region.X, .int .i64 f0.Region.Y, .int .i64 f0.Region.W, .int .i64 f0.Region.H, .slice f0_v1a f0.V.length f0_v1c], .slice way0_v1a way0.length way0_v1c, .int .i64 how0, .float .f32 grade0] w (fun e w' => ∃ (D1 : PH) (q_a1 : Option Addr) (q_cp1 : Nat), PH.le D D1 ∧ e = .returned (.slice q_a1 r.length q_cp1) ∧ SInv D1 (OwnS D1 (encF .f32) 40 (.slice q_a1 r.length q_cp1) r :: F) w') := by
  intro w hS
  refine call_intro Try.func24 rfl Try.ntmps24 (Nat.le_of_ble_eq_true rfl) hS ?_
  clear hS w
  unfold tarnref2_BedOf_v2_p at hp
  cases hp

-- tarnfell/tarnref2.BedOf
set_option maxRecDepth 100000 in
set_option maxHeartbeats 4000000 in
theorem tarnref2_BedOf_v3_s (f0 : S_api_Field) (f0_v1a : Option Addr) (f0_v1c : Nat) (way0 : List S_api_Point) (way0_v1a : Option Addr) (way0_v1c : Nat) (how0 : Int) (grade0 : Nat) (D : PH) (f0_h1 : RO (encF .f32) D (.slice f0_v1a f0.V.length f0_v1c) f0.V) (way0_h1 : RO encS_api_Point D (.slice way0_v1a way0.length way0_v1c) way0) (F : List Assert) (r : (List Nat)) (hp : tarnref2_BedOf_v3_p f0 way0 how0 grade0 = some r) : ∀ w : World, SInv D (F) w → Calls Try.prog 24 #[.agg #[.int .i64 f0.Region.X, .int .i64 f0.Region.Y, .int .i64 f0.Region.W, .int .i64 f0.Region.H, .slice f0_v1a f0.V.length f0_v1c], .slice way0_v1a way0.length way0_v1c, .int .i64 how0, .float .f32 grade0] w (fun e w' => ∃ (D1 : PH) (q_a1 : Option Addr) (q_cp1 : Nat), PH.le D D1 ∧ e = .returned (.slice q_a1 r.length q_cp1) ∧ RO (encF .f32) D1 (.slice q_a1 r.length q_cp1) r ∧ SInv D1 (F) w') := by
  intro w hS
  refine call_intro Try.func24 rfl Try.ntmps24 (Nat.le_of_ble_eq_true rfl) hS ?_
  clear hS w
  unfold tarnref2_BedOf_v3_p at hp
  cases hp

-- tarnfell/tarnref2.Values
set_option maxRecDepth 100000 in
set_option maxHeartbeats 4000000 in
theorem tarnref2_Values_v1_s (f0 : S_api_Field) (f0_v1a : Option Addr) (f0_v1c : Nat) (way0 : List S_api_Point) (way0_v1a : Option Addr) (way0_v1c : Nat) (D : PH) (f0_h1 : RO (encF .f32) D (.slice f0_v1a f0.V.length f0_v1c) f0.V) (way0_h1 : RO encS_api_Point D (.slice way0_v1a way0.length way0_v1c) way0) (F : List Assert) (r : (List Nat)) (hp : tarnref2_Values_v1_p f0 way0 = some r) : ∀ w : World, SInv D (F) w → Calls Try.prog 20 #[.agg #[.int .i64 f0.Region.X, .int .i64 f0.Region.Y, .int .i64 f0.Region.W, .int .i64 f0.Region.H, .slice f0_v1a f0.V.length f0_v1c], .slice way0_v1a way0.length way0_v1c] w (fun e w' => ∃ (D1 : PH) (q_a1 : Option Addr) (q_cp1 : Nat), PH.le D D1 ∧ e = .returned (.slice q_a1 r.length q_cp1) ∧ SInv D1 (OwnS D1 (encF .f32) 40 (.slice q_a1 r.length q_cp1) r :: F) w') := by
  intro w hS
  refine call_intro Try.func20 rfl Try.ntmps20 (Nat.le_of_ble_eq_true rfl) hS ?_
  clear hS w
  unfold tarnref2_Values_v1_p at hp
  refine c_seq ?_
  refine c_region ?_
  refine l_box (cs := [.int .i64 f0.Region.X, .int .i64 f0.Region.Y, .int .i64 f0.Region.W, .int .i64 f0.Region.H, .slice f0_v1a f0.V.length f0_v1c]) rfl rfl (fun b2 => ?_)
  refine l_s (.slice none 0 0) (by kernel_rfl) ?_
  refine l_nilS D (encF .f32) 40 ?_
  refine l_nil ?_
  refine e_drop ?_
  refine e_then ?_
  refine c_seq ?_
  refine c_region ?_
  refine l_s (.slice none 0 0) (by kernel_rfl) ?_
  refine l_nilS D (encF .f32) 40 ?_
  refine l_nil ?_
  refine e_then ?_
  refine c_seq ?_
  refine c_seq ?_
  refine c_quiet ?_
  refine ql_s (.slice way0_v1a way0.length way0_v1c) (by kernel_rfl) ?_
  refine ql_s (.int .i64 (way0.length : Int)) (by kernel_rfl) ?_
  refine ql_s (.int .i64 0) (by kernel_rfl) ?_
  refine ql_nil ?_
  refine e_then ?_
  have hb0 : (way0.length : Int) ≤ 4611686018427387904 := by have := RO.bound way0_h1; omega
  have hm0 : way0.length = (way0.length : Int).toNat := by omega
  have hm1 := hm0; have hb1 := hb0; clear hm0 hb0
  obtain ⟨x1, hs1, hp⟩ := bnd_some hp
  obtain ⟨body1, hbody1, hs1⟩ := forS_gen hs1
  refine c_cut_end (fun φ1 D1 As1 => ∃ (a1 : Option Addr) (cp1 : Nat), Is φ1 [(5, .slice a1 x1.length cp1)] ∧ PH.le D D1 ∧ As1 = OwnS D1 (encF .f32) 40 (.slice a1 x1.length cp1) x1 :: pt b2 [.int .i64 f0.Region.X, .int .i64 f0.Region.Y, .int .i64 f0.Region.W, .int .i64 f0.Region.H, .slice f0_v1a f0.V.length f0_v1c] 26 :: F) ?_ ?_
  · skip
    refine c_block ?_
    refine c_perm (fr1_perm 1 _) ?_
    refine c_perm (fr1_perm 1 _) ?_
    refine c_loop (fun k φ1 D2 As1 => ∃ (j1 i1 : Nat) (s1 : (List Nat)) (a2 : Option Addr) (cp2 : Nat), k = j1 + 1 ∧ i1 + j1 = way0.length ∧ Is φ1 [(2, .pointer (some ⟨b2, 0, none⟩)), (5, .slice a2 s1.length cp2), (8, .slice way0_v1a way0.length way0_v1c), (9, .int .i64 (way0.length : Int)), (10, .int .i64 (i1 : Int))] ∧ PH.le D D2 ∧ As1 = OwnS D2 (encF .f32) 40 (.slice a2 s1.length cp2) s1 :: pt b2 [.int .i64 f0.Region.X, .int .i64 f0.Region.Y, .int .i64 f0.Region.W, .int .i64 f0.Region.H, .slice f0_v1a f0.V.length f0_v1c] 26 :: F ∧ forS body1 j1 i1 s1 = some x1) ⟨way0.length + 1, way0.length, 0, ([] : List Nat), none, 0, rfl, Nat.zero_add _, ⟨rfl, rfl, rfl, rfl, rfl, trivial⟩, (PH.le_refl _), rfl, hs1⟩ ?_ ?_
    · rintro _ _ _ ⟨_, _, _, _, _, h0, _⟩; omega
    intro k1
    rintro φ1 D2 As1 ⟨j1, i1, s1, a2, cp2, hk1, hij1, hI1, hD1, hA1, hs2⟩
    subst As1
    replace way0_h1 := way0_h1.mono hD1
    replace f0_h1 := f0_h1.mono hD1
    refine c_frame _ hI1 ?_
    obtain rfl : k1 = j1 := by omega
    clear hk1
    rcases k1 with _ | j1
    · skip
      refine c_seq ?_
      refine c_quiet ?_
      refine ql_s (.bool (decide ((i1 : Int) < (way0.length : Int)))) (by kernel_rfl) ?_
      refine ql_nil ?_
      refine e_then ?_
      refine c_seq ?_
      refine c_cond (decide ((i1 : Int) < (way0.length : Int))) rfl (fun ht1 => absurd ((dec_lt_f hm1 (by omega)).symm.trans ht1) (by simp)) (fun _ => ?_)
      refine c_exit ?_
      refine e_then_exit ?_
      refine e_then_exit ?_
      obtain rfl := Option.some.inj hs2
      refine e_blk_exit ?_
      refine e_perm (fr1_perm 1 _) ?_
      refine e_perm (fr1_perm 1 _) ?_
      exact e_cut ⟨a2, cp2, ⟨rfl, trivial⟩, hD1, rfl⟩
    · skip
      obtain ⟨y1, hx1, hs2⟩ := forS_some hs2
      replace hx1 := (congrFun (congrFun hbody1 i1) s1).trans hx1
      refine c_seq ?_
      refine c_quiet ?_
      refine ql_s (.bool (decide ((i1 : Int) < (way0.length : Int)))) (by kernel_rfl) ?_
      refine ql_nil ?_
      refine e_then ?_
      refine c_seq ?_
      refine c_cond (decide ((i1 : Int) < (way0.length : Int))) rfl (fun _ => ?_) (fun ht2 => absurd ((dec_lt_t hm1 (by omega)).symm.trans ht2) (by simp))
      refine c_skip ?_
      refine e_then ?_
      refine c_seq ?_
      refine c_block ?_
      refine c_seq ?_
      obtain ⟨x2, hx2, hx1⟩ := bnd_some hx1
      obtain ⟨b3, o1, h1, hq1⟩ := RO.at way0_h1 hx2
      obtain ⟨cs1, hc1, ha1⟩ := h1.cells
      obtain rfl := hc1
      refine c_region ?_
      refine l_q rfl (qs_idx hq1 Try.underlying27 fit71 rfl rfl) ?_
      refine l_q rfl (qs_ldC fit71 rfl ha1 rfl (.agg #[.int .i64 x2.X, .int .i64 x2.Y]) rfl) ?_
      refine l_alloc (zs := [.int .i64 0, .int .i64 0]) rfl (by kernel_rfl) (fun b5 => ?_)
      refine l_store (dd := none) (vs := [.int .i64 x2.X, .int .i64 x2.Y]) (cs' := [.int .i64 x2.X, .int .i64 x2.Y]) rfl (by kernel_rfl) (by kernel_rfl) rfl rfl (Nat.le_of_ble_eq_true rfl) rfl rfl ?_
      refine l_nil ?_
      refine e_then ?_
      obtain ⟨r1, hr1, hx1⟩ := bnd_some hx1
      obtain ⟨x3, hx3, hx1⟩ := bnd_some hx1
      obtain ⟨b6, o2, h2, hq2⟩ := RO.at f0_h1 hx3
      obtain ⟨l1, hl1, hx1⟩ := bnd_some hx1
      refine c_perm (fr1_perm 2 _) ?_
      refine c_perm (fr1_perm 1 _) ?_
      refine c_order (B := [pt b5 [.int .i64 x2.X, .int .i64 x2.Y] 71, pt b2 [.int .i64 f0.Region.X, .int .i64 f0.Region.Y, .int .i64 f0.Region.W, .int .i64 f0.Region.H, .slice f0_v1a f0.V.length f0_v1c] 26]) (.q 0 (.q 1 (.q 2 (.q 3 (.q 4 (.q 5 (.q 6 (.q 7 (.q 8 (.q 9 (.q 10 (.q 11 (.e 12 (.e 13 (.q 14 .nil))))))))))))))) hmix (by kernel_rfl) (NoPanic.blk (NoPanic.then (NoPanic.then (NoPanic.blk (NoPanic.then (NoPanic.then NoPanic.post)))))) ?_
      refine o_s (.slice a2 s1.length cp2) rfl (by kernel_rfl) ?_
      refine o_s (.pointer (some ⟨b2, 4, none⟩)) rfl (by kernel_rfl) ?_
      refine o_qs rfl rfl (qs_ldpt encV fitv24 rfl 1 rfl (.slice f0_v1a f0.V.length f0_v1c) (Nat.le_of_ble_eq_true rfl) rfl) ?_
      refine o_s (.pointer (some ⟨b2, 0, none⟩)) rfl (by kernel_rfl) ?_
      refine o_qs rfl rfl (qs_ldpt (encW 4 (by decide)) fitv23 rfl 1 rfl (.agg #[.int .i64 f0.Region.X, .int .i64 f0.Region.Y, .int .i64 f0.Region.W, .int .i64 f0.Region.H]) (Nat.le_of_ble_eq_true rfl) rfl) ?_
      refine o_s (.pointer (some ⟨b5, 0, none⟩)) rfl (by kernel_rfl) ?_
      refine o_qs rfl rfl (qs_ldpt encV fitv3 rfl 0 rfl (.int .i64 x2.X) (Nat.le_of_ble_eq_true rfl) rfl) ?_
      refine o_s (.pointer (some ⟨b5, 1, none⟩)) rfl (by kernel_rfl) ?_
      refine o_qs rfl rfl (qs_ldpt encV fitv3 rfl 0 rfl (.int .i64 x2.Y) (Nat.le_of_ble_eq_true rfl) rfl) ?_
      refine o_call (v := .int .i64 r1) rfl rfl (run_call (vs := [.agg #[.int .i64 f0.Region.X, .int .i64 f0.Region.Y, .int .i64 f0.Region.W, .int .i64 f0.Region.H], .int .i64 x2.X, .int .i64 x2.Y]) rfl Try.call54 rfl) (fun D' R' hD w hS => (tarnref2_Cell_s f0.Region x2.X x2.Y _  _ _ hr1 w (hS)).mono fun e w' h => ⟨h.1, h.2⟩) ?_
      refine o_qs rfl rfl (qs_idx hq2 Try.underlying24 fit40 rfl rfl) ?_
      refine o_qs rfl rfl (qs_ldAtV fit40 rfl h2 valF) ?_
      refine o_bslS (cs := [.float .f32 x3]) (E := 40) (e := encF .f32) ([x3] : List Nat) rfl rfl (PH.le_refl _) (by kernel_rfl) rfl rfl (Nat.le_of_ble_eq_true rfl) ⟨rfl, trivial⟩ (fun b8 cp5 => ?_)
      refine o_perm (fr1_perm 1 _) ?_
      refine o_app hl1 rfl rfl (PH.le_refl _) elem24 Try.underlying24 rfl rfl rfl (OwnS.src 3 rfl ⟨_, _, rfl⟩) (fun a4 cp6 => ?_)
      refine o_s (.slice a4 l1.length cp6) rfl (by kernel_rfl) ?_
      refine o_nil ?_
      refine e_drop ?_
      refine e_perm (fr1_perm 2 _) ?_
      refine e_drop ?_
      refine e_blk ?_
      refine e_then ?_
      refine c_quiet ?_
      refine ql_s (.int .i64 (addI (i1 : Int) 1)) (by kernel_rfl) ?_
      refine ql_s (.int .i64 (addI (i1 : Int) 1)) (by kernel_rfl) ?_
      refine ql_nil ?_
      refine e_perm (fr1_perm 1 _) ?_
      obtain rfl := Option.some.inj hx1
      exact e_cut ⟨j1, i1 + 1, l1, a4, cp6, by omega, by omega, ⟨rfl, rfl, rfl, rfl, (congrArg (Value.int .i64) (addI_succ (by omega))), trivial⟩, hD1, rfl, hs2⟩
  · skip
    rintro φ2 D1 As2 ⟨a1, cp1, hI2, hD2, hA2⟩
    subst As2
    replace f0_h1 := f0_h1.mono hD2
    refine e_frame _ hI2 ?_
    refine e_then ?_
    refine c_seq ?_
    refine c_quiet ?_
    refine ql_s (.slice a1 x1.length cp1) (by kernel_rfl) ?_
    refine ql_s (.slice a1 x1.length cp1) (by kernel_rfl) ?_
    refine ql_nil ?_
    refine e_perm (fr1_perm 1 _) ?_
    refine e_drop ?_
    refine e_then ?_
    refine c_ret ?_
    obtain rfl := Option.some.inj hp
    exact post_all (vs := [.slice a1 x1.length cp1]) (.slice a1 x1.length cp1) ⟨rfl, trivial⟩ rfl (.inl rfl) (fun w hS => ⟨D1, a1, cp1, hD2, rfl, hS⟩)

-- tarnfell/tarnref2.BedOf$1
set_option maxRecDepth 100000 in
set_option maxHeartbeats 4000000 in
theorem tarnref2_BedOf_1_s (i0 : Int) (by0 : Int) (long0 : Nat) (b_p0 : Nat) (p0 : Nat) (b_p00 : Nat) (p00 : Int) (b_p000 : Nat) (p000 : List Nat) (p000_a : Option Addr) (p000_c : Nat) (D : PH)  (F : List Assert) (r : (List Nat)) (hp : tarnref2_BedOf_1_p i0 by0 long0 p0 p00 p000 = some r) : ∀ w : World, SInv D (pt b_p0 [.float .f32 p0] 40 :: pt b_p00 [.int .i64 p00] 3 :: pt b_p000 [.slice p000_a p000.length p000_c] 24 :: OwnS D (encF .f32) 40 (.slice p000_a p000.length p000_c) p000 :: F) w → Calls Try.prog 58 #[.int .i64 i0, .int .i64 by0, .float .f32 long0, .pointer (some ⟨b_p0, 0, none⟩), .pointer (some ⟨b_p00, 0, none⟩), .pointer (some ⟨b_p000, 0, none⟩)] w (fun e w' => ∃ (D1 : PH) , PH.le D D1 ∧ e = .returned (.tuple #[]) ∧ SInv D1 (pt b_p0 [.float .f32 p0] 40 :: pt b_p00 [.int .i64 p00] 3 :: pt b_p000 [.slice p000_a p000.length p000_c] 24 :: OwnS D1 (encF .f32) 40 (.slice p000_a p000.length p000_c) r :: F) w') := by
  intro w hS
  refine call_intro Try.func58 rfl Try.ntmps58 (Nat.le_of_ble_eq_true rfl) hS ?_
  clear hS w
  unfold tarnref2_BedOf_1_p at hp
  refine c_seq ?_
  obtain ⟨r1, hr1, hp⟩ := bnd_some hp
  refine c_quiet ?_
  refine ql_q rfl (qs_ldpt encV fitv40 rfl 0 rfl (.float .f32 p0) (Nat.le_of_ble_eq_true rfl) rfl) ?_
  refine ql_s (.float .f32 long0) (by kernel_rfl) ?_
  refine ql_q rfl (qs_fop hr1 rfl rfl) ?_
  refine ql_s (.float .f32 r1) (by kernel_rfl) ?_
  refine ql_nil ?_
  refine e_then ?_
  refine c_seq ?_
  refine c_seq ?_
  refine c_perm (fr1_perm 3 _) ?_
  refine c_adr (fun b1 hb1 hl1 hbd1 hcap1 => ?_)
  obtain ⟨c1, hc1, hp⟩ := bnd_some hp
  refine c_cutq_end [(0, .int .i64 i0), (1, .int .i64 by0), (4, .pointer (some ⟨b_p00, 0, none⟩)), (5, .pointer (some ⟨b_p000, 0, none⟩)), (9, .float .f32 r1), (27, .bool c1)] ?_ ?_
  · skip
    refine c_quiet_draw hmix (by kernel_rfl) ?_
    refine ql_q rfl (qs_ldpt encV fitv3 rfl 2 rfl (.int .i64 p00) (Nat.le_of_ble_eq_true rfl) rfl) ?_
    refine ql_s (.bool (p00 == 1)) (by kernel_rfl) ?_
    refine ql_s (.bool (p00 == 1)) (by kernel_rfl) ?_
    refine ql_case 15 ((p00 == 1)) rfl (fun hg1 => ?_) (fun hg1 => ?_)
    · skip
      replace hc1 := if_t hg1 hc1
      refine ql_q rfl (qs_ldpt encV fitv24 rfl 3 rfl (.slice p000_a p000.length p000_c) (Nat.le_of_ble_eq_true rfl) rfl) ?_
      refine ql_s (.int .i64 by0) (by kernel_rfl) ?_
      obtain ⟨x1, hx1, hc1⟩ := bnd_some hc1
      refine ql_q rfl (qs_idx (IsIdx.beg (e := encF .f32) hb1 rfl hx1) Try.underlying24 fit40 rfl rfl) ?_
      obtain ⟨x2, hx2, hc1⟩ := bnd_some hc1
      refine ql_q rfl (qs_ldS fit40 hb1 rfl rfl 0 rfl (idx_some hx2).2.2 (v := .float .f32 x2) valF) ?_
      refine ql_s (.float .f32 r1) (by kernel_rfl) ?_
      obtain ⟨r2, hr2, hc1⟩ := bnd_some hc1
      refine ql_q rfl (qs_fop hr2 rfl rfl) ?_
      refine ql_q rfl (qs_ldpt encV fitv24 rfl 3 rfl (.slice p000_a p000.length p000_c) (Nat.le_of_ble_eq_true rfl) rfl) ?_
      refine ql_s (.int .i64 i0) (by kernel_rfl) ?_
      obtain ⟨x3, hx3, hc1⟩ := bnd_some hc1
      refine ql_q rfl (qs_idx (IsIdx.beg (e := encF .f32) hb1 rfl hx3) Try.underlying24 fit40 rfl rfl) ?_
      obtain ⟨x4, hx4, hc1⟩ := bnd_some hc1
      refine ql_q rfl (qs_ldS fit40 hb1 rfl rfl 0 rfl (idx_some hx4).2.2 (v := .float .f32 x4) valF) ?_
      refine ql_s (.bool (fgt .f32 r2 x4)) (by kernel_rfl) ?_
      refine ql_s (.bool (fgt .f32 r2 x4)) (by kernel_rfl) ?_
      refine ql_nil (e_cutq ?_)
      obtain rfl := Option.some.inj hc1
      exact ⟨rfl, rfl, rfl, rfl, rfl, rfl, trivial⟩
    · skip
      replace hc1 := if_f hg1 hc1
      refine ql_s undef (by kernel_rfl) ?_
      refine ql_s undef (by kernel_rfl) ?_
      refine ql_s undef (by kernel_rfl) ?_
      refine ql_s undef (by kernel_rfl) ?_
      refine ql_s undef (by kernel_rfl) ?_
      refine ql_s undef (by kernel_rfl) ?_
      refine ql_s undef (by kernel_rfl) ?_
      refine ql_s undef (by kernel_rfl) ?_
      refine ql_s undef (by kernel_rfl) ?_
      refine ql_s undef (by kernel_rfl) ?_
      refine ql_s undef (by kernel_rfl) ?_
      refine ql_s (.bool false) (by kernel_rfl) ?_
      refine ql_nil (e_cutq ?_)
      obtain rfl := Option.some.inj hc1
      exact ⟨rfl, rfl, rfl, rfl, rfl, rfl, trivial⟩
  intro _
  refine e_then ?_
  obtain ⟨s1, hs1, hp⟩ := bnd_some hp
  refine c_cut_end (fun φ1 D1 As1 => Is φ1 [(0, .int .i64 i0), (1, .int .i64 by0), (4, .pointer (some ⟨b_p00, 0, none⟩)), (5, .pointer (some ⟨b_p000, 0, none⟩)), (9, .float .f32 r1)] ∧ PH.le D D1 ∧ As1 = OwnS D1 (encF .f32) 40 (.slice p000_a p000.length p000_c) s1 :: pt b_p0 [.float .f32 p0] 40 :: pt b_p00 [.int .i64 p00] 3 :: pt b_p000 [.slice p000_a p000.length p000_c] 24 :: F) ?_ ?_
  · skip
    refine c_cond (c1) rfl (fun ht1 => ?_) (fun ht1 => ?_)
    · skip
      replace hs1 := if_t ht1 hs1
      obtain ⟨x5, hx5, hs1⟩ := bnd_some hs1
      obtain ⟨r3, hr3, hs1⟩ := bnd_some hs1
      obtain ⟨x6, hx6, hs1⟩ := bnd_some hs1
      obtain ⟨l1, hl2, hs1⟩ := bnd_some hs1
      replace hl2 := Option.some.inj hl2
      refine c_perm (fr1_perm 3 _) ?_
      refine c_perm (fr1_perm 3 _) ?_
      refine c_perm (fr1_perm 3 _) ?_
      refine c_order (B := [pt b_p0 [.float .f32 p0] 40, pt b_p00 [.int .i64 p00] 3, pt b_p000 [.slice p000_a p000.length p000_c] 24]) (.q 0 (.q 1 (.q 2 (.q 3 (.q 4 (.q 6 (.e 5 (.q 7 (.q 8 (.e 9 .nil)))))))))) hmix (by kernel_rfl) (NoPanic.then (NoPanic.then NoPanic.post)) ?_
      refine o_qs rfl rfl (qs_ldpt encV fitv24 rfl 2 rfl (.slice p000_a p000.length p000_c) (Nat.le_of_ble_eq_true rfl) rfl) ?_
      refine o_s (.int .i64 i0) rfl (by kernel_rfl) ?_
      refine o_qs rfl rfl (qs_ldpt encV fitv24 rfl 2 rfl (.slice p000_a p000.length p000_c) (Nat.le_of_ble_eq_true rfl) rfl) ?_
      refine o_s (.int .i64 by0) rfl (by kernel_rfl) ?_
      refine o_qs rfl rfl (qs_idx (IsIdx.beg (e := encF .f32) hb1 rfl hx5) Try.underlying24 fit40 rfl rfl) ?_
      refine o_s (.float .f32 r1) rfl (by kernel_rfl) ?_
      refine o_qe rfl rfl (PH.le_refl _) (qs_ldS fit40 hb1 rfl rfl 3 rfl (idx_some hx5).2.2 (v := .float .f32 x5) valF) ?_
      refine o_qs rfl rfl (qs_fop hr3 rfl rfl) ?_
      refine o_qs rfl rfl (qs_idx (IsIdx.beg (e := encF .f32) hb1 rfl hx6) Try.underlying24 fit40 rfl rfl) ?_
      refine o_stS (vs := [.float .f32 r3]) hb1 rfl hl2 rfl rfl (PH.le_refl _) fit40 rfl rfl rfl rfl (idx_some hx6).2.1 ?_
      refine o_nil ?_
      refine e_perm (fr1_perm 2 _) ?_
      refine e_perm (fr1_perm 2 _) ?_
      refine e_perm (fr1_perm 2 _) ?_
      refine e_perm (fr1_perm 3 _) ?_
      obtain rfl := Option.some.inj hs1
      exact e_cut ⟨⟨rfl, rfl, rfl, rfl, rfl, trivial⟩, (PH.le_refl _), rfl⟩
    · skip
      replace hs1 := if_f ht1 hs1
      refine c_skip ?_
      refine e_perm (fr1_perm 3 _) ?_
      refine e_perm (fr1_perm 3 _) ?_
      refine e_perm (fr1_perm 3 _) ?_
      refine e_perm (fr1_perm 3 _) ?_
      obtain rfl := Option.some.inj hs1
      exact e_cut ⟨⟨rfl, rfl, rfl, rfl, rfl, trivial⟩, (PH.le_refl _), rfl⟩
  · skip
    rintro φ1 D1 As1 ⟨hI1, hD1, hA1⟩
    subst As1
    refine e_frame _ hI1 ?_
    refine e_then ?_
    refine c_seq ?_
    refine c_adr (fun b2 hb2 hl3 hbd2 hcap2 => ?_)
    obtain ⟨c2, hc2, hp⟩ := bnd_some hp
    refine c_cutq_end [(0, .int .i64 i0), (1, .int .i64 by0), (5, .pointer (some ⟨b_p000, 0, none⟩)), (9, .float .f32 r1), (51, .bool c2)] ?_ ?_
    · skip
      refine c_quiet_draw hmix (by kernel_rfl) ?_
      refine ql_q rfl (qs_ldpt encV fitv3 rfl 2 rfl (.int .i64 p00) (Nat.le_of_ble_eq_true rfl) rfl) ?_
      refine ql_s (.bool (p00 == 2)) (by kernel_rfl) ?_
      refine ql_s (.bool (p00 == 2)) (by kernel_rfl) ?_
      refine ql_case 39 ((p00 == 2)) rfl (fun hg2 => ?_) (fun hg2 => ?_)
      · skip
        replace hc2 := if_t hg2 hc2
        refine ql_q rfl (qs_ldpt encV fitv24 rfl 3 rfl (.slice p000_a p000.length p000_c) (Nat.le_of_ble_eq_true rfl) rfl) ?_
        refine ql_s (.int .i64 by0) (by kernel_rfl) ?_
        obtain ⟨x7, hx7, hc2⟩ := bnd_some hc2
        refine ql_q rfl (qs_idx (IsIdx.beg (e := encF .f32) hb2 hl3 hx7) Try.underlying24 fit40 rfl rfl) ?_
        obtain ⟨x8, hx8, hc2⟩ := bnd_some hc2
        refine ql_q rfl (qs_ldS fit40 hb2 rfl rfl 0 rfl (idx_some hx8).2.2 (v := .float .f32 x8) valF) ?_
        refine ql_s (.float .f32 r1) (by kernel_rfl) ?_
        obtain ⟨r4, hr4, hc2⟩ := bnd_some hc2
        refine ql_q rfl (qs_fop hr4 rfl rfl) ?_
        refine ql_q rfl (qs_ldpt encV fitv24 rfl 3 rfl (.slice p000_a p000.length p000_c) (Nat.le_of_ble_eq_true rfl) rfl) ?_
        refine ql_s (.int .i64 i0) (by kernel_rfl) ?_
        obtain ⟨x9, hx9, hc2⟩ := bnd_some hc2
        refine ql_q rfl (qs_idx (IsIdx.beg (e := encF .f32) hb2 hl3 hx9) Try.underlying24 fit40 rfl rfl) ?_
        obtain ⟨x10, hx10, hc2⟩ := bnd_some hc2
        refine ql_q rfl (qs_ldS fit40 hb2 rfl rfl 0 rfl (idx_some hx10).2.2 (v := .float .f32 x10) valF) ?_
        refine ql_s (.bool (flt .f32 r4 x10)) (by kernel_rfl) ?_
        refine ql_s (.bool (flt .f32 r4 x10)) (by kernel_rfl) ?_
        refine ql_nil (e_cutq ?_)
        obtain rfl := Option.some.inj hc2
        exact ⟨rfl, rfl, rfl, rfl, rfl, trivial⟩
      · skip
        replace hc2 := if_f hg2 hc2
        refine ql_s undef (by kernel_rfl) ?_
        refine ql_s undef (by kernel_rfl) ?_
        refine ql_s undef (by kernel_rfl) ?_
        refine ql_s undef (by kernel_rfl) ?_
        refine ql_s undef (by kernel_rfl) ?_
        refine ql_s undef (by kernel_rfl) ?_
        refine ql_s undef (by kernel_rfl) ?_
        refine ql_s undef (by kernel_rfl) ?_
        refine ql_s undef (by kernel_rfl) ?_
        refine ql_s undef (by kernel_rfl) ?_
        refine ql_s undef (by kernel_rfl) ?_
        refine ql_s (.bool false) (by kernel_rfl) ?_
        refine ql_nil (e_cutq ?_)
        obtain rfl := Option.some.inj hc2
        exact ⟨rfl, rfl, rfl, rfl, rfl, trivial⟩
    intro _
    refine e_then ?_
    refine c_cond (c2) rfl (fun ht2 => ?_) (fun ht2 => ?_)
    · skip
      replace hp := if_t ht2 hp
      obtain ⟨x11, hx11, hp⟩ := bnd_some hp
      obtain ⟨r5, hr5, hp⟩ := bnd_some hp
      obtain ⟨x12, hx12, hp⟩ := bnd_some hp
      obtain ⟨l2, hl4, hp⟩ := bnd_some hp
      replace hl4 := Option.some.inj hl4
      refine c_perm (fr1_perm 3 _) ?_
      refine c_perm (fr1_perm 3 _) ?_
      refine c_perm (fr1_perm 3 _) ?_
      refine c_order (B := [pt b_p0 [.float .f32 p0] 40, pt b_p00 [.int .i64 p00] 3, pt b_p000 [.slice p000_a p000.length p000_c] 24]) (.q 0 (.q 1 (.q 2 (.q 3 (.q 4 (.q 6 (.e 5 (.q 7 (.q 8 (.e 9 .nil)))))))))) hmix (by kernel_rfl) NoPanic.post ?_
      refine o_qs rfl rfl (qs_ldpt encV fitv24 rfl 2 rfl (.slice p000_a p000.length p000_c) (Nat.le_of_ble_eq_true rfl) rfl) ?_
      refine o_s (.int .i64 i0) rfl (by kernel_rfl) ?_
      refine o_qs rfl rfl (qs_ldpt encV fitv24 rfl 2 rfl (.slice p000_a p000.length p000_c) (Nat.le_of_ble_eq_true rfl) rfl) ?_
      refine o_s (.int .i64 by0) rfl (by kernel_rfl) ?_
      refine o_qs rfl rfl (qs_idx (IsIdx.beg (e := encF .f32) hb2 hl3 hx11) Try.underlying24 fit40 rfl rfl) ?_
      refine o_s (.float .f32 r1) rfl (by kernel_rfl) ?_
      refine o_qe rfl rfl (PH.le_refl _) (qs_ldS fit40 hb2 rfl rfl 3 rfl (idx_some hx11).2.2 (v := .float .f32 x11) valF) ?_
      refine o_qs rfl rfl (qs_fop hr5 rfl rfl) ?_
      refine o_qs rfl rfl (qs_idx (IsIdx.beg (e := encF .f32) hb2 hl3 hx12) Try.underlying24 fit40 rfl rfl) ?_
      refine o_stS (vs := [.float .f32 r5]) hb2 hl3 hl4 rfl rfl (PH.le_refl _) fit40 rfl rfl rfl rfl (idx_some hx12).2.1 ?_
      refine o_nil ?_
      obtain rfl := Option.some.inj hp
      refine e_perm (fr1_perm 3 _) ?_
      refine e_perm (fr1_perm 3 _) ?_
      refine e_perm (fr1_perm 3 _) ?_
      refine e_perm (fr1_perm 3 _) ?_
      exact post_all (vs := []) (.tuple #[]) trivial rfl (.inr rfl) (fun w hS => ⟨D1, hD1, rfl, hS⟩)
    · skip
      replace hp := if_f ht2 hp
      refine c_skip ?_
      obtain rfl := Option.some.inj hp
      refine e_perm (fr1_perm 3 _) ?_
      refine e_perm (fr1_perm 3 _) ?_
      refine e_perm (fr1_perm 3 _) ?_
      exact post_all (vs := []) (.tuple #[]) trivial rfl (.inr rfl) (fun w hS => ⟨D1, hD1, rfl, hS⟩)

-- tarnfell/tarnref2.BedOf
set_option maxRecDepth 100000 in
set_option maxHeartbeats 4000000 in
theorem tarnref2_BedOf_v1_s (f0 : S_api_Field) (f0_v1a : Option Addr) (f0_v1c : Nat) (way0 : List S_api_Point) (way0_v1a : Option Addr) (way0_v1c : Nat) (how0 : Int) (grade0 : Nat) (D : PH) (f0_h1 : RO (encF .f32) D (.slice f0_v1a f0.V.length f0_v1c) f0.V) (way0_h1 : RO encS_api_Point D (.slice way0_v1a way0.length way0_v1c) way0) (F : List Assert) (r : (List Nat)) (hp : tarnref2_BedOf_v1_p f0 way0 how0 grade0 = some r) : ∀ w : World, SInv D (F) w → Calls Try.prog 24 #[.agg #[.int .i64 f0.Region.X, .int .i64 f0.Region.Y, .int .i64 f0.Region.W, .int .i64 f0.Region.H, .slice f0_v1a f0.V.length f0_v1c], .slice way0_v1a way0.length way0_v1c, .int .i64 how0, .float .f32 grade0] w (fun e w' => ∃ (D1 : PH) (q_a1 : Option Addr) (q_cp1 : Nat), PH.le D D1 ∧ e = .returned (.slice q_a1 r.length q_cp1) ∧ SInv D1 (OwnS D1 (encF .f32) 40 (.slice q_a1 r.length q_cp1) r :: F) w') := by
  intro w hS
  refine call_intro Try.func24 rfl Try.ntmps24 (Nat.le_of_ble_eq_true rfl) hS ?_
  clear hS w
  unfold tarnref2_BedOf_v1_p at hp
  refine c_seq ?_
  refine c_region ?_
  refine l_box (cs := [.int .i64 f0.Region.X, .int .i64 f0.Region.Y, .int .i64 f0.Region.W, .int .i64 f0.Region.H, .slice f0_v1a f0.V.length f0_v1c]) rfl rfl (fun b4 => ?_)
  refine l_box (cs := [.int .i64 how0]) rfl rfl (fun b5 => ?_)
  refine l_box (cs := [.float .f32 grade0]) rfl rfl (fun b6 => ?_)
  refine l_s (.slice none 0 0) (by kernel_rfl) ?_
  refine l_nilS D (encF .f32) 40 ?_
  refine l_nil ?_
  refine e_drop ?_
  refine e_then ?_
  refine c_seq ?_
  obtain ⟨r1, hr1, hp⟩ := bnd_some hp
  refine c_region ?_
  refine l_s (.slice way0_v1a way0.length way0_v1c) (by kernel_rfl) ?_
  refine l_call rfl rfl Try.call21 (vs := [.slice way0_v1a way0.length way0_v1c]) rfl (fun v D2 As2 => ∃ (a2 : Option Addr) (cp2 : Nat), PH.le D D2 ∧ v = .slice a2 r1.length cp2 ∧ RO (encF .f32) D2 (.slice a2 r1.length cp2) r1 ∧ As2 = pt b6 [.float .f32 grade0] 40 :: pt b5 [.int .i64 how0] 3 :: pt b4 [.int .i64 f0.Region.X, .int .i64 f0.Region.Y, .int .i64 f0.Region.W, .int .i64 f0.Region.H, .slice f0_v1a f0.V.length f0_v1c] 26 :: F) (fun w hS => (tarnref2_Lengths_s way0 way0_v1a way0_v1c _ way0_h1 _ _ hr1 w (hS)).mono fun e w' ⟨D2, a2, cp2, hle2, he, h2, hS2⟩ => ⟨_, D2, _, he, ⟨a2, cp2, hle2, rfl, h2, rfl⟩, hS2⟩) ?_
  rintro _ D2 As2 ⟨a2, cp2, hle2, rfl, h2, hA2⟩
  subst As2
  replace way0_h1 := way0_h1.mono hle2
  replace f0_h1 := f0_h1.mono hle2
  refine l_s (.slice a2 r1.length cp2) (by kernel_rfl) ?_
  refine l_nil ?_
  refine e_then ?_
  refine c_seq ?_
  refine c_seq ?_
  refine c_quiet ?_
  refine ql_q rfl (qs_ldpt encV fitv3 rfl 1 rfl (.int .i64 how0) (Nat.le_of_ble_eq_true rfl) rfl) ?_
  refine ql_s (.bool (how0 == 3)) (by kernel_rfl) ?_
  refine ql_nil ?_
  refine e_then ?_
  refine c_cond ((how0 == 3)) rfl (fun ht1 => ?_) (fun ht1 => ?_)
  · skip
    replace hp := if_t ht1 hp
    refine c_seq ?_
    obtain ⟨r2, hr2, hp⟩ := bnd_some hp
    obtain ⟨r3, hr3, hp⟩ := bnd_some hp
    refine c_perm (fr1_perm 2 _) ?_
    refine c_perm (fr1_perm 2 _) ?_
    refine c_perm (fr1_perm 2 _) ?_
    refine c_order (B := [pt b6 [.float .f32 grade0] 40, pt b5 [.int .i64 how0] 3, pt b4 [.int .i64 f0.Region.X, .int .i64 f0.Region.Y, .int .i64 f0.Region.W, .int .i64 f0.Region.H, .slice f0_v1a f0.V.length f0_v1c] 26]) (.q 0 (.q 1 (.q 2 (.q 4 (.q 5 (.q 6 (.e 3 (.e 7 (.q 8 (.q 9 .nil)))))))))) hmix (by kernel_rfl) (NoPanic.then (NoPanic.then NoPanic.post)) ?_
    refine o_qs rfl rfl (qs_ldpt (encW 5 (by decide)) fitv26 rfl 2 rfl (.agg #[.int .i64 f0.Region.X, .int .i64 f0.Region.Y, .int .i64 f0.Region.W, .int .i64 f0.Region.H, .slice f0_v1a f0.V.length f0_v1c]) (Nat.le_of_ble_eq_true rfl) rfl) ?_
    refine o_s (.slice way0_v1a way0.length way0_v1c) rfl (by kernel_rfl) ?_
    refine o_qs rfl rfl (qs_ldpt encV fitv40 rfl 0 rfl (.float .f32 grade0) (Nat.le_of_ble_eq_true rfl) rfl) ?_
    refine o_qs rfl rfl (qs_ldpt (encW 5 (by decide)) fitv26 rfl 2 rfl (.agg #[.int .i64 f0.Region.X, .int .i64 f0.Region.Y, .int .i64 f0.Region.W, .int .i64 f0.Region.H, .slice f0_v1a f0.V.length f0_v1c]) (Nat.le_of_ble_eq_true rfl) rfl) ?_
    refine o_s (.slice way0_v1a way0.length way0_v1c) rfl (by kernel_rfl) ?_
    refine o_qs rfl rfl (qs_ldpt encV fitv40 rfl 0 rfl (.float .f32 grade0) (Nat.le_of_ble_eq_true rfl) rfl) ?_
    refine o_calle rfl rfl rfl Try.call24 (vs := [.agg #[.int .i64 f0.Region.X, .int .i64 f0.Region.Y, .int .i64 f0.Region.W, .int .i64 f0.Region.H, .slice f0_v1a f0.V.length f0_v1c], .slice way0_v1a way0.length way0_v1c, .int .i64 2, .float .f32 grade0]) rfl (fun v D5 As5 => ∃ (a5 : Option Addr) (cp5 : Nat), PH.le D2 D5 ∧ v = .slice a5 r2.length cp5 ∧ As5 = OwnS D5 (encF .f32) 40 (.slice a5 r2.length cp5) r2 :: F) (fun w hS => (tarnref2_BedOf_v2_s f0 f0_v1a f0_v1c way0 way0_v1a way0_v1c 2 grade0 _ f0_h1 way0_h1 _ _ hr2 w (hS)).mono fun e w' ⟨D5, a5, cp5, hle5, he, hS2⟩ => ⟨_, D5, _, he, ⟨a5, cp5, hle5, rfl, rfl⟩, (((hS2.perm (fr1_perm 0 _)).perm (fr1_perm 3 _)).perm (fr1_perm 3 _)).perm (fr1_perm 3 _)⟩) ?_
    rintro _ D5 As5 ⟨a5, cp5, hle5, rfl, hA5⟩
    subst As5
    refine ⟨PH.le_trans (PH.le_refl _) hle5, ?_⟩
    replace way0_h1 := way0_h1.mono hle5
    replace h2 := h2.mono hle5
    replace f0_h1 := f0_h1.mono hle5
    refine o_calle rfl rfl rfl Try.call24 (vs := [.agg #[.int .i64 f0.Region.X, .int .i64 f0.Region.Y, .int .i64 f0.Region.W, .int .i64 f0.Region.H, .slice f0_v1a f0.V.length f0_v1c], .slice way0_v1a way0.length way0_v1c, .int .i64 1, .float .f32 grade0]) rfl (fun v D6 As6 => ∃ (a6 : Option Addr) (cp6 : Nat), PH.le D5 D6 ∧ v = .slice a6 r3.length cp6 ∧ RO (encF .f32) D6 (.slice a6 r3.length cp6) r3 ∧ As6 = OwnS D5 (encF .f32) 40 (.slice a5 r2.length cp5) r2 :: F) (fun w hS => (tarnref2_BedOf_v3_s f0 f0_v1a f0_v1c way0 way0_v1a way0_v1c 1 grade0 _ f0_h1 way0_h1 _ _ hr3 w (hS)).mono fun e w' ⟨D6, a6, cp6, hle6, he, h6, hS2⟩ => ⟨_, D6, _, he, ⟨a6, cp6, hle6, rfl, h6, rfl⟩, hS2⟩) ?_
    rintro _ D6 As6 ⟨a6, cp6, hle6, rfl, h6, hA6⟩
    subst As6
    refine ⟨PH.le_trans hle5 hle6, ?_⟩
    replace way0_h1 := way0_h1.mono hle6
    replace h2 := h2.mono hle6
    replace f0_h1 := f0_h1.mono hle6
    refine o_s (.slice a5 r2.length cp5) rfl (by kernel_rfl) ?_
    refine o_s (.slice a6 r3.length cp6) rfl (by kernel_rfl) ?_
    refine o_nil ?_
    refine e_drop ?_
    refine e_drop ?_
    refine e_drop ?_
    refine e_then ?_
    refine c_seq ?_
    refine c_seq ?_
    refine c_quiet ?_
    refine ql_s (.slice a5 r2.length cp5) (by kernel_rfl) ?_
    refine ql_s (.int .i64 (r2.length : Int)) (by kernel_rfl) ?_
    refine ql_s (.int .i64 0) (by kernel_rfl) ?_
    refine ql_nil ?_
    refine e_then ?_
    refine c_adr (fun b7 hb1 hl1 hbd1 hcap1 => ?_)
    have hb0 : (r2.length : Int) ≤ 4611686018427387904 := by have h1 := (rfl : r2.length = r2.length); have h2 := hbd1; omega
    have hm0 : r2.length = (r2.length : Int).toNat := (Int.toNat_natCast _).symm
    have hm1 := hm0; have hb2 := hb0; clear hm0 hb0
    obtain ⟨x1, hs1, hp⟩ := bnd_some hp
    obtain ⟨body1, hbody1, hs1⟩ := forS_gen hs1
    refine c_cut_end (fun φ1 D7 As1 => Is φ1 [(10, .slice a5 r2.length cp5)] ∧ PH.le D6 D7 ∧ As1 = OwnS D7 (encF .f32) 40 (.slice a5 r2.length cp5) x1 :: F) ?_ ?_
    · skip
      refine c_block ?_
      refine c_imp (OwnS.mono hle6) ?_
      refine c_loop (fun k φ1 D8 As1 => ∃ (j1 i1 : Nat) (s1 : (List Nat)), k = j1 + 1 ∧ i1 + j1 = r2.length ∧ Is φ1 [(10, .slice a5 r2.length cp5), (11, .slice a6 r3.length cp6), (30, .int .i64 (r2.length : Int)), (31, .int .i64 (i1 : Int))] ∧ PH.le D6 D8 ∧ As1 = OwnS D8 (encF .f32) 40 (.slice a5 r2.length cp5) s1 :: F ∧ forS body1 j1 i1 s1 = some x1) ⟨r2.length + 1, r2.length, 0, r2, rfl, Nat.zero_add _, ⟨rfl, rfl, rfl, rfl, trivial⟩, (PH.le_refl _), rfl, hs1⟩ ?_ ?_
      · rintro _ _ _ ⟨_, _, _, h0, _⟩; omega
      intro k1
      rintro φ1 D8 As7 ⟨j1, i1, s1, hk1, hij1, hI1, hD1, hA7, hs2⟩
      subst As7
      replace h6 := h6.mono hD1
      replace f0_h1 := f0_h1.mono hD1
      refine c_frame _ hI1 ?_
      obtain rfl : k1 = j1 := by omega
      clear hk1
      rcases k1 with _ | j1
      · skip
        refine c_seq ?_
        refine c_quiet ?_
        refine ql_s (.bool (decide ((i1 : Int) < (r2.length : Int)))) (by kernel_rfl) ?_
        refine ql_nil ?_
        refine e_then ?_
        refine c_seq ?_
        refine c_cond (decide ((i1 : Int) < (r2.length : Int))) rfl (fun ht2 => absurd ((dec_lt_f hm1 (by omega)).symm.trans ht2) (by simp)) (fun _ => ?_)
        refine c_exit ?_
        refine e_then_exit ?_
        refine e_then_exit ?_
        obtain rfl := Option.some.inj hs2
        refine e_blk_exit ?_
        exact e_cut ⟨⟨rfl, trivial⟩, hD1, rfl⟩
      · skip
        obtain ⟨y1, hx1, hs2⟩ := forS_some hs2
        replace hx1 := (congrFun (congrFun hbody1 i1) s1).trans hx1
        refine c_seq ?_
        refine c_quiet ?_
        refine ql_s (.bool (decide ((i1 : Int) < (r2.length : Int)))) (by kernel_rfl) ?_
        refine ql_nil ?_
        refine e_then ?_
        refine c_seq ?_
        refine c_cond (decide ((i1 : Int) < (r2.length : Int))) rfl (fun _ => ?_) (fun ht3 => absurd ((dec_lt_t hm1 (by omega)).symm.trans ht3) (by simp))
        refine c_skip ?_
        refine e_then ?_
        refine c_seq ?_
        refine c_block ?_
        refine c_seq ?_
        refine c_quiet ?_
        refine ql_s (.int .i64 (i1 : Int)) (by kernel_rfl) ?_
        refine ql_s (.int .i64 (i1 : Int)) (by kernel_rfl) ?_
        refine ql_nil ?_
        refine e_then ?_
        obtain ⟨x2, hx2, hx1⟩ := bnd_some hx1
        obtain ⟨x3, hx3, hx1⟩ := bnd_some hx1
        obtain ⟨b8, o1, h7, hq1⟩ := RO.at h6 hx3
        obtain ⟨r4, hr4, hx1⟩ := bnd_some hx1
        obtain ⟨r5, hr5, hx1⟩ := bnd_some hx1
        obtain ⟨l1, hl2, hx1⟩ := bnd_some hx1
        replace hl2 := Option.some.inj hl2
        refine c_adr (fun b9 hb3 hl3 hbd2 hcap2 => ?_)
        refine c_order (B := []) (.q 0 (.q 1 (.q 2 (.q 3 (.q 4 (.q 6 (.q 7 (.q 8 (.q 9 (.e 5 (.q 10 (.q 11 (.q 12 (.e 13 .nil)))))))))))))) hmix (by kernel_rfl) (NoPanic.blk (NoPanic.then (NoPanic.then (NoPanic.blk (NoPanic.then (NoPanic.then (NoPanic.then NoPanic.post))))))) ?_
        refine o_s (.slice a5 r2.length cp5) rfl (by kernel_rfl) ?_
        refine o_s (.int .i64 (i1 : Int)) rfl (by kernel_rfl) ?_
        refine o_s (.slice a5 r2.length cp5) rfl (by kernel_rfl) ?_
        refine o_s (.int .i64 (i1 : Int)) rfl (by kernel_rfl) ?_
        refine o_qs rfl rfl (qs_idx (IsIdx.beg (e := encF .f32) hb3 hl3 hx2) Try.underlying24 fit40 rfl rfl) ?_
        refine o_s (.slice a6 r3.length cp6) rfl (by kernel_rfl) ?_
        refine o_s (.int .i64 (i1 : Int)) rfl (by kernel_rfl) ?_
        refine o_qs rfl rfl (qs_idx hq1 Try.underlying24 fit40 rfl rfl) ?_
        refine o_qs rfl rfl (qs_ldAtV fit40 rfl h7 valF) ?_
        refine o_qe rfl rfl (PH.le_refl _) (qs_ldS fit40 hb3 rfl rfl 0 rfl (idx_some hx2).2.2 (v := .float .f32 x2) valF) ?_
        refine o_qs rfl rfl (qs_fop hr4 rfl rfl) ?_
        refine o_qs rfl rfl (qs_fop hr5 rfl rfl) ?_
        refine o_qs rfl rfl (qs_idx (IsIdx.beg (e := encF .f32) hb3 hl3 hx2) Try.underlying24 fit40 rfl rfl) ?_
        refine o_stS (vs := [.float .f32 r5]) hb3 hl3 hl2 rfl rfl (PH.le_refl _) fit40 rfl rfl rfl rfl (idx_some hx2).2.1 ?_
        refine o_nil ?_
        refine e_blk ?_
        refine e_then ?_
        refine c_quiet ?_
        refine ql_s (.int .i64 (addI (i1 : Int) 1)) (by kernel_rfl) ?_
        refine ql_s (.int .i64 (addI (i1 : Int) 1)) (by kernel_rfl) ?_
        refine ql_nil ?_
        obtain rfl := Option.some.inj hx1
        exact e_cut ⟨j1, i1 + 1, l1, by omega, by omega, ⟨rfl, rfl, rfl, (congrArg (Value.int .i64) (addI_succ (by omega))), trivial⟩, hD1, rfl, hs2⟩
    · skip
      rintro φ2 D7 As8 ⟨hI2, hD2, hA8⟩
      subst As8
      replace f0_h1 := f0_h1.mono hD2
      refine e_frame _ hI2 ?_
      refine e_then ?_
      refine c_seq ?_
      refine c_quiet ?_
      refine ql_s (.slice a5 r2.length cp5) (by kernel_rfl) ?_
      refine ql_s (.slice a5 r2.length cp5) (by kernel_rfl) ?_
      refine ql_nil ?_
      refine e_then ?_
      refine c_ret ?_
      refine e_then_ret ?_
      obtain rfl := Option.some.inj hp
      refine e_adr (fun b10 hb4 hl4 hbd3 hcap3 => ?_)
      exact post_all (vs := [.slice a5 r2.length cp5]) (.slice a5 r2.length cp5) ⟨rfl, trivial⟩ rfl (.inl rfl) (fun w hS => ⟨D7, a5, cp5, (PH.le_trans (PH.le_trans (PH.le_trans hle2 hle5) hle6) hD2), (by simp only [hl4]), (by have h2 : SInv D7 (OwnS D7 (encF .f32) 40 (.slice a5 r2.length cp5) x1 :: F) w := hS; simpa only [hl4] using h2)⟩)
  · skip
    replace hp := if_f ht1 hp
    refine c_skip ?_
    refine e_then ?_
    refine c_seq ?_
    obtain ⟨r6, hr6, hp⟩ := bnd_some hp
    refine c_region ?_
    refine l_q rfl (qs_ldpt (encW 5 (by decide)) fitv26 rfl 2 rfl (.agg #[.int .i64 f0.Region.X, .int .i64 f0.Region.Y, .int .i64 f0.Region.W, .int .i64 f0.Region.H, .slice f0_v1a f0.V.length f0_v1c]) (Nat.le_of_ble_eq_true rfl) rfl) ?_
    refine l_s (.slice way0_v1a way0.length way0_v1c) (by kernel_rfl) ?_
    refine l_call rfl rfl Try.call20 (vs := [.agg #[.int .i64 f0.Region.X, .int .i64 f0.Region.Y, .int .i64 f0.Region.W, .int .i64 f0.Region.H, .slice f0_v1a f0.V.length f0_v1c], .slice way0_v1a way0.length way0_v1c]) rfl (fun v D10 As10 => ∃ (a8 : Option Addr) (cp8 : Nat), PH.le D2 D10 ∧ v = .slice a8 r6.length cp8 ∧ As10 = OwnS D10 (encF .f32) 40 (.slice a8 r6.length cp8) r6 :: pt b6 [.float .f32 grade0] 40 :: pt b5 [.int .i64 how0] 3 :: pt b4 [.int .i64 f0.Region.X, .int .i64 f0.Region.Y, .int .i64 f0.Region.W, .int .i64 f0.Region.H, .slice f0_v1a f0.V.length f0_v1c] 26 :: F) (fun w hS => (tarnref2_Values_v1_s f0 f0_v1a f0_v1c way0 way0_v1a way0_v1c _ f0_h1 way0_h1 _ _ hr6 w (hS)).mono fun e w' ⟨D10, a8, cp8, hle8, he, hS2⟩ => ⟨_, D10, _, he, ⟨a8, cp8, hle8, rfl, rfl⟩, hS2⟩) ?_
    rintro _ D10 As10 ⟨a8, cp8, hle8, rfl, hA10⟩
    subst As10
    replace way0_h1 := way0_h1.mono hle8
    replace h2 := h2.mono hle8
    replace f0_h1 := f0_h1.mono hle8
    refine l_alloc (zs := [.slice none 0 0]) rfl (by kernel_rfl) (fun b12 => ?_)
    refine l_nilS D10 (encF .f32) 40 ?_
    refine l_perm (fr1_perm 1 _) ?_
    refine l_store (dd := none) (vs := [.slice a8 r6.length cp8]) (cs' := [.slice a8 r6.length cp8]) rfl (by kernel_rfl) (by kernel_rfl) rfl rfl (Nat.le_of_ble_eq_true rfl) rfl rfl ?_
    refine l_nil ?_
    refine e_perm (fr1_perm 1 _) ?_
    refine e_drop ?_
    refine e_perm (fr1_perm 4 _) ?_
    refine e_drop ?_
    refine e_then ?_
    refine c_seq ?_
    refine c_quiet ?_
    refine ql_s (.func (.func 58) #[] #[.pointer (some ⟨b6, 0, none⟩), .pointer (some ⟨b5, 0, none⟩), .pointer (some ⟨b12, 0, none⟩)]) (by kernel_rfl) ?_
    refine ql_s (.func (.func 58) #[] #[.pointer (some ⟨b6, 0, none⟩), .pointer (some ⟨b5, 0, none⟩), .pointer (some ⟨b12, 0, none⟩)]) (by kernel_rfl) ?_
    refine ql_nil ?_
    refine e_then ?_
    refine c_seq ?_
    refine c_seq ?_
    refine c_quiet ?_
    refine ql_s (.int .i64 1) (by kernel_rfl) ?_
    refine ql_nil ?_
    refine e_then ?_
    obtain ⟨x4, hs3, hp⟩ := bnd_some hp
    obtain ⟨body2, hbody2, hs3⟩ := loopP_gen hs3
    refine c_cut_end (fun φ1 D11 As1 => Is φ1 [(9, .slice a2 r1.length cp2), (13, .pointer (some ⟨b12, 0, none⟩)), (14, .func (.func 58) #[] #[.pointer (some ⟨b6, 0, none⟩), .pointer (some ⟨b5, 0, none⟩), .pointer (some ⟨b12, 0, none⟩)])] ∧ PH.le D10 D11 ∧ As1 = pt b12 [.slice a8 r6.length cp8] 24 :: OwnS D11 (encF .f32) 40 (.slice a8 r6.length cp8) x4 :: pt b6 [.float .f32 grade0] 40 :: pt b5 [.int .i64 how0] 3 :: F) ?_ ?_
    · skip
      refine c_block ?_
      refine c_perm (fr1_perm 3 _) ?_
      refine c_perm (fr1_perm 3 _) ?_
      refine c_perm (fr1_perm 3 _) ?_
      refine c_perm (fr1_perm 3 _) ?_
      obtain ⟨kz1, hs3⟩ := loopP_ex hs3
      refine c_loop (fun k φ1 D12 As1 => ∃ (s2 : Int × (List Nat)), Is φ1 [(9, .slice a2 r1.length cp2), (13, .pointer (some ⟨b12, 0, none⟩)), (14, .func (.func 58) #[] #[.pointer (some ⟨b6, 0, none⟩), .pointer (some ⟨b5, 0, none⟩), .pointer (some ⟨b12, 0, none⟩)]), (15, .int .i64 s2.1)] ∧ PH.le D10 D12 ∧ As1 = pt b12 [.slice a8 r6.length cp8] 24 :: OwnS D12 (encF .f32) 40 (.slice a8 r6.length cp8) s2.2 :: pt b6 [.float .f32 grade0] 40 :: pt b5 [.int .i64 how0] 3 :: F ∧ iter body2 k s2 = some x4) ⟨kz1, (1, r6), ⟨rfl, rfl, rfl, rfl, trivial⟩, (PH.le_refl _), rfl, hs3⟩ ?_ ?_
      · rintro _ _ _ ⟨_, _, _, _, h0⟩; cases h0
      intro k2
      rintro φ3 D12 As11 ⟨s2, hI3, hD3, hA11, hs4⟩
      subst As11
      replace h2 := h2.mono hD3
      replace f0_h1 := f0_h1.mono hD3
      refine c_frame _ hI3 ?_
      obtain ⟨y2, hx4, hs4⟩ := iter_some hs4
      replace hx4 := (congrFun hbody2 s2).trans hx4
      refine c_seq ?_
      refine c_seq ?_
      refine c_quiet ?_
      refine ql_s (.int .i64 s2.1) (by kernel_rfl) ?_
      refine ql_q rfl (qs_ldpt encV fitv24 rfl 0 rfl (.slice a8 r6.length cp8) (Nat.le_of_ble_eq_true rfl) rfl) ?_
      refine ql_s (.int .i64 (r6.length : Int)) (by kernel_rfl) ?_
      refine ql_s (.bool (decide (s2.1 < (r6.length : Int)))) (by kernel_rfl) ?_
      refine ql_nil ?_
      refine e_then ?_
      refine c_cond (decide (s2.1 < (r6.length : Int))) rfl (fun ht4 => ?_) (fun ht4 => ?_)
      · skip
        replace hx4 := if_t ht4 hx4
        refine c_skip ?_
        refine e_then ?_
        refine c_seq ?_
        refine c_block ?_
        obtain ⟨x5, hx5, hx4⟩ := bnd_some hx4
        obtain ⟨b13, o2, h10, hq2⟩ := RO.at h2 hx5
        obtain ⟨r7, hr7, hx4⟩ := bnd_some hx4
        refine c_perm (fr1_perm 1 _) ?_
        refine c_adr (fun b14 hb5 hl5 hbd4 hcap4 => ?_)
        refine c_region ?_
        refine l_s (.func (.func 58) #[] #[.pointer (some ⟨b6, 0, none⟩), .pointer (some ⟨b5, 0, none⟩), .pointer (some ⟨b12, 0, none⟩)]) (by kernel_rfl) ?_
        refine l_s (.int .i64 s2.1) (by kernel_rfl) ?_
        refine l_s (.int .i64 s2.1) (by kernel_rfl) ?_
        refine l_s (.int .i64 (subI s2.1 1)) (by kernel_rfl) ?_
        refine l_s (.slice a2 r1.length cp2) (by kernel_rfl) ?_
        refine l_s (.int .i64 s2.1) (by kernel_rfl) ?_
        refine l_s (.int .i64 (subI s2.1 1)) (by kernel_rfl) ?_
        refine l_q rfl (qs_idx hq2 Try.underlying24 fit40 rfl rfl) ?_
        refine l_q rfl (qs_ldAtV fit40 rfl h10 valF) ?_
        refine l_call rfl rfl Try.call58 (vs := [.int .i64 s2.1, .int .i64 (subI s2.1 1), .float .f32 x5, .pointer (some ⟨b6, 0, none⟩), .pointer (some ⟨b5, 0, none⟩), .pointer (some ⟨b12, 0, none⟩)]) rfl (fun v D14 As13 => PH.le D12 D14 ∧ v = .tuple #[] ∧ As13 = pt b6 [.float .f32 grade0] 40 :: pt b5 [.int .i64 how0] 3 :: pt b12 [.slice a8 r6.length cp8] 24 :: OwnS D14 (encF .f32) 40 (.slice a8 r6.length cp8) r7 :: F) (fun w hS => (show Calls Try.prog 58 #[.int .i64 s2.1, .int .i64 (subI s2.1 1), .float .f32 x5, .pointer (some ⟨b6, 0, none⟩), .pointer (some ⟨b5, 0, none⟩), .pointer (some ⟨b12, 0, none⟩)] w (fun e w' => ∃ (D14 : PH) , PH.le D12 D14 ∧ e = .returned (.tuple #[]) ∧ SInv D14 (pt b6 [.float .f32 grade0] 40 :: pt b5 [.int .i64 how0] 3 :: pt b12 [.slice a8 r6.length cp8] 24 :: OwnS D14 (encF .f32) 40 (.slice a8 r6.length cp8) r7 :: F) w') from by have hq := tarnref2_BedOf_1_s s2.1 (subI s2.1 1) x5 b6 grade0 b5 how0 b12 s2.2 a8 cp8 _  _ _ hr7 w (show SInv D12 (pt b6 [.float .f32 grade0] 40 :: pt b5 [.int .i64 how0] 3 :: pt b12 [.slice a8 s2.2.length cp8] 24 :: OwnS D12 (encF .f32) 40 (.slice a8 s2.2.length cp8) s2.2 :: F) w from by have h2 : SInv D12 (pt b6 [.float .f32 grade0] 40 :: pt b5 [.int .i64 how0] 3 :: pt b12 [.slice a8 r6.length cp8] 24 :: OwnS D12 (encF .f32) 40 (.slice a8 r6.length cp8) s2.2 :: F) w := (((hS.perm (fr1_perm 0 _)).perm (fr1_perm 1 _)).perm (fr1_perm 3 _)).perm (fr1_perm 3 _); rw [← hl5] at h2; exact h2); (try simp only [hl5] at hq); exact hq).mono fun e w' ⟨D14, hle10, he, hS2⟩ => ⟨_, D14, _, he, ⟨hle10, rfl, rfl⟩, hS2⟩) ?_
        rintro _ D14 As13 ⟨hle10, rfl, hA13⟩
        subst As13
        replace h2 := h2.mono hle10
        replace h10 := h10.mono hle10
        replace f0_h1 := f0_h1.mono hle10
        refine l_nil ?_
        refine e_blk ?_
        refine e_then ?_
        refine c_quiet ?_
        refine ql_s (.int .i64 s2.1) (by kernel_rfl) ?_
        refine ql_s (.int .i64 (addI s2.1 1)) (by kernel_rfl) ?_
        refine ql_s (.int .i64 (addI s2.1 1)) (by kernel_rfl) ?_
        refine ql_nil ?_
        refine e_perm (fr1_perm 1 _) ?_
        refine e_perm (fr1_perm 1 _) ?_
        refine e_perm (fr1_perm 3 _) ?_
        refine e_perm (fr1_perm 3 _) ?_
        obtain rfl := Option.some.inj hx4
        exact e_cut ⟨(addI s2.1 1, r7), ⟨rfl, rfl, rfl, rfl, trivial⟩, (PH.le_trans hD3 hle10), rfl, hs4⟩
      · skip
        replace hx4 := if_f ht4 hx4
        refine c_exit ?_
        refine e_then_exit ?_
        refine e_then_exit ?_
        obtain rfl := Option.some.inj hx4
        obtain rfl := hs4
        refine e_blk_exit ?_
        refine e_perm (fr1_perm 3 _) ?_
        refine e_perm (fr1_perm 3 _) ?_
        refine e_perm (fr1_perm 3 _) ?_
        refine e_perm (fr1_perm 3 _) ?_
        exact e_cut ⟨⟨rfl, rfl, rfl, trivial⟩, hD3, rfl⟩
    · skip
      rintro φ4 D11 As14 ⟨hI4, hD4, hA14⟩
      subst As14
      replace h2 := h2.mono hD4
      replace f0_h1 := f0_h1.mono hD4
      refine e_frame _ hI4 ?_
      refine e_then ?_
      refine c_seq ?_
      refine c_seq ?_
      refine c_quiet ?_
      refine ql_q rfl (qs_ldpt encV fitv24 rfl 0 rfl (.slice a8 r6.length cp8) (Nat.le_of_ble_eq_true rfl) rfl) ?_
      refine ql_s (.int .i64 (r6.length : Int)) (by kernel_rfl) ?_
      refine ql_s (.int .i64 (subI (r6.length : Int) 2)) (by kernel_rfl) ?_
      refine ql_s (.int .i64 (subI (r6.length : Int) 2)) (by kernel_rfl) ?_
      refine ql_nil ?_
      refine e_then ?_
      obtain ⟨x6, hs5, hp⟩ := bnd_some hp
      obtain ⟨body3, hbody3, hs5⟩ := loopP_gen hs5
      refine c_cut_end (fun φ1 D15 As1 => Is φ1 [(13, .pointer (some ⟨b12, 0, none⟩))] ∧ PH.le D11 D15 ∧ As1 = pt b12 [.slice a8 r6.length cp8] 24 :: OwnS D15 (encF .f32) 40 (.slice a8 r6.length cp8) x6 :: pt b6 [.float .f32 grade0] 40 :: pt b5 [.int .i64 how0] 3 :: F) ?_ ?_
      · skip
        refine c_block ?_
        refine c_perm (fr1_perm 3 _) ?_
        refine c_perm (fr1_perm 3 _) ?_
        refine c_perm (fr1_perm 3 _) ?_
        refine c_perm (fr1_perm 3 _) ?_
        obtain ⟨kz2, hs5⟩ := loopP_ex hs5
        refine c_loop (fun k φ1 D16 As1 => ∃ (s3 : Int × (List Nat)), Is φ1 [(9, .slice a2 r1.length cp2), (13, .pointer (some ⟨b12, 0, none⟩)), (14, .func (.func 58) #[] #[.pointer (some ⟨b6, 0, none⟩), .pointer (some ⟨b5, 0, none⟩), .pointer (some ⟨b12, 0, none⟩)]), (16, .int .i64 s3.1)] ∧ PH.le D11 D16 ∧ As1 = pt b12 [.slice a8 r6.length cp8] 24 :: OwnS D16 (encF .f32) 40 (.slice a8 r6.length cp8) s3.2 :: pt b6 [.float .f32 grade0] 40 :: pt b5 [.int .i64 how0] 3 :: F ∧ iter body3 k s3 = some x6) ⟨kz2, (subI (r6.length : Int) 2, x4), ⟨rfl, rfl, rfl, rfl, trivial⟩, (PH.le_refl _), rfl, hs5⟩ ?_ ?_
        · rintro _ _ _ ⟨_, _, _, _, h0⟩; cases h0
        intro k3
        rintro φ5 D16 As15 ⟨s3, hI5, hD5, hA15, hs6⟩
        subst As15
        replace h2 := h2.mono hD5
        replace f0_h1 := f0_h1.mono hD5
        refine c_frame _ hI5 ?_
        obtain ⟨y3, hx6, hs6⟩ := iter_some hs6
        replace hx6 := (congrFun hbody3 s3).trans hx6
        refine c_seq ?_
        refine c_seq ?_
        refine c_quiet ?_
        refine ql_s (.int .i64 s3.1) (by kernel_rfl) ?_
        refine ql_s (.bool (decide (s3.1 ≥ 0))) (by kernel_rfl) ?_
        refine ql_nil ?_
        refine e_then ?_
        refine c_cond (decide (s3.1 ≥ 0)) rfl (fun ht5 => ?_) (fun ht5 => ?_)
        · skip
          replace hx6 := if_t ht5 hx6
          refine c_skip ?_
          refine e_then ?_
          refine c_seq ?_
          refine c_block ?_
          obtain ⟨x7, hx7, hx6⟩ := bnd_some hx6
          obtain ⟨b15, o3, h11, hq3⟩ := RO.at h2 hx7
          obtain ⟨r8, hr8, hx6⟩ := bnd_some hx6
          refine c_perm (fr1_perm 1 _) ?_
          refine c_adr (fun b16 hb6 hl6 hbd5 hcap5 => ?_)
          refine c_region ?_
          refine l_s (.func (.func 58) #[] #[.pointer (some ⟨b6, 0, none⟩), .pointer (some ⟨b5, 0, none⟩), .pointer (some ⟨b12, 0, none⟩)]) (by kernel_rfl) ?_
          refine l_s (.int .i64 s3.1) (by kernel_rfl) ?_
          refine l_s (.int .i64 s3.1) (by kernel_rfl) ?_
          refine l_s (.int .i64 (addI s3.1 1)) (by kernel_rfl) ?_
          refine l_s (.slice a2 r1.length cp2) (by kernel_rfl) ?_
          refine l_s (.int .i64 s3.1) (by kernel_rfl) ?_
          refine l_q rfl (qs_idx hq3 Try.underlying24 fit40 rfl rfl) ?_
          refine l_q rfl (qs_ldAtV fit40 rfl h11 valF) ?_
          refine l_call rfl rfl Try.call58 (vs := [.int .i64 s3.1, .int .i64 (addI s3.1 1), .float .f32 x7, .pointer (some ⟨b6, 0, none⟩), .pointer (some ⟨b5, 0, none⟩), .pointer (some ⟨b12, 0, none⟩)]) rfl (fun v D18 As17 => PH.le D16 D18 ∧ v = .tuple #[] ∧ As17 = pt b6 [.float .f32 grade0] 40 :: pt b5 [.int .i64 how0] 3 :: pt b12 [.slice a8 r6.length cp8] 24 :: OwnS D18 (encF .f32) 40 (.slice a8 r6.length cp8) r8 :: F) (fun w hS => (show Calls Try.prog 58 #[.int .i64 s3.1, .int .i64 (addI s3.1 1), .float .f32 x7, .pointer (some ⟨b6, 0, none⟩), .pointer (some ⟨b5, 0, none⟩), .pointer (some ⟨b12, 0, none⟩)] w (fun e w' => ∃ (D18 : PH) , PH.le D16 D18 ∧ e = .returned (.tuple #[]) ∧ SInv D18 (pt b6 [.float .f32 grade0] 40 :: pt b5 [.int .i64 how0] 3 :: pt b12 [.slice a8 r6.length cp8] 24 :: OwnS D18 (encF .f32) 40 (.slice a8 r6.length cp8) r8 :: F) w') from by have hq := tarnref2_BedOf_1_s s3.1 (addI s3.1 1) x7 b6 grade0 b5 how0 b12 s3.2 a8 cp8 _  _ _ hr8 w (show SInv D16 (pt b6 [.float .f32 grade0] 40 :: pt b5 [.int .i64 how0] 3 :: pt b12 [.slice a8 s3.2.length cp8] 24 :: OwnS D16 (encF .f32) 40 (.slice a8 s3.2.length cp8) s3.2 :: F) w from by have h2 : SInv D16 (pt b6 [.float .f32 grade0] 40 :: pt b5 [.int .i64 how0] 3 :: pt b12 [.slice a8 r6.length cp8] 24 :: OwnS D16 (encF .f32) 40 (.slice a8 r6.length cp8) s3.2 :: F) w := (((hS.perm (fr1_perm 0 _)).perm (fr1_perm 1 _)).perm (fr1_perm 3 _)).perm (fr1_perm 3 _); rw [← hl6] at h2; exact h2); (try simp only [hl6] at hq); exact hq).mono fun e w' ⟨D18, hle12, he, hS2⟩ => ⟨_, D18, _, he, ⟨hle12, rfl, rfl⟩, hS2⟩) ?_
          rintro _ D18 As17 ⟨hle12, rfl, hA17⟩
          subst As17
          replace h2 := h2.mono hle12
          replace h11 := h11.mono hle12
          replace f0_h1 := f0_h1.mono hle12
          refine l_nil ?_
          refine e_blk ?_
          refine e_then ?_
          refine c_quiet ?_
          refine ql_s (.int .i64 s3.1) (by kernel_rfl) ?_
          refine ql_s (.int .i64 (subI s3.1 1)) (by kernel_rfl) ?_
          refine ql_s (.int .i64 (subI s3.1 1)) (by kernel_rfl) ?_
          refine ql_nil ?_
          refine e_perm (fr1_perm 1 _) ?_
          refine e_perm (fr1_perm 1 _) ?_
          refine e_perm (fr1_perm 3 _) ?_
          refine e_perm (fr1_perm 3 _) ?_
          obtain rfl := Option.some.inj hx6
          exact e_cut ⟨(subI s3.1 1, r8), ⟨rfl, rfl, rfl, rfl, trivial⟩, (PH.le_trans hD5 hle12), rfl, hs6⟩
        · skip
          replace hx6 := if_f ht5 hx6
          refine c_exit ?_
          refine e_then_exit ?_
          refine e_then_exit ?_
          obtain rfl := Option.some.inj hx6
          obtain rfl := hs6
          refine e_blk_exit ?_
          refine e_perm (fr1_perm 3 _) ?_
          refine e_perm (fr1_perm 3 _) ?_
          refine e_perm (fr1_perm 3 _) ?_
          refine e_perm (fr1_perm 3 _) ?_
          exact e_cut ⟨⟨rfl, trivial⟩, hD5, rfl⟩
      · skip
        rintro φ6 D15 As18 ⟨hI6, hD6, hA18⟩
        subst As18
        replace f0_h1 := f0_h1.mono hD6
        refine e_frame _ hI6 ?_
        refine e_then ?_
        refine c_seq ?_
        refine c_quiet ?_
        refine ql_q rfl (qs_ldpt encV fitv24 rfl 0 rfl (.slice a8 r6.length cp8) (Nat.le_of_ble_eq_true rfl) rfl) ?_
        refine ql_s (.slice a8 r6.length cp8) (by kernel_rfl) ?_
        refine ql_nil ?_
        refine e_drop ?_
        refine e_perm (fr1_perm 1 _) ?_
        refine e_drop ?_
        refine e_perm (fr1_perm 1 _) ?_
        refine e_drop ?_
        refine e_then ?_
        refine c_ret ?_
        obtain rfl := Option.some.inj hp
        refine e_adr (fun b17 hb7 hl7 hbd6 hcap6 => ?_)
        exact post_all (vs := [.slice a8 r6.length cp8]) (.slice a8 r6.length cp8) ⟨rfl, trivial⟩ rfl (.inl rfl) (fun w hS => ⟨D15, a8, cp8, (PH.le_trans (PH.le_trans (PH.le_trans hle2 hle8) hD4) hD6), (by simp only [hl7]), (by have h2 : SInv D15 (OwnS D15 (encF .f32) 40 (.slice a8 r6.length cp8) x6 :: F) w := hS; simpa only [hl7] using h2)⟩)

-- tarnfell/tarnref2.BedOf
set_option maxRecDepth 100000 in
set_option maxHeartbeats 4000000 in
theorem tarnref2_BedOf_v4_s (f0 : S_api_Field) (f0_v1a : Option Addr) (f0_v1c : Nat) (way0 : List S_api_Point) (way0_v1a : Option Addr) (way0_v1c : Nat) (how0 : Int) (grade0 : Nat) (D : PH) (f0_h1 : RO (encF .f32) D (.slice f0_v1a f0.V.length f0_v1c) f0.V) (way0_h1 : RO encS_api_Point D (.slice way0_v1a way0.length way0_v1c) way0) (F : List Assert) (r : (List Nat)) (hp : tarnref2_BedOf_v4_p f0 way0 how0 grade0 = some r) : ∀ w : World, SInv D (F) w → Calls Try.prog 24 #[.agg #[.int .i64 f0.Region.X, .int .i64 f0.Region.Y, .int .i64 f0.Region.W, .int .i64 f0.Region.H, .slice f0_v1a f0.V.length f0_v1c], .slice way0_v1a way0.length way0_v1c, .int .i64 how0, .float .f32 grade0] w (fun e w' => ∃ (D1 : PH) (q_a1 : Option Addr) (q_cp1 : Nat), PH.le D D1 ∧ e = .returned (.slice q_a1 r.length q_cp1) ∧ RO (encF .f32) D1 (.slice q_a1 r.length q_cp1) r ∧ SInv D1 (F) w') := by
  intro w hS
  refine call_intro Try.func24 rfl Try.ntmps24 (Nat.le_of_ble_eq_true rfl) hS ?_
  clear hS w
  unfold tarnref2_BedOf_v4_p at hp
  refine c_seq ?_
  refine c_region ?_
  refine l_box (cs := [.int .i64 f0.Region.X, .int .i64 f0.Region.Y, .int .i64 f0.Region.W, .int .i64 f0.Region.H, .slice f0_v1a f0.V.length f0_v1c]) rfl rfl (fun b4 => ?_)
  refine l_box (cs := [.int .i64 how0]) rfl rfl (fun b5 => ?_)
  refine l_box (cs := [.float .f32 grade0]) rfl rfl (fun b6 => ?_)
  refine l_s (.slice none 0 0) (by kernel_rfl) ?_
  refine l_nil ?_
  refine e_then ?_
  refine c_seq ?_
  obtain ⟨r1, hr1, hp⟩ := bnd_some hp
  refine c_region ?_
  refine l_s (.slice way0_v1a way0.length way0_v1c) (by kernel_rfl) ?_
  refine l_call rfl rfl Try.call21 (vs := [.slice way0_v1a way0.length way0_v1c]) rfl (fun v D2 As2 => ∃ (a2 : Option Addr) (cp2 : Nat), PH.le D D2 ∧ v = .slice a2 r1.length cp2 ∧ RO (encF .f32) D2 (.slice a2 r1.length cp2) r1 ∧ As2 = pt b6 [.float .f32 grade0] 40 :: pt b5 [.int .i64 how0] 3 :: pt b4 [.int .i64 f0.Region.X, .int .i64 f0.Region.Y, .int .i64 f0.Region.W, .int .i64 f0.Region.H, .slice f0_v1a f0.V.length f0_v1c] 26 :: F) (fun w hS => (tarnref2_Lengths_s way0 way0_v1a way0_v1c _ way0_h1 _ _ hr1 w (hS)).mono fun e w' ⟨D2, a2, cp2, hle2, he, h2, hS2⟩ => ⟨_, D2, _, he, ⟨a2, cp2, hle2, rfl, h2, rfl⟩, hS2⟩) ?_
  rintro _ D2 As2 ⟨a2, cp2, hle2, rfl, h2, hA2⟩
  subst As2
  replace way0_h1 := way0_h1.mono hle2
  replace f0_h1 := f0_h1.mono hle2
  refine l_s (.slice a2 r1.length cp2) (by kernel_rfl) ?_
  refine l_nil ?_
  refine e_then ?_
  refine c_seq ?_
  refine c_seq ?_
  refine c_quiet ?_
  refine ql_q rfl (qs_ldpt encV fitv3 rfl 1 rfl (.int .i64 how0) (Nat.le_of_ble_eq_true rfl) rfl) ?_
  refine ql_s (.bool (how0 == 3)) (by kernel_rfl) ?_
  refine ql_nil ?_
  refine e_then ?_
  refine c_cond ((how0 == 3)) rfl (fun ht1 => ?_) (fun ht1 => ?_)
  · skip
    replace hp := if_t ht1 hp
    refine c_seq ?_
    obtain ⟨r2, hr2, hp⟩ := bnd_some hp
    obtain ⟨r3, hr3, hp⟩ := bnd_some hp
    refine c_perm (fr1_perm 2 _) ?_
    refine c_perm (fr1_perm 2 _) ?_
    refine c_perm (fr1_perm 2 _) ?_
    refine c_order (B := [pt b6 [.float .f32 grade0] 40, pt b5 [.int .i64 how0] 3, pt b4 [.int .i64 f0.Region.X, .int .i64 f0.Region.Y, .int .i64 f0.Region.W, .int .i64 f0.Region.H, .slice f0_v1a f0.V.length f0_v1c] 26]) (.q 0 (.q 1 (.q 2 (.q 4 (.q 5 (.q 6 (.e 3 (.e 7 (.q 8 (.q 9 .nil)))))))))) hmix (by kernel_rfl) (NoPanic.then (NoPanic.then NoPanic.post)) ?_
    refine o_qs rfl rfl (qs_ldpt (encW 5 (by decide)) fitv26 rfl 2 rfl (.agg #[.int .i64 f0.Region.X, .int .i64 f0.Region.Y, .int .i64 f0.Region.W, .int .i64 f0.Region.H, .slice f0_v1a f0.V.length f0_v1c]) (Nat.le_of_ble_eq_true rfl) rfl) ?_
    refine o_s (.slice way0_v1a way0.length way0_v1c) rfl (by kernel_rfl) ?_
    refine o_qs rfl rfl (qs_ldpt encV fitv40 rfl 0 rfl (.float .f32 grade0) (Nat.le_of_ble_eq_true rfl) rfl) ?_
    refine o_qs rfl rfl (qs_ldpt (encW 5 (by decide)) fitv26 rfl 2 rfl (.agg #[.int .i64 f0.Region.X, .int .i64 f0.Region.Y, .int .i64 f0.Region.W, .int .i64 f0.Region.H, .slice f0_v1a f0.V.length f0_v1c]) (Nat.le_of_ble_eq_true rfl) rfl) ?_
    refine o_s (.slice way0_v1a way0.length way0_v1c) rfl (by kernel_rfl) ?_
    refine o_qs rfl rfl (qs_ldpt encV fitv40 rfl 0 rfl (.float .f32 grade0) (Nat.le_of_ble_eq_true rfl) rfl) ?_
    refine o_calle rfl rfl rfl Try.call24 (vs := [.agg #[.int .i64 f0.Region.X, .int .i64 f0.Region.Y, .int .i64 f0.Region.W, .int .i64 f0.Region.H, .slice f0_v1a f0.V.length f0_v1c], .slice way0_v1a way0.length way0_v1c, .int .i64 2, .float .f32 grade0]) rfl (fun v D5 As5 => ∃ (a5 : Option Addr) (cp5 : Nat), PH.le D2 D5 ∧ v = .slice a5 r2.length cp5 ∧ As5 = OwnS D5 (encF .f32) 40 (.slice a5 r2.length cp5) r2 :: F) (fun w hS => (tarnref2_BedOf_v2_s f0 f0_v1a f0_v1c way0 way0_v1a way0_v1c 2 grade0 _ f0_h1 way0_h1 _ _ hr2 w (hS)).mono fun e w' ⟨D5, a5, cp5, hle5, he, hS2⟩ => ⟨_, D5, _, he, ⟨a5, cp5, hle5, rfl, rfl⟩, (((hS2.perm (fr1_perm 0 _)).perm (fr1_perm 3 _)).perm (fr1_perm 3 _)).perm (fr1_perm 3 _)⟩) ?_
    rintro _ D5 As5 ⟨a5, cp5, hle5, rfl, hA5⟩
    subst As5
    refine ⟨PH.le_trans (PH.le_refl _) hle5, ?_⟩
    replace way0_h1 := way0_h1.mono hle5
    replace h2 := h2.mono hle5
    replace f0_h1 := f0_h1.mono hle5
    refine o_calle rfl rfl rfl Try.call24 (vs := [.agg #[.int .i64 f0.Region.X, .int .i64 f0.Region.Y, .int .i64 f0.Region.W, .int .i64 f0.Region.H, .slice f0_v1a f0.V.length f0_v1c], .slice way0_v1a way0.length way0_v1c, .int .i64 1, .float .f32 grade0]) rfl (fun v D6 As6 => ∃ (a6 : Option Addr) (cp6 : Nat), PH.le D5 D6 ∧ v = .slice a6 r3.length cp6 ∧ RO (encF .f32) D6 (.slice a6 r3.length cp6) r3 ∧ As6 = OwnS D5 (encF .f32) 40 (.slice a5 r2.length cp5) r2 :: F) (fun w hS => (tarnref2_BedOf_v3_s f0 f0_v1a f0_v1c way0 way0_v1a way0_v1c 1 grade0 _ f0_h1 way0_h1 _ _ hr3 w (hS)).mono fun e w' ⟨D6, a6, cp6, hle6, he, h6, hS2⟩ => ⟨_, D6, _, he, ⟨a6, cp6, hle6, rfl, h6, rfl⟩, hS2⟩) ?_
    rintro _ D6 As6 ⟨a6, cp6, hle6, rfl, h6, hA6⟩
    subst As6
    refine ⟨PH.le_trans hle5 hle6, ?_⟩
    replace way0_h1 := way0_h1.mono hle6
    replace h2 := h2.mono hle6
    replace f0_h1 := f0_h1.mono hle6
    refine o_s (.slice a5 r2.length cp5) rfl (by kernel_rfl) ?_
    refine o_s (.slice a6 r3.length cp6) rfl (by kernel_rfl) ?_
    refine o_nil ?_
    refine e_drop ?_
    refine e_drop ?_
    refine e_drop ?_
    refine e_then ?_
    refine c_seq ?_
    refine c_seq ?_
    refine c_quiet ?_
    refine ql_s (.slice a5 r2.length cp5) (by kernel_rfl) ?_
    refine ql_s (.int .i64 (r2.length : Int)) (by kernel_rfl) ?_
    refine ql_s (.int .i64 0) (by kernel_rfl) ?_
    refine ql_nil ?_
    refine e_then ?_
    refine c_adr (fun b7 hb1 hl1 hbd1 hcap1 => ?_)
    have hb0 : (r2.length : Int) ≤ 4611686018427387904 := by have h1 := (rfl : r2.length = r2.length); have h2 := hbd1; omega
    have hm0 : r2.length = (r2.length : Int).toNat := (Int.toNat_natCast _).symm
    have hm1 := hm0; have hb2 := hb0; clear hm0 hb0
    obtain ⟨x1, hs1, hp⟩ := bnd_some hp
    obtain ⟨body1, hbody1, hs1⟩ := forS_gen hs1
    refine c_cut_end (fun φ1 D7 As1 => Is φ1 [(10, .slice a5 r2.length cp5)] ∧ PH.le D6 D7 ∧ As1 = OwnS D7 (encF .f32) 40 (.slice a5 r2.length cp5) x1 :: F) ?_ ?_
    · skip
      refine c_block ?_
      refine c_imp (OwnS.mono hle6) ?_
      refine c_loop (fun k φ1 D8 As1 => ∃ (j1 i1 : Nat) (s1 : (List Nat)), k = j1 + 1 ∧ i1 + j1 = r2.length ∧ Is φ1 [(10, .slice a5 r2.length cp5), (11, .slice a6 r3.length cp6), (30, .int .i64 (r2.length : Int)), (31, .int .i64 (i1 : Int))] ∧ PH.le D6 D8 ∧ As1 = OwnS D8 (encF .f32) 40 (.slice a5 r2.length cp5) s1 :: F ∧ forS body1 j1 i1 s1 = some x1) ⟨r2.length + 1, r2.length, 0, r2, rfl, Nat.zero_add _, ⟨rfl, rfl, rfl, rfl, trivial⟩, (PH.le_refl _), rfl, hs1⟩ ?_ ?_
      · rintro _ _ _ ⟨_, _, _, h0, _⟩; omega
      intro k1
      rintro φ1 D8 As7 ⟨j1, i1, s1, hk1, hij1, hI1, hD1, hA7, hs2⟩
      subst As7
      replace h6 := h6.mono hD1
      replace f0_h1 := f0_h1.mono hD1
      refine c_frame _ hI1 ?_
      obtain rfl : k1 = j1 := by omega
      clear hk1
      rcases k1 with _ | j1
      · skip
        refine c_seq ?_
        refine c_quiet ?_
        refine ql_s (.bool (decide ((i1 : Int) < (r2.length : Int)))) (by kernel_rfl) ?_
        refine ql_nil ?_
        refine e_then ?_
        refine c_seq ?_
        refine c_cond (decide ((i1 : Int) < (r2.length : Int))) rfl (fun ht2 => absurd ((dec_lt_f hm1 (by omega)).symm.trans ht2) (by simp)) (fun _ => ?_)
        refine c_exit ?_
        refine e_then_exit ?_
        refine e_then_exit ?_
        obtain rfl := Option.some.inj hs2
        refine e_blk_exit ?_
        exact e_cut ⟨⟨rfl, trivial⟩, hD1, rfl⟩
      · skip
        obtain ⟨y1, hx1, hs2⟩ := forS_some hs2
        replace hx1 := (congrFun (congrFun hbody1 i1) s1).trans hx1
        refine c_seq ?_
        refine c_quiet ?_
        refine ql_s (.bool (decide ((i1 : Int) < (r2.length : Int)))) (by kernel_rfl) ?_
        refine ql_nil ?_
        refine e_then ?_
        refine c_seq ?_
        refine c_cond (decide ((i1 : Int) < (r2.length : Int))) rfl (fun _ => ?_) (fun ht3 => absurd ((dec_lt_t hm1 (by omega)).symm.trans ht3) (by simp))
        refine c_skip ?_
        refine e_then ?_
        refine c_seq ?_
        refine c_block ?_
        refine c_seq ?_
        refine c_quiet ?_
        refine ql_s (.int .i64 (i1 : Int)) (by kernel_rfl) ?_
        refine ql_s (.int .i64 (i1 : Int)) (by kernel_rfl) ?_
        refine ql_nil ?_
        refine e_then ?_
        obtain ⟨x2, hx2, hx1⟩ := bnd_some hx1
        obtain ⟨x3, hx3, hx1⟩ := bnd_some hx1
        obtain ⟨b8, o1, h7, hq1⟩ := RO.at h6 hx3
        obtain ⟨r4, hr4, hx1⟩ := bnd_some hx1
        obtain ⟨r5, hr5, hx1⟩ := bnd_some hx1
        obtain ⟨l1, hl2, hx1⟩ := bnd_some hx1
        replace hl2 := Option.some.inj hl2
        refine c_adr (fun b9 hb3 hl3 hbd2 hcap2 => ?_)
        refine c_order (B := []) (.q 0 (.q 1 (.q 2 (.q 3 (.q 4 (.q 6 (.q 7 (.q 8 (.q 9 (.e 5 (.q 10 (.q 11 (.q 12 (.e 13 .nil)))))))))))))) hmix (by kernel_rfl) (NoPanic.blk (NoPanic.then (NoPanic.then (NoPanic.blk (NoPanic.then (NoPanic.then (NoPanic.then NoPanic.post))))))) ?_
        refine o_s (.slice a5 r2.length cp5) rfl (by kernel_rfl) ?_
        refine o_s (.int .i64 (i1 : Int)) rfl (by kernel_rfl) ?_
        refine o_s (.slice a5 r2.length cp5) rfl (by kernel_rfl) ?_
        refine o_s (.int .i64 (i1 : Int)) rfl (by kernel_rfl) ?_
        refine o_qs rfl rfl (qs_idx (IsIdx.beg (e := encF .f32) hb3 hl3 hx2) Try.underlying24 fit40 rfl rfl) ?_
        refine o_s (.slice a6 r3.length cp6) rfl (by kernel_rfl) ?_
        refine o_s (.int .i64 (i1 : Int)) rfl (by kernel_rfl) ?_
        refine o_qs rfl rfl (qs_idx hq1 Try.underlying24 fit40 rfl rfl) ?_
        refine o_qs rfl rfl (qs_ldAtV fit40 rfl h7 valF) ?_
        refine o_qe rfl rfl (PH.le_refl _) (qs_ldS fit40 hb3 rfl rfl 0 rfl (idx_some hx2).2.2 (v := .float .f32 x2) valF) ?_
        refine o_qs rfl rfl (qs_fop hr4 rfl rfl) ?_
        refine o_qs rfl rfl (qs_fop hr5 rfl rfl) ?_
        refine o_qs rfl rfl (qs_idx (IsIdx.beg (e := encF .f32) hb3 hl3 hx2) Try.underlying24 fit40 rfl rfl) ?_
        refine o_stS (vs := [.float .f32 r5]) hb3 hl3 hl2 rfl rfl (PH.le_refl _) fit40 rfl rfl rfl rfl (idx_some hx2).2.1 ?_
        refine o_nil ?_
        refine e_blk ?_
        refine e_then ?_
        refine c_quiet ?_
        refine ql_s (.int .i64 (addI (i1 : Int) 1)) (by kernel_rfl) ?_
        refine ql_s (.int .i64 (addI (i1 : Int) 1)) (by kernel_rfl) ?_
        refine ql_nil ?_
        obtain rfl := Option.some.inj hx1
        exact e_cut ⟨j1, i1 + 1, l1, by omega, by omega, ⟨rfl, rfl, rfl, (congrArg (Value.int .i64) (addI_succ (by omega))), trivial⟩, hD1, rfl, hs2⟩
    · skip
      rintro φ2 D7 As8 ⟨hI2, hD2, hA8⟩
      subst As8
      replace f0_h1 := f0_h1.mono hD2
      refine e_frame _ hI2 ?_
      refine e_then ?_
      refine c_seq ?_
      refine c_quiet ?_
      refine ql_s (.slice a5 r2.length cp5) (by kernel_rfl) ?_
      refine ql_s (.slice a5 r2.length cp5) (by kernel_rfl) ?_
      refine ql_nil ?_
      refine e_then ?_
      refine c_ret ?_
      refine e_then_ret ?_
      refine e_adr (fun b10 hb4 hl4 hbd3 hcap3 => ?_)
      refine e_layS (PH.le_refl _) (fun D9 hle7 h8 => ?_)
      replace f0_h1 := f0_h1.mono hle7
      obtain rfl := Option.some.inj hp
      exact post_all (vs := [.slice a5 r2.length cp5]) (.slice a5 r2.length cp5) ⟨rfl, trivial⟩ rfl (.inl rfl) (fun w hS => ⟨D9, a5, cp5, (PH.le_trans (PH.le_trans (PH.le_trans (PH.le_trans hle2 hle5) hle6) hD2) hle7), (by simp only [hl4]), (by rw [hl4]; exact h8), (by have h2 : SInv D9 (F) w := hS; simpa only [hl4] using h2)⟩)
  · skip
    replace hp := if_f ht1 hp
    refine c_skip ?_
    refine e_then ?_
    refine c_seq ?_
    obtain ⟨r6, hr6, hp⟩ := bnd_some hp
    refine c_region ?_
    refine l_q rfl (qs_ldpt (encW 5 (by decide)) fitv26 rfl 2 rfl (.agg #[.int .i64 f0.Region.X, .int .i64 f0.Region.Y, .int .i64 f0.Region.W, .int .i64 f0.Region.H, .slice f0_v1a f0.V.length f0_v1c]) (Nat.le_of_ble_eq_true rfl) rfl) ?_
    refine l_s (.slice way0_v1a way0.length way0_v1c) (by kernel_rfl) ?_
    refine l_call rfl rfl Try.call20 (vs := [.agg #[.int .i64 f0.Region.X, .int .i64 f0.Region.Y, .int .i64 f0.Region.W, .int .i64 f0.Region.H, .slice f0_v1a f0.V.length f0_v1c], .slice way0_v1a way0.length way0_v1c]) rfl (fun v D11 As10 => ∃ (a8 : Option Addr) (cp8 : Nat), PH.le D2 D11 ∧ v = .slice a8 r6.length cp8 ∧ As10 = OwnS D11 (encF .f32) 40 (.slice a8 r6.length cp8) r6 :: pt b6 [.float .f32 grade0] 40 :: pt b5 [.int .i64 how0] 3 :: pt b4 [.int .i64 f0.Region.X, .int .i64 f0.Region.Y, .int .i64 f0.Region.W, .int .i64 f0.Region.H, .slice f0_v1a f0.V.length f0_v1c] 26 :: F) (fun w hS => (tarnref2_Values_v1_s f0 f0_v1a f0_v1c way0 way0_v1a way0_v1c _ f0_h1 way0_h1 _ _ hr6 w (hS)).mono fun e w' ⟨D11, a8, cp8, hle9, he, hS2⟩ => ⟨_, D11, _, he, ⟨a8, cp8, hle9, rfl, rfl⟩, hS2⟩) ?_
    rintro _ D11 As10 ⟨a8, cp8, hle9, rfl, hA10⟩
    subst As10
    replace way0_h1 := way0_h1.mono hle9
    replace h2 := h2.mono hle9
    replace f0_h1 := f0_h1.mono hle9
    refine l_alloc (zs := [.slice none 0 0]) rfl (by kernel_rfl) (fun b12 => ?_)
    refine l_nilS D11 (encF .f32) 40 ?_
    refine l_perm (fr1_perm 1 _) ?_
    refine l_store (dd := none) (vs := [.slice a8 r6.length cp8]) (cs' := [.slice a8 r6.length cp8]) rfl (by kernel_rfl) (by kernel_rfl) rfl rfl (Nat.le_of_ble_eq_true rfl) rfl rfl ?_
    refine l_nil ?_
    refine e_perm (fr1_perm 1 _) ?_
    refine e_drop ?_
    refine e_perm (fr1_perm 4 _) ?_
    refine e_drop ?_
    refine e_then ?_
    refine c_seq ?_
    refine c_quiet ?_
    refine ql_s (.func (.func 58) #[] #[.pointer (some ⟨b6, 0, none⟩), .pointer (some ⟨b5, 0, none⟩), .pointer (some ⟨b12, 0, none⟩)]) (by kernel_rfl) ?_
    refine ql_s (.func (.func 58) #[] #[.pointer (some ⟨b6, 0, none⟩), .pointer (some ⟨b5, 0, none⟩), .pointer (some ⟨b12, 0, none⟩)]) (by kernel_rfl) ?_
    refine ql_nil ?_
    refine e_then ?_
    refine c_seq ?_
    refine c_seq ?_
    refine c_quiet ?_
    refine ql_s (.int .i64 1) (by kernel_rfl) ?_
    refine ql_nil ?_
    refine e_then ?_
    obtain ⟨x4, hs3, hp⟩ := bnd_some hp
    obtain ⟨body2, hbody2, hs3⟩ := loopP_gen hs3
    refine c_cut_end (fun φ1 D12 As1 => Is φ1 [(9, .slice a2 r1.length cp2), (13, .pointer (some ⟨b12, 0, none⟩)), (14, .func (.func 58) #[] #[.pointer (some ⟨b6, 0, none⟩), .pointer (some ⟨b5, 0, none⟩), .pointer (some ⟨b12, 0, none⟩)])] ∧ PH.le D11 D12 ∧ As1 = pt b12 [.slice a8 r6.length cp8] 24 :: OwnS D12 (encF .f32) 40 (.slice a8 r6.length cp8) x4 :: pt b6 [.float .f32 grade0] 40 :: pt b5 [.int .i64 how0] 3 :: F) ?_ ?_
    · skip
      refine c_block ?_
      refine c_perm (fr1_perm 3 _) ?_
      refine c_perm (fr1_perm 3 _) ?_
      refine c_perm (fr1_perm 3 _) ?_
      refine c_perm (fr1_perm 3 _) ?_
      obtain ⟨kz1, hs3⟩ := loopP_ex hs3
      refine c_loop (fun k φ1 D13 As1 => ∃ (s2 : Int × (List Nat)), Is φ1 [(9, .slice a2 r1.length cp2), (13, .pointer (some ⟨b12, 0, none⟩)), (14, .func (.func 58) #[] #[.pointer (some ⟨b6, 0, none⟩), .pointer (some ⟨b5, 0, none⟩), .pointer (some ⟨b12, 0, none⟩)]), (15, .int .i64 s2.1)] ∧ PH.le D11 D13 ∧ As1 = pt b12 [.slice a8 r6.length cp8] 24 :: OwnS D13 (encF .f32) 40 (.slice a8 r6.length cp8) s2.2 :: pt b6 [.float .f32 grade0] 40 :: pt b5 [.int .i64 how0] 3 :: F ∧ iter body2 k s2 = some x4) ⟨kz1, (1, r6), ⟨rfl, rfl, rfl, rfl, trivial⟩, (PH.le_refl _), rfl, hs3⟩ ?_ ?_
      · rintro _ _ _ ⟨_, _, _, _, h0⟩; cases h0
      intro k2
      rintro φ3 D13 As11 ⟨s2, hI3, hD3, hA11, hs4⟩
      subst As11
      replace h2 := h2.mono hD3
      replace f0_h1 := f0_h1.mono hD3
      refine c_frame _ hI3 ?_
      obtain ⟨y2, hx4, hs4⟩ := iter_some hs4
      replace hx4 := (congrFun hbody2 s2).trans hx4
      refine c_seq ?_
      refine c_seq ?_
      refine c_quiet ?_
      refine ql_s (.int .i64 s2.1) (by kernel_rfl) ?_
      refine ql_q rfl (qs_ldpt encV fitv24 rfl 0 rfl (.slice a8 r6.length cp8) (Nat.le_of_ble_eq_true rfl) rfl) ?_
      refine ql_s (.int .i64 (r6.length : Int)) (by kernel_rfl) ?_
      refine ql_s (.bool (decide (s2.1 < (r6.length : Int)))) (by kernel_rfl) ?_
      refine ql_nil ?_
      refine e_then ?_
      refine c_cond (decide (s2.1 < (r6.length : Int))) rfl (fun ht4 => ?_) (fun ht4 => ?_)
      · skip
        replace hx4 := if_t ht4 hx4
        refine c_skip ?_
        refine e_then ?_
        refine c_seq ?_
        refine c_block ?_
        obtain ⟨x5, hx5, hx4⟩ := bnd_some hx4
        obtain ⟨b13, o2, h11, hq2⟩ := RO.at h2 hx5
        obtain ⟨r7, hr7, hx4⟩ := bnd_some hx4
        refine c_perm (fr1_perm 1 _) ?_
        refine c_adr (fun b14 hb5 hl5 hbd4 hcap4 => ?_)
        refine c_region ?_
        refine l_s (.func (.func 58) #[] #[.pointer (some ⟨b6, 0, none⟩), .pointer (some ⟨b5, 0, none⟩), .pointer (some ⟨b12, 0, none⟩)]) (by kernel_rfl) ?_
        refine l_s (.int .i64 s2.1) (by kernel_rfl) ?_
        refine l_s (.int .i64 s2.1) (by kernel_rfl) ?_
        refine l_s (.int .i64 (subI s2.1 1)) (by kernel_rfl) ?_
        refine l_s (.slice a2 r1.length cp2) (by kernel_rfl) ?_
        refine l_s (.int .i64 s2.1) (by kernel_rfl) ?_
        refine l_s (.int .i64 (subI s2.1 1)) (by kernel_rfl) ?_
        refine l_q rfl (qs_idx hq2 Try.underlying24 fit40 rfl rfl) ?_
        refine l_q rfl (qs_ldAtV fit40 rfl h11 valF) ?_
        refine l_call rfl rfl Try.call58 (vs := [.int .i64 s2.1, .int .i64 (subI s2.1 1), .float .f32 x5, .pointer (some ⟨b6, 0, none⟩), .pointer (some ⟨b5, 0, none⟩), .pointer (some ⟨b12, 0, none⟩)]) rfl (fun v D15 As13 => PH.le D13 D15 ∧ v = .tuple #[] ∧ As13 = pt b6 [.float .f32 grade0] 40 :: pt b5 [.int .i64 how0] 3 :: pt b12 [.slice a8 r6.length cp8] 24 :: OwnS D15 (encF .f32) 40 (.slice a8 r6.length cp8) r7 :: F) (fun w hS => (show Calls Try.prog 58 #[.int .i64 s2.1, .int .i64 (subI s2.1 1), .float .f32 x5, .pointer (some ⟨b6, 0, none⟩), .pointer (some ⟨b5, 0, none⟩), .pointer (some ⟨b12, 0, none⟩)] w (fun e w' => ∃ (D15 : PH) , PH.le D13 D15 ∧ e = .returned (.tuple #[]) ∧ SInv D15 (pt b6 [.float .f32 grade0] 40 :: pt b5 [.int .i64 how0] 3 :: pt b12 [.slice a8 r6.length cp8] 24 :: OwnS D15 (encF .f32) 40 (.slice a8 r6.length cp8) r7 :: F) w') from by have hq := tarnref2_BedOf_1_s s2.1 (subI s2.1 1) x5 b6 grade0 b5 how0 b12 s2.2 a8 cp8 _  _ _ hr7 w (show SInv D13 (pt b6 [.float .f32 grade0] 40 :: pt b5 [.int .i64 how0] 3 :: pt b12 [.slice a8 s2.2.length cp8] 24 :: OwnS D13 (encF .f32) 40 (.slice a8 s2.2.length cp8) s2.2 :: F) w from by have h2 : SInv D13 (pt b6 [.float .f32 grade0] 40 :: pt b5 [.int .i64 how0] 3 :: pt b12 [.slice a8 r6.length cp8] 24 :: OwnS D13 (encF .f32) 40 (.slice a8 r6.length cp8) s2.2 :: F) w := (((hS.perm (fr1_perm 0 _)).perm (fr1_perm 1 _)).perm (fr1_perm 3 _)).perm (fr1_perm 3 _); rw [← hl5] at h2; exact h2); (try simp only [hl5] at hq); exact hq).mono fun e w' ⟨D15, hle11, he, hS2⟩ => ⟨_, D15, _, he, ⟨hle11, rfl, rfl⟩, hS2⟩) ?_
        rintro _ D15 As13 ⟨hle11, rfl, hA13⟩
        subst As13
        replace h2 := h2.mono hle11
        replace h11 := h11.mono hle11
        replace f0_h1 := f0_h1.mono hle11
        refine l_nil ?_
        refine e_blk ?_
        refine e_then ?_
        refine c_quiet ?_
        refine ql_s (.int .i64 s2.1) (by kernel_rfl) ?_
        refine ql_s (.int .i64 (addI s2.1 1)) (by kernel_rfl) ?_
        refine ql_s (.int .i64 (addI s2.1 1)) (by kernel_rfl) ?_
        refine ql_nil ?_
        refine e_perm (fr1_perm 1 _) ?_
        refine e_perm (fr1_perm 1 _) ?_
        refine e_perm (fr1_perm 3 _) ?_
        refine e_perm (fr1_perm 3 _) ?_
        obtain rfl := Option.some.inj hx4
        exact e_cut ⟨(addI s2.1 1, r7), ⟨rfl, rfl, rfl, rfl, trivial⟩, (PH.le_trans hD3 hle11), rfl, hs4⟩
      · skip
        replace hx4 := if_f ht4 hx4
        refine c_exit ?_
        refine e_then_exit ?_
        refine e_then_exit ?_
        obtain rfl := Option.some.inj hx4
        obtain rfl := hs4
        refine e_blk_exit ?_
        refine e_perm (fr1_perm 3 _) ?_
        refine e_perm (fr1_perm 3 _) ?_
        refine e_perm (fr1_perm 3 _) ?_
        refine e_perm (fr1_perm 3 _) ?_
        exact e_cut ⟨⟨rfl, rfl, rfl, trivial⟩, hD3, rfl⟩
    · skip
      rintro φ4 D12 As14 ⟨hI4, hD4, hA14⟩
      subst As14
      replace h2 := h2.mono hD4
      replace f0_h1 := f0_h1.mono hD4
      refine e_frame _ hI4 ?_
      refine e_then ?_
      refine c_seq ?_
      refine c_seq ?_
      refine c_quiet ?_
      refine ql_q rfl (qs_ldpt encV fitv24 rfl 0 rfl (.slice a8 r6.length cp8) (Nat.le_of_ble_eq_true rfl) rfl) ?_
      refine ql_s (.int .i64 (r6.length : Int)) (by kernel_rfl) ?_
      refine ql_s (.int .i64 (subI (r6.length : Int) 2)) (by kernel_rfl) ?_
      refine ql_s (.int .i64 (subI (r6.length : Int) 2)) (by kernel_rfl) ?_
      refine ql_nil ?_
      refine e_then ?_
      obtain ⟨x6, hs5, hp⟩ := bnd_some hp
      obtain ⟨body3, hbody3, hs5⟩ := loopP_gen hs5
      refine c_cut_end (fun φ1 D16 As1 => Is φ1 [(13, .pointer (some ⟨b12, 0, none⟩))] ∧ PH.le D12 D16 ∧ As1 = pt b12 [.slice a8 r6.length cp8] 24 :: OwnS D16 (encF .f32) 40 (.slice a8 r6.length cp8) x6 :: pt b6 [.float .f32 grade0] 40 :: pt b5 [.int .i64 how0] 3 :: F) ?_ ?_
      · skip
        refine c_block ?_
        refine c_perm (fr1_perm 3 _) ?_
        refine c_perm (fr1_perm 3 _) ?_
        refine c_perm (fr1_perm 3 _) ?_
        refine c_perm (fr1_perm 3 _) ?_
        obtain ⟨kz2, hs5⟩ := loopP_ex hs5
        refine c_loop (fun k φ1 D17 As1 => ∃ (s3 : Int × (List Nat)), Is φ1 [(9, .slice a2 r1.length cp2), (13, .pointer (some ⟨b12, 0, none⟩)), (14, .func (.func 58) #[] #[.pointer (some ⟨b6, 0, none⟩), .pointer (some ⟨b5, 0, none⟩), .pointer (some ⟨b12, 0, none⟩)]), (16, .int .i64 s3.1)] ∧ PH.le D12 D17 ∧ As1 = pt b12 [.slice a8 r6.length cp8] 24 :: OwnS D17 (encF .f32) 40 (.slice a8 r6.length cp8) s3.2 :: pt b6 [.float .f32 grade0] 40 :: pt b5 [.int .i64 how0] 3 :: F ∧ iter body3 k s3 = some x6) ⟨kz2, (subI (r6.length : Int) 2, x4), ⟨rfl, rfl, rfl, rfl, trivial⟩, (PH.le_refl _), rfl, hs5⟩ ?_ ?_
        · rintro _ _ _ ⟨_, _, _, _, h0⟩; cases h0
        intro k3
        rintro φ5 D17 As15 ⟨s3, hI5, hD5, hA15, hs6⟩
        subst As15
        replace h2 := h2.mono hD5
        replace f0_h1 := f0_h1.mono hD5
        refine c_frame _ hI5 ?_
        obtain ⟨y3, hx6, hs6⟩ := iter_some hs6
        replace hx6 := (congrFun hbody3 s3).trans hx6
        refine c_seq ?_
        refine c_seq ?_
        refine c_quiet ?_
        refine ql_s (.int .i64 s3.1) (by kernel_rfl) ?_
        refine ql_s (.bool (decide (s3.1 ≥ 0))) (by kernel_rfl) ?_
        refine ql_nil ?_
        refine e_then ?_
        refine c_cond (decide (s3.1 ≥ 0)) rfl (fun ht5 => ?_) (fun ht5 => ?_)
        · skip
          replace hx6 := if_t ht5 hx6
          refine c_skip ?_
          refine e_then ?_
          refine c_seq ?_
          refine c_block ?_
          obtain ⟨x7, hx7, hx6⟩ := bnd_some hx6
          obtain ⟨b15, o3, h12, hq3⟩ := RO.at h2 hx7
          obtain ⟨r8, hr8, hx6⟩ := bnd_some hx6
          refine c_perm (fr1_perm 1 _) ?_
          refine c_adr (fun b16 hb6 hl6 hbd5 hcap5 => ?_)
          refine c_region ?_
          refine l_s (.func (.func 58) #[] #[.pointer (some ⟨b6, 0, none⟩), .pointer (some ⟨b5, 0, none⟩), .pointer (some ⟨b12, 0, none⟩)]) (by kernel_rfl) ?_
          refine l_s (.int .i64 s3.1) (by kernel_rfl) ?_
          refine l_s (.int .i64 s3.1) (by kernel_rfl) ?_
          refine l_s (.int .i64 (addI s3.1 1)) (by kernel_rfl) ?_
          refine l_s (.slice a2 r1.length cp2) (by kernel_rfl) ?_
          refine l_s (.int .i64 s3.1) (by kernel_rfl) ?_
          refine l_q rfl (qs_idx hq3 Try.underlying24 fit40 rfl rfl) ?_
          refine l_q rfl (qs_ldAtV fit40 rfl h12 valF) ?_
          refine l_call rfl rfl Try.call58 (vs := [.int .i64 s3.1, .int .i64 (addI s3.1 1), .float .f32 x7, .pointer (some ⟨b6, 0, none⟩), .pointer (some ⟨b5, 0, none⟩), .pointer (some ⟨b12, 0, none⟩)]) rfl (fun v D19 As17 => PH.le D17 D19 ∧ v = .tuple #[] ∧ As17 = pt b6 [.float .f32 grade0] 40 :: pt b5 [.int .i64 how0] 3 :: pt b12 [.slice a8 r6.length cp8] 24 :: OwnS D19 (encF .f32) 40 (.slice a8 r6.length cp8) r8 :: F) (fun w hS => (show Calls Try.prog 58 #[.int .i64 s3.1, .int .i64 (addI s3.1 1), .float .f32 x7, .pointer (some ⟨b6, 0, none⟩), .pointer (some ⟨b5, 0, none⟩), .pointer (some ⟨b12, 0, none⟩)] w (fun e w' => ∃ (D19 : PH) , PH.le D17 D19 ∧ e = .returned (.tuple #[]) ∧ SInv D19 (pt b6 [.float .f32 grade0] 40 :: pt b5 [.int .i64 how0] 3 :: pt b12 [.slice a8 r6.length cp8] 24 :: OwnS D19 (encF .f32) 40 (.slice a8 r6.length cp8) r8 :: F) w') from by have hq := tarnref2_BedOf_1_s s3.1 (addI s3.1 1) x7 b6 grade0 b5 how0 b12 s3.2 a8 cp8 _  _ _ hr8 w (show SInv D17 (pt b6 [.float .f32 grade0] 40 :: pt b5 [.int .i64 how0] 3 :: pt b12 [.slice a8 s3.2.length cp8] 24 :: OwnS D17 (encF .f32) 40 (.slice a8 s3.2.length cp8) s3.2 :: F) w from by have h2 : SInv D17 (pt b6 [.float .f32 grade0] 40 :: pt b5 [.int .i64 how0] 3 :: pt b12 [.slice a8 r6.length cp8] 24 :: OwnS D17 (encF .f32) 40 (.slice a8 r6.length cp8) s3.2 :: F) w := (((hS.perm (fr1_perm 0 _)).perm (fr1_perm 1 _)).perm (fr1_perm 3 _)).perm (fr1_perm 3 _); rw [← hl6] at h2; exact h2); (try simp only [hl6] at hq); exact hq).mono fun e w' ⟨D19, hle13, he, hS2⟩ => ⟨_, D19, _, he, ⟨hle13, rfl, rfl⟩, hS2⟩) ?_
          rintro _ D19 As17 ⟨hle13, rfl, hA17⟩
          subst As17
          replace h2 := h2.mono hle13
          replace h12 := h12.mono hle13
          replace f0_h1 := f0_h1.mono hle13
          refine l_nil ?_
          refine e_blk ?_
          refine e_then ?_
          refine c_quiet ?_
          refine ql_s (.int .i64 s3.1) (by kernel_rfl) ?_
          refine ql_s (.int .i64 (subI s3.1 1)) (by kernel_rfl) ?_
          refine ql_s (.int .i64 (subI s3.1 1)) (by kernel_rfl) ?_
          refine ql_nil ?_
          refine e_perm (fr1_perm 1 _) ?_
          refine e_perm (fr1_perm 1 _) ?_
          refine e_perm (fr1_perm 3 _) ?_
          refine e_perm (fr1_perm 3 _) ?_
          obtain rfl := Option.some.inj hx6
          exact e_cut ⟨(subI s3.1 1, r8), ⟨rfl, rfl, rfl, rfl, trivial⟩, (PH.le_trans hD5 hle13), rfl, hs6⟩
        · skip
          replace hx6 := if_f ht5 hx6
          refine c_exit ?_
          refine e_then_exit ?_
          refine e_then_exit ?_
          obtain rfl := Option.some.inj hx6
          obtain rfl := hs6
          refine e_blk_exit ?_
          refine e_perm (fr1_perm 3 _) ?_
          refine e_perm (fr1_perm 3 _) ?_
          refine e_perm (fr1_perm 3 _) ?_
          refine e_perm (fr1_perm 3 _) ?_
          exact e_cut ⟨⟨rfl, trivial⟩, hD5, rfl⟩
      · skip
        rintro φ6 D16 As18 ⟨hI6, hD6, hA18⟩
        subst As18
        replace f0_h1 := f0_h1.mono hD6
        refine e_frame _ hI6 ?_
        refine e_then ?_
        refine c_seq ?_
        refine c_quiet ?_
        refine ql_q rfl (qs_ldpt encV fitv24 rfl 0 rfl (.slice a8 r6.length cp8) (Nat.le_of_ble_eq_true rfl) rfl) ?_
        refine ql_s (.slice a8 r6.length cp8) (by kernel_rfl) ?_
        refine ql_nil ?_
        refine e_drop ?_
        refine e_perm (fr1_perm 1 _) ?_
        refine e_drop ?_
        refine e_perm (fr1_perm 1 _) ?_
        refine e_drop ?_
        refine e_then ?_
        refine c_ret ?_
        refine e_adr (fun b17 hb7 hl7 hbd6 hcap6 => ?_)
        refine e_layS (PH.le_refl _) (fun D20 hle14 h13 => ?_)
        replace f0_h1 := f0_h1.mono hle14
        obtain rfl := Option.some.inj hp
        exact post_all (vs := [.slice a8 r6.length cp8]) (.slice a8 r6.length cp8) ⟨rfl, trivial⟩ rfl (.inl rfl) (fun w hS => ⟨D20, a8, cp8, (PH.le_trans (PH.le_trans (PH.le_trans (PH.le_trans hle2 hle9) hD4) hD6) hle14), (by simp only [hl7]), (by rw [hl7]; exact h13), (by have h2 : SInv D20 (F) w := hS; simpa only [hl7] using h2)⟩)

-- tarnfell/tarnref2.BedOf
set_option maxRecDepth 100000 in
set_option maxHeartbeats 4000000 in
theorem tarnref2_BedOf_s (f0 : S_api_Field) (f0_v1a : Option Addr) (f0_v1c : Nat) (way0 : List S_api_Point) (way0_v1a : Option Addr) (way0_v1c : Nat) (how0 : Int) (grade0 : Nat) (D : PH) (f0_h1 : RO (encF .f32) D (.slice f0_v1a f0.V.length f0_v1c) f0.V) (way0_h1 : RO encS_api_Point D (.slice way0_v1a way0.length way0_v1c) way0) (F : List Assert) (r : (List Nat)) (hp : tarnref2_BedOf_p f0 way0 how0 grade0 = some r) : ∀ w : World, SInv D (F) w → Calls Try.prog 24 #[.agg #[.int .i64 f0.Region.X, .int .i64 f0.Region.Y, .int .i64 f0.Region.W, .int .i64 f0.Region.H, .slice f0_v1a f0.V.length f0_v1c], .slice way0_v1a way0.length way0_v1c, .int .i64 how0, .float .f32 grade0] w (fun e w' => ∃ (D1 : PH) (q_a1 : Option Addr) (q_cp1 : Nat), PH.le D D1 ∧ e = .returned (.slice q_a1 r.length q_cp1) ∧ RO (encF .f32) D1 (.slice q_a1 r.length q_cp1) r ∧ SInv D1 (F) w') := by
  intro w hS
  refine call_intro Try.func24 rfl Try.ntmps24 (Nat.le_of_ble_eq_true rfl) hS ?_
  clear hS w
  unfold tarnref2_BedOf_p at hp
  refine c_seq ?_
  refine c_region ?_
  refine l_box (cs := [.int .i64 f0.Region.X, .int .i64 f0.Region.Y, .int .i64 f0.Region.W, .int .i64 f0.Region.H, .slice f0_v1a f0.V.length f0_v1c]) rfl rfl (fun b4 => ?_)
  refine l_box (cs := [.int .i64 how0]) rfl rfl (fun b5 => ?_)
  refine l_box (cs := [.float .f32 grade0]) rfl rfl (fun b6 => ?_)
  refine l_s (.slice none 0 0) (by kernel_rfl) ?_
  refine l_nil ?_
  refine e_then ?_
  refine c_seq ?_
  obtain ⟨r1, hr1, hp⟩ := bnd_some hp
  refine c_region ?_
  refine l_s (.slice way0_v1a way0.length way0_v1c) (by kernel_rfl) ?_
  refine l_call rfl rfl Try.call21 (vs := [.slice way0_v1a way0.length way0_v1c]) rfl (fun v D2 As2 => ∃ (a2 : Option Addr) (cp2 : Nat), PH.le D D2 ∧ v = .slice a2 r1.length cp2 ∧ RO (encF .f32) D2 (.slice a2 r1.length cp2) r1 ∧ As2 = pt b6 [.float .f32 grade0] 40 :: pt b5 [.int .i64 how0] 3 :: pt b4 [.int .i64 f0.Region.X, .int .i64 f0.Region.Y, .int .i64 f0.Region.W, .int .i64 f0.Region.H, .slice f0_v1a f0.V.length f0_v1c] 26 :: F) (fun w hS => (tarnref2_Lengths_s way0 way0_v1a way0_v1c _ way0_h1 _ _ hr1 w (hS)).mono fun e w' ⟨D2, a2, cp2, hle2, he, h2, hS2⟩ => ⟨_, D2, _, he, ⟨a2, cp2, hle2, rfl, h2, rfl⟩, hS2⟩) ?_
  rintro _ D2 As2 ⟨a2, cp2, hle2, rfl, h2, hA2⟩
  subst As2
  replace way0_h1 := way0_h1.mono hle2
  replace f0_h1 := f0_h1.mono hle2
  refine l_s (.slice a2 r1.length cp2) (by kernel_rfl) ?_
  refine l_nil ?_
  refine e_then ?_
  refine c_seq ?_
  refine c_seq ?_
  refine c_quiet ?_
  refine ql_q rfl (qs_ldpt encV fitv3 rfl 1 rfl (.int .i64 how0) (Nat.le_of_ble_eq_true rfl) rfl) ?_
  refine ql_s (.bool (how0 == 3)) (by kernel_rfl) ?_
  refine ql_nil ?_
  refine e_then ?_
  refine c_cond ((how0 == 3)) rfl (fun ht1 => ?_) (fun ht1 => ?_)
  · skip
    replace hp := if_t ht1 hp
    refine c_seq ?_
    obtain ⟨r2, hr2, hp⟩ := bnd_some hp
    obtain ⟨r3, hr3, hp⟩ := bnd_some hp
    refine c_perm (fr1_perm 2 _) ?_
    refine c_perm (fr1_perm 2 _) ?_
    refine c_perm (fr1_perm 2 _) ?_
    refine c_order (B := [pt b6 [.float .f32 grade0] 40, pt b5 [.int .i64 how0] 3, pt b4 [.int .i64 f0.Region.X, .int .i64 f0.Region.Y, .int .i64 f0.Region.W, .int .i64 f0.Region.H, .slice f0_v1a f0.V.length f0_v1c] 26]) (.q 0 (.q 1 (.q 2 (.q 4 (.q 5 (.q 6 (.e 3 (.e 7 (.q 8 (.q 9 .nil)))))))))) hmix (by kernel_rfl) (NoPanic.then (NoPanic.then NoPanic.post)) ?_
    refine o_qs rfl rfl (qs_ldpt (encW 5 (by decide)) fitv26 rfl 2 rfl (.agg #[.int .i64 f0.Region.X, .int .i64 f0.Region.Y, .int .i64 f0.Region.W, .int .i64 f0.Region.H, .slice f0_v1a f0.V.length f0_v1c]) (Nat.le_of_ble_eq_true rfl) rfl) ?_
    refine o_s (.slice way0_v1a way0.length way0_v1c) rfl (by kernel_rfl) ?_
    refine o_qs rfl rfl (qs_ldpt encV fitv40 rfl 0 rfl (.float .f32 grade0) (Nat.le_of_ble_eq_true rfl) rfl) ?_
    refine o_qs rfl rfl (qs_ldpt (encW 5 (by decide)) fitv26 rfl 2 rfl (.agg #[.int .i64 f0.Region.X, .int .i64 f0.Region.Y, .int .i64 f0.Region.W, .int .i64 f0.Region.H, .slice f0_v1a f0.V.length f0_v1c]) (Nat.le_of_ble_eq_true rfl) rfl) ?_
    refine o_s (.slice way0_v1a way0.length way0_v1c) rfl (by kernel_rfl) ?_
    refine o_qs rfl rfl (qs_ldpt encV fitv40 rfl 0 rfl (.float .f32 grade0) (Nat.le_of_ble_eq_true rfl) rfl) ?_
    refine o_calle rfl rfl rfl Try.call24 (vs := [.agg #[.int .i64 f0.Region.X, .int .i64 f0.Region.Y, .int .i64 f0.Region.W, .int .i64 f0.Region.H, .slice f0_v1a f0.V.length f0_v1c], .slice way0_v1a way0.length way0_v1c, .int .i64 2, .float .f32 grade0]) rfl (fun v D5 As5 => ∃ (a5 : Option Addr) (cp5 : Nat), PH.le D2 D5 ∧ v = .slice a5 r2.length cp5 ∧ As5 = OwnS D5 (encF .f32) 40 (.slice a5 r2.length cp5) r2 :: F) (fun w hS => (tarnref2_BedOf_v1_s f0 f0_v1a f0_v1c way0 way0_v1a way0_v1c 2 grade0 _ f0_h1 way0_h1 _ _ hr2 w (hS)).mono fun e w' ⟨D5, a5, cp5, hle5, he, hS2⟩ => ⟨_, D5, _, he, ⟨a5, cp5, hle5, rfl, rfl⟩, (((hS2.perm (fr1_perm 0 _)).perm (fr1_perm 3 _)).perm (fr1_perm 3 _)).perm (fr1_perm 3 _)⟩) ?_
    rintro _ D5 As5 ⟨a5, cp5, hle5, rfl, hA5⟩
    subst As5
    refine ⟨PH.le_trans (PH.le_refl _) hle5, ?_⟩
    replace way0_h1 := way0_h1.mono hle5
    replace h2 := h2.mono hle5
    replace f0_h1 := f0_h1.mono hle5
    refine o_calle rfl rfl rfl Try.call24 (vs := [.agg #[.int .i64 f0.Region.X, .int .i64 f0.Region.Y, .int .i64 f0.Region.W, .int .i64 f0.Region.H, .slice f0_v1a f0.V.length f0_v1c], .slice way0_v1a way0.length way0_v1c, .int .i64 1, .float .f32 grade0]) rfl (fun v D6 As6 => ∃ (a6 : Option Addr) (cp6 : Nat), PH.le D5 D6 ∧ v = .slice a6 r3.length cp6 ∧ RO (encF .f32) D6 (.slice a6 r3.length cp6) r3 ∧ As6 = OwnS D5 (encF .f32) 40 (.slice a5 r2.length cp5) r2 :: F) (fun w hS => (tarnref2_BedOf_v4_s f0 f0_v1a f0_v1c way0 way0_v1a way0_v1c 1 grade0 _ f0_h1 way0_h1 _ _ hr3 w (hS)).mono fun e w' ⟨D6, a6, cp6, hle6, he, h6, hS2⟩ => ⟨_, D6, _, he, ⟨a6, cp6, hle6, rfl, h6, rfl⟩, hS2⟩) ?_
    rintro _ D6 As6 ⟨a6, cp6, hle6, rfl, h6, hA6⟩
    subst As6
    refine ⟨PH.le_trans hle5 hle6, ?_⟩
    replace way0_h1 := way0_h1.mono hle6
    replace h2 := h2.mono hle6
    replace f0_h1 := f0_h1.mono hle6
    refine o_s (.slice a5 r2.length cp5) rfl (by kernel_rfl) ?_
    refine o_s (.slice a6 r3.length cp6) rfl (by kernel_rfl) ?_
    refine o_nil ?_
    refine e_drop ?_
    refine e_drop ?_
    refine e_drop ?_
    refine e_then ?_
    refine c_seq ?_
    refine c_seq ?_
    refine c_quiet ?_
    refine ql_s (.slice a5 r2.length cp5) (by kernel_rfl) ?_
    refine ql_s (.int .i64 (r2.length : Int)) (by kernel_rfl) ?_
    refine ql_s (.int .i64 0) (by kernel_rfl) ?_
    refine ql_nil ?_
    refine e_then ?_
    refine c_adr (fun b7 hb1 hl1 hbd1 hcap1 => ?_)
    have hb0 : (r2.length : Int) ≤ 4611686018427387904 := by have h1 := (rfl : r2.length = r2.length); have h2 := hbd1; omega
    have hm0 : r2.length = (r2.length : Int).toNat := (Int.toNat_natCast _).symm
    have hm1 := hm0; have hb2 := hb0; clear hm0 hb0
    obtain ⟨x1, hs1, hp⟩ := bnd_some hp
    obtain ⟨body1, hbody1, hs1⟩ := forS_gen hs1
    refine c_cut_end (fun φ1 D7 As1 => Is φ1 [(10, .slice a5 r2.length cp5)] ∧ PH.le D6 D7 ∧ As1 = OwnS D7 (encF .f32) 40 (.slice a5 r2.length cp5) x1 :: F) ?_ ?_
    · skip
      refine c_block ?_
      refine c_imp (OwnS.mono hle6) ?_
      refine c_loop (fun k φ1 D8 As1 => ∃ (j1 i1 : Nat) (s1 : (List Nat)), k = j1 + 1 ∧ i1 + j1 = r2.length ∧ Is φ1 [(10, .slice a5 r2.length cp5), (11, .slice a6 r3.length cp6), (30, .int .i64 (r2.length : Int)), (31, .int .i64 (i1 : Int))] ∧ PH.le D6 D8 ∧ As1 = OwnS D8 (encF .f32) 40 (.slice a5 r2.length cp5) s1 :: F ∧ forS body1 j1 i1 s1 = some x1) ⟨r2.length + 1, r2.length, 0, r2, rfl, Nat.zero_add _, ⟨rfl, rfl, rfl, rfl, trivial⟩, (PH.le_refl _), rfl, hs1⟩ ?_ ?_
      · rintro _ _ _ ⟨_, _, _, h0, _⟩; omega
      intro k1
      rintro φ1 D8 As7 ⟨j1, i1, s1, hk1, hij1, hI1, hD1, hA7, hs2⟩
      subst As7
      replace h6 := h6.mono hD1
      replace f0_h1 := f0_h1.mono hD1
      refine c_frame _ hI1 ?_
      obtain rfl : k1 = j1 := by omega
      clear hk1
      rcases k1 with _ | j1
      · skip
        refine c_seq ?_
        refine c_quiet ?_
        refine ql_s (.bool (decide ((i1 : Int) < (r2.length : Int)))) (by kernel_rfl) ?_
        refine ql_nil ?_
        refine e_then ?_
        refine c_seq ?_
        refine c_cond (decide ((i1 : Int) < (r2.length : Int))) rfl (fun ht2 => absurd ((dec_lt_f hm1 (by omega)).symm.trans ht2) (by simp)) (fun _ => ?_)
        refine c_exit ?_
        refine e_then_exit ?_
        refine e_then_exit ?_
        obtain rfl := Option.some.inj hs2
        refine e_blk_exit ?_
        exact e_cut ⟨⟨rfl, trivial⟩, hD1, rfl⟩
      · skip
        obtain ⟨y1, hx1, hs2⟩ := forS_some hs2
        replace hx1 := (congrFun (congrFun hbody1 i1) s1).trans hx1
        refine c_seq ?_
        refine c_quiet ?_
        refine ql_s (.bool (decide ((i1 : Int) < (r2.length : Int)))) (by kernel_rfl) ?_
        refine ql_nil ?_
        refine e_then ?_
        refine c_seq ?_
        refine c_cond (decide ((i1 : Int) < (r2.length : Int))) rfl (fun _ => ?_) (fun ht3 => absurd ((dec_lt_t hm1 (by omega)).symm.trans ht3) (by simp))
        refine c_skip ?_
        refine e_then ?_
        refine c_seq ?_
        refine c_block ?_
        refine c_seq ?_
        refine c_quiet ?_
        refine ql_s (.int .i64 (i1 : Int)) (by kernel_rfl) ?_
        refine ql_s (.int .i64 (i1 : Int)) (by kernel_rfl) ?_
        refine ql_nil ?_
        refine e_then ?_
        obtain ⟨x2, hx2, hx1⟩ := bnd_some hx1
        obtain ⟨x3, hx3, hx1⟩ := bnd_some hx1
        obtain ⟨b8, o1, h7, hq1⟩ := RO.at h6 hx3
        obtain ⟨r4, hr4, hx1⟩ := bnd_some hx1
        obtain ⟨r5, hr5, hx1⟩ := bnd_some hx1
        obtain ⟨l1, hl2, hx1⟩ := bnd_some hx1
        replace hl2 := Option.some.inj hl2
        refine c_adr (fun b9 hb3 hl3 hbd2 hcap2 => ?_)
        refine c_order (B := []) (.q 0 (.q 1 (.q 2 (.q 3 (.q 4 (.q 6 (.q 7 (.q 8 (.q 9 (.e 5 (.q 10 (.q 11 (.q 12 (.e 13 .nil)))))))))))))) hmix (by kernel_rfl) (NoPanic.blk (NoPanic.then (NoPanic.then (NoPanic.blk (NoPanic.then (NoPanic.then (NoPanic.then NoPanic.post))))))) ?_
        refine o_s (.slice a5 r2.length cp5) rfl (by kernel_rfl) ?_
        refine o_s (.int .i64 (i1 : Int)) rfl (by kernel_rfl) ?_
        refine o_s (.slice a5 r2.length cp5) rfl (by kernel_rfl) ?_
        refine o_s (.int .i64 (i1 : Int)) rfl (by kernel_rfl) ?_
        refine o_qs rfl rfl (qs_idx (IsIdx.beg (e := encF .f32) hb3 hl3 hx2) Try.underlying24 fit40 rfl rfl) ?_
        refine o_s (.slice a6 r3.length cp6) rfl (by kernel_rfl) ?_
        refine o_s (.int .i64 (i1 : Int)) rfl (by kernel_rfl) ?_
        refine o_qs rfl rfl (qs_idx hq1 Try.underlying24 fit40 rfl rfl) ?_
        refine o_qs rfl rfl (qs_ldAtV fit40 rfl h7 valF) ?_
        refine o_qe rfl rfl (PH.le_refl _) (qs_ldS fit40 hb3 rfl rfl 0 rfl (idx_some hx2).2.2 (v := .float .f32 x2) valF) ?_
        refine o_qs rfl rfl (qs_fop hr4 rfl rfl) ?_
        refine o_qs rfl rfl (qs_fop hr5 rfl rfl) ?_
        refine o_qs rfl rfl (qs_idx (IsIdx.beg (e := encF .f32) hb3 hl3 hx2) Try.underlying24 fit40 rfl rfl) ?_
        refine o_stS (vs := [.float .f32 r5]) hb3 hl3 hl2 rfl rfl (PH.le_refl _) fit40 rfl rfl rfl rfl (idx_some hx2).2.1 ?_
        refine o_nil ?_
        refine e_blk ?_
        refine e_then ?_
        refine c_quiet ?_
        refine ql_s (.int .i64 (addI (i1 : Int) 1)) (by kernel_rfl) ?_
        refine ql_s (.int .i64 (addI (i1 : Int) 1)) (by kernel_rfl) ?_
        refine ql_nil ?_
        obtain rfl := Option.some.inj hx1
        exact e_cut ⟨j1, i1 + 1, l1, by omega, by omega, ⟨rfl, rfl, rfl, (congrArg (Value.int .i64) (addI_succ (by omega))), trivial⟩, hD1, rfl, hs2⟩
    · skip
      rintro φ2 D7 As8 ⟨hI2, hD2, hA8⟩
      subst As8
      replace f0_h1 := f0_h1.mono hD2
      refine e_frame _ hI2 ?_
      refine e_then ?_
      refine c_seq ?_
      refine c_quiet ?_
      refine ql_s (.slice a5 r2.length cp5) (by kernel_rfl) ?_
      refine ql_s (.slice a5 r2.length cp5) (by kernel_rfl) ?_
      refine ql_nil ?_
      refine e_then ?_
      refine c_ret ?_
      refine e_then_ret ?_
      refine e_adr (fun b10 hb4 hl4 hbd3 hcap3 => ?_)
      refine e_layS (PH.le_refl _) (fun D9 hle7 h8 => ?_)
      replace f0_h1 := f0_h1.mono hle7
      obtain rfl := Option.some.inj hp
      exact post_all (vs := [.slice a5 r2.length cp5]) (.slice a5 r2.length cp5) ⟨rfl, trivial⟩ rfl (.inl rfl) (fun w hS => ⟨D9, a5, cp5, (PH.le_trans (PH.le_trans (PH.le_trans (PH.le_trans hle2 hle5) hle6) hD2) hle7), (by simp only [hl4]), (by rw [hl4]; exact h8), (by have h2 : SInv D9 (F) w := hS; simpa only [hl4] using h2)⟩)
  · skip
    replace hp := if_f ht1 hp
    refine c_skip ?_
    refine e_then ?_
    refine c_seq ?_
    obtain ⟨r6, hr6, hp⟩ := bnd_some hp
    refine c_region ?_
    refine l_q rfl (qs_ldpt (encW 5 (by decide)) fitv26 rfl 2 rfl (.agg #[.int .i64 f0.Region.X, .int .i64 f0.Region.Y, .int .i64 f0.Region.W, .int .i64 f0.Region.H, .slice f0_v1a f0.V.length f0_v1c]) (Nat.le_of_ble_eq_true rfl) rfl) ?_
    refine l_s (.slice way0_v1a way0.length way0_v1c) (by kernel_rfl) ?_
    refine l_call rfl rfl Try.call20 (vs := [.agg #[.int .i64 f0.Region.X, .int .i64 f0.Region.Y, .int .i64 f0.Region.W, .int .i64 f0.Region.H, .slice f0_v1a f0.V.length f0_v1c], .slice way0_v1a way0.length way0_v1c]) rfl (fun v D11 As10 => ∃ (a8 : Option Addr) (cp8 : Nat), PH.le D2 D11 ∧ v = .slice a8 r6.length cp8 ∧ As10 = OwnS D11 (encF .f32) 40 (.slice a8 r6.length cp8) r6 :: pt b6 [.float .f32 grade0] 40 :: pt b5 [.int .i64 how0] 3 :: pt b4 [.int .i64 f0.Region.X, .int .i64 f0.Region.Y, .int .i64 f0.Region.W, .int .i64 f0.Region.H, .slice f0_v1a f0.V.length f0_v1c] 26 :: F) (fun w hS => (tarnref2_Values_v1_s f0 f0_v1a f0_v1c way0 way0_v1a way0_v1c _ f0_h1 way0_h1 _ _ hr6 w (hS)).mono fun e w' ⟨D11, a8, cp8, hle9, he, hS2⟩ => ⟨_, D11, _, he, ⟨a8, cp8, hle9, rfl, rfl⟩, hS2⟩) ?_
    rintro _ D11 As10 ⟨a8, cp8, hle9, rfl, hA10⟩
    subst As10
    replace way0_h1 := way0_h1.mono hle9
    replace h2 := h2.mono hle9
    replace f0_h1 := f0_h1.mono hle9
    refine l_alloc (zs := [.slice none 0 0]) rfl (by kernel_rfl) (fun b12 => ?_)
    refine l_nilS D11 (encF .f32) 40 ?_
    refine l_perm (fr1_perm 1 _) ?_
    refine l_store (dd := none) (vs := [.slice a8 r6.length cp8]) (cs' := [.slice a8 r6.length cp8]) rfl (by kernel_rfl) (by kernel_rfl) rfl rfl (Nat.le_of_ble_eq_true rfl) rfl rfl ?_
    refine l_nil ?_
    refine e_perm (fr1_perm 1 _) ?_
    refine e_drop ?_
    refine e_perm (fr1_perm 4 _) ?_
    refine e_drop ?_
    refine e_then ?_
    refine c_seq ?_
    refine c_quiet ?_
    refine ql_s (.func (.func 58) #[] #[.pointer (some ⟨b6, 0, none⟩), .pointer (some ⟨b5, 0, none⟩), .pointer (some ⟨b12, 0, none⟩)]) (by kernel_rfl) ?_
    refine ql_s (.func (.func 58) #[] #[.pointer (some ⟨b6, 0, none⟩), .pointer (some ⟨b5, 0, none⟩), .pointer (some ⟨b12, 0, none⟩)]) (by kernel_rfl) ?_
    refine ql_nil ?_
    refine e_then ?_
    refine c_seq ?_
    refine c_seq ?_
    refine c_quiet ?_
    refine ql_s (.int .i64 1) (by kernel_rfl) ?_
    refine ql_nil ?_
    refine e_then ?_
    obtain ⟨x4, hs3, hp⟩ := bnd_some hp
    obtain ⟨body2, hbody2, hs3⟩ := loopP_gen hs3
    refine c_cut_end (fun φ1 D12 As1 => Is φ1 [(9, .slice a2 r1.length cp2), (13, .pointer (some ⟨b12, 0, none⟩)), (14, .func (.func 58) #[] #[.pointer (some ⟨b6, 0, none⟩), .pointer (some ⟨b5, 0, none⟩), .pointer (some ⟨b12, 0, none⟩)])] ∧ PH.le D11 D12 ∧ As1 = pt b12 [.slice a8 r6.length cp8] 24 :: OwnS D12 (encF .f32) 40 (.slice a8 r6.length cp8) x4 :: pt b6 [.float .f32 grade0] 40 :: pt b5 [.int .i64 how0] 3 :: F) ?_ ?_
    · skip
      refine c_block ?_
      refine c_perm (fr1_perm 3 _) ?_
      refine c_perm (fr1_perm 3 _) ?_
      refine c_perm (fr1_perm 3 _) ?_
      refine c_perm (fr1_perm 3 _) ?_
      obtain ⟨kz1, hs3⟩ := loopP_ex hs3
      refine c_loop (fun k φ1 D13 As1 => ∃ (s2 : Int × (List Nat)), Is φ1 [(9, .slice a2 r1.length cp2), (13, .pointer (some ⟨b12, 0, none⟩)), (14, .func (.func 58) #[] #[.pointer (some ⟨b6, 0, none⟩), .pointer (some ⟨b5, 0, none⟩), .pointer (some ⟨b12, 0, none⟩)]), (15, .int .i64 s2.1)] ∧ PH.le D11 D13 ∧ As1 = pt b12 [.slice a8 r6.length cp8] 24 :: OwnS D13 (encF .f32) 40 (.slice a8 r6.length cp8) s2.2 :: pt b6 [.float .f32 grade0] 40 :: pt b5 [.int .i64 how0] 3 :: F ∧ iter body2 k s2 = some x4) ⟨kz1, (1, r6), ⟨rfl, rfl, rfl, rfl, trivial⟩, (PH.le_refl _), rfl, hs3⟩ ?_ ?_
      · rintro _ _ _ ⟨_, _, _, _, h0⟩; cases h0
      intro k2
      rintro φ3 D13 As11 ⟨s2, hI3, hD3, hA11, hs4⟩
      subst As11
      replace h2 := h2.mono hD3
      replace f0_h1 := f0_h1.mono hD3
      refine c_frame _ hI3 ?_
      obtain ⟨y2, hx4, hs4⟩ := iter_some hs4
      replace hx4 := (congrFun hbody2 s2).trans hx4
      refine c_seq ?_
      refine c_seq ?_
      refine c_quiet ?_
      refine ql_s (.int .i64 s2.1) (by kernel_rfl) ?_
      refine ql_q rfl (qs_ldpt encV fitv24 rfl 0 rfl (.slice a8 r6.length cp8) (Nat.le_of_ble_eq_true rfl) rfl) ?_
      refine ql_s (.int .i64 (r6.length : Int)) (by kernel_rfl) ?_
      refine ql_s (.bool (decide (s2.1 < (r6.length : Int)))) (by kernel_rfl) ?_
      refine ql_nil ?_
      refine e_then ?_
      refine c_cond (decide (s2.1 < (r6.length : Int))) rfl (fun ht4 => ?_) (fun ht4 => ?_)
      · skip
        replace hx4 := if_t ht4 hx4
        refine c_skip ?_
        refine e_then ?_
        refine c_seq ?_
        refine c_block ?_
        obtain ⟨x5, hx5, hx4⟩ := bnd_some hx4
        obtain ⟨b13, o2, h11, hq2⟩ := RO.at h2 hx5
        obtain ⟨r7, hr7, hx4⟩ := bnd_some hx4
        refine c_perm (fr1_perm 1 _) ?_
        refine c_adr (fun b14 hb5 hl5 hbd4 hcap4 => ?_)
        refine c_region ?_
        refine l_s (.func (.func 58) #[] #[.pointer (some ⟨b6, 0, none⟩), .pointer (some ⟨b5, 0, none⟩), .pointer (some ⟨b12, 0, none⟩)]) (by kernel_rfl) ?_
        refine l_s (.int .i64 s2.1) (by kernel_rfl) ?_
        refine l_s (.int .i64 s2.1) (by kernel_rfl) ?_
        refine l_s (.int .i64 (subI s2.1 1)) (by kernel_rfl) ?_
        refine l_s (.slice a2 r1.length cp2) (by kernel_rfl) ?_
        refine l_s (.int .i64 s2.1) (by kernel_rfl) ?_
        refine l_s (.int .i64 (subI s2.1 1)) (by kernel_rfl) ?_
        refine l_q rfl (qs_idx hq2 Try.underlying24 fit40 rfl rfl) ?_
        refine l_q rfl (qs_ldAtV fit40 rfl h11 valF) ?_
        refine l_call rfl rfl Try.call58 (vs := [.int .i64 s2.1, .int .i64 (subI s2.1 1), .float .f32 x5, .pointer (some ⟨b6, 0, none⟩), .pointer (some ⟨b5, 0, none⟩), .pointer (some ⟨b12, 0, none⟩)]) rfl (fun v D15 As13 => PH.le D13 D15 ∧ v = .tuple #[] ∧ As13 = pt b6 [.float .f32 grade0] 40 :: pt b5 [.int .i64 how0] 3 :: pt b12 [.slice a8 r6.length cp8] 24 :: OwnS D15 (encF .f32) 40 (.slice a8 r6.length cp8) r7 :: F) (fun w hS => (show Calls Try.prog 58 #[.int .i64 s2.1, .int .i64 (subI s2.1 1), .float .f32 x5, .pointer (some ⟨b6, 0, none⟩), .pointer (some ⟨b5, 0, none⟩), .pointer (some ⟨b12, 0, none⟩)] w (fun e w' => ∃ (D15 : PH) , PH.le D13 D15 ∧ e = .returned (.tuple #[]) ∧ SInv D15 (pt b6 [.float .f32 grade0] 40 :: pt b5 [.int .i64 how0] 3 :: pt b12 [.slice a8 r6.length cp8] 24 :: OwnS D15 (encF .f32) 40 (.slice a8 r6.length cp8) r7 :: F) w') from by have hq := tarnref2_BedOf_1_s s2.1 (subI s2.1 1) x5 b6 grade0 b5 how0 b12 s2.2 a8 cp8 _  _ _ hr7 w (show SInv D13 (pt b6 [.float .f32 grade0] 40 :: pt b5 [.int .i64 how0] 3 :: pt b12 [.slice a8 s2.2.length cp8] 24 :: OwnS D13 (encF .f32) 40 (.slice a8 s2.2.length cp8) s2.2 :: F) w from by have h2 : SInv D13 (pt b6 [.float .f32 grade0] 40 :: pt b5 [.int .i64 how0] 3 :: pt b12 [.slice a8 r6.length cp8] 24 :: OwnS D13 (encF .f32) 40 (.slice a8 r6.length cp8) s2.2 :: F) w := (((hS.perm (fr1_perm 0 _)).perm (fr1_perm 1 _)).perm (fr1_perm 3 _)).perm (fr1_perm 3 _); rw [← hl5] at h2; exact h2); (try simp only [hl5] at hq); exact hq).mono fun e w' ⟨D15, hle11, he, hS2⟩ => ⟨_, D15, _, he, ⟨hle11, rfl, rfl⟩, hS2⟩) ?_
        rintro _ D15 As13 ⟨hle11, rfl, hA13⟩
        subst As13
        replace h2 := h2.mono hle11
        replace h11 := h11.mono hle11
        replace f0_h1 := f0_h1.mono hle11
        refine l_nil ?_
        refine e_blk ?_
        refine e_then ?_
        refine c_quiet ?_
        refine ql_s (.int .i64 s2.1) (by kernel_rfl) ?_
        refine ql_s (.int .i64 (addI s2.1 1)) (by kernel_rfl) ?_
        refine ql_s (.int .i64 (addI s2.1 1)) (by kernel_rfl) ?_
        refine ql_nil ?_
        refine e_perm (fr1_perm 1 _) ?_
        refine e_perm (fr1_perm 1 _) ?_
        refine e_perm (fr1_perm 3 _) ?_
        refine e_perm (fr1_perm 3 _) ?_
        obtain rfl := Option.some.inj hx4
        exact e_cut ⟨(addI s2.1 1, r7), ⟨rfl, rfl, rfl, rfl, trivial⟩, (PH.le_trans hD3 hle11), rfl, hs4⟩
      · skip
        replace hx4 := if_f ht4 hx4
        refine c_exit ?_
        refine e_then_exit ?_
        refine e_then_exit ?_
        obtain rfl := Option.some.inj hx4
        obtain rfl := hs4
        refine e_blk_exit ?_
        refine e_perm (fr1_perm 3 _) ?_
        refine e_perm (fr1_perm 3 _) ?_
        refine e_perm (fr1_perm 3 _) ?_
        refine e_perm (fr1_perm 3 _) ?_
        exact e_cut ⟨⟨rfl, rfl, rfl, trivial⟩, hD3, rfl⟩
    · skip
      rintro φ4 D12 As14 ⟨hI4, hD4, hA14⟩
      subst As14
      replace h2 := h2.mono hD4
      replace f0_h1 := f0_h1.mono hD4
      refine e_frame _ hI4 ?_
      refine e_then ?_
      refine c_seq ?_
      refine c_seq ?_
      refine c_quiet ?_
      refine ql_q rfl (qs_ldpt encV fitv24 rfl 0 rfl (.slice a8 r6.length cp8) (Nat.le_of_ble_eq_true rfl) rfl) ?_
      refine ql_s (.int .i64 (r6.length : Int)) (by kernel_rfl) ?_
      refine ql_s (.int .i64 (subI (r6.length : Int) 2)) (by kernel_rfl) ?_
      refine ql_s (.int .i64 (subI (r6.length : Int) 2)) (by kernel_rfl) ?_
      refine ql_nil ?_
      refine e_then ?_
      obtain ⟨x6, hs5, hp⟩ := bnd_some hp
      obtain ⟨body3, hbody3, hs5⟩ := loopP_gen hs5
      refine c_cut_end (fun φ1 D16 As1 => Is φ1 [(13, .pointer (some ⟨b12, 0, none⟩))] ∧ PH.le D12 D16 ∧ As1 = pt b12 [.slice a8 r6.length cp8] 24 :: OwnS D16 (encF .f32) 40 (.slice a8 r6.length cp8) x6 :: pt b6 [.float .f32 grade0] 40 :: pt b5 [.int .i64 how0] 3 :: F) ?_ ?_
      · skip
        refine c_block ?_
        refine c_perm (fr1_perm 3 _) ?_
        refine c_perm (fr1_perm 3 _) ?_
        refine c_perm (fr1_perm 3 _) ?_
        refine c_perm (fr1_perm 3 _) ?_
        obtain ⟨kz2, hs5⟩ := loopP_ex hs5
        refine c_loop (fun k φ1 D17 As1 => ∃ (s3 : Int × (List Nat)), Is φ1 [(9, .slice a2 r1.length cp2), (13, .pointer (some ⟨b12, 0, none⟩)), (14, .func (.func 58) #[] #[.pointer (some ⟨b6, 0, none⟩), .pointer (some ⟨b5, 0, none⟩), .pointer (some ⟨b12, 0, none⟩)]), (16, .int .i64 s3.1)] ∧ PH.le D12 D17 ∧ As1 = pt b12 [.slice a8 r6.length cp8] 24 :: OwnS D17 (encF .f32) 40 (.slice a8 r6.length cp8) s3.2 :: pt b6 [.float .f32 grade0] 40 :: pt b5 [.int .i64 how0] 3 :: F ∧ iter body3 k s3 = some x6) ⟨kz2, (subI (r6.length : Int) 2, x4), ⟨rfl, rfl, rfl, rfl, trivial⟩, (PH.le_refl _), rfl, hs5⟩ ?_ ?_
        · rintro _ _ _ ⟨_, _, _, _, h0⟩; cases h0
        intro k3
        rintro φ5 D17 As15 ⟨s3, hI5, hD5, hA15, hs6⟩
        subst As15
        replace h2 := h2.mono hD5
        replace f0_h1 := f0_h1.mono hD5
        refine c_frame _ hI5 ?_
        obtain ⟨y3, hx6, hs6⟩ := iter_some hs6
        replace hx6 := (congrFun hbody3 s3).trans hx6
        refine c_seq ?_
        refine c_seq ?_
        refine c_quiet ?_
        refine ql_s (.int .i64 s3.1) (by kernel_rfl) ?_
        refine ql_s (.bool (decide (s3.1 ≥ 0))) (by kernel_rfl) ?_
        refine ql_nil ?_
        refine e_then ?_
        refine c_cond (decide (s3.1 ≥ 0)) rfl (fun ht5 => ?_) (fun ht5 => ?_)
        · skip
          replace hx6 := if_t ht5 hx6
          refine c_skip ?_
          refine e_then ?_
          refine c_seq ?_
          refine c_block ?_
          obtain ⟨x7, hx7, hx6⟩ := bnd_some hx6
          obtain ⟨b15, o3, h12, hq3⟩ := RO.at h2 hx7
          obtain ⟨r8, hr8, hx6⟩ := bnd_some hx6
          refine c_perm (fr1_perm 1 _) ?_
          refine c_adr (fun b16 hb6 hl6 hbd5 hcap5 => ?_)
          refine c_region ?_
          refine l_s (.func (.func 58) #[] #[.pointer (some ⟨b6, 0, none⟩), .pointer (some ⟨b5, 0, none⟩), .pointer (some ⟨b12, 0, none⟩)]) (by kernel_rfl) ?_
          refine l_s (.int .i64 s3.1) (by kernel_rfl) ?_
          refine l_s (.int .i64 s3.1) (by kernel_rfl) ?_
          refine l_s (.int .i64 (addI s3.1 1)) (by kernel_rfl) ?_
          refine l_s (.slice a2 r1.length cp2) (by kernel_rfl) ?_
          refine l_s (.int .i64 s3.1) (by kernel_rfl) ?_
          refine l_q rfl (qs_idx hq3 Try.underlying24 fit40 rfl rfl) ?_
          refine l_q rfl (qs_ldAtV fit40 rfl h12 valF) ?_
          refine l_call rfl rfl Try.call58 (vs := [.int .i64 s3.1, .int .i64 (addI s3.1 1), .float .f32 x7, .pointer (some ⟨b6, 0, none⟩), .pointer (some ⟨b5, 0, none⟩), .pointer (some ⟨b12, 0, none⟩)]) rfl (fun v D19 As17 => PH.le D17 D19 ∧ v = .tuple #[] ∧ As17 = pt b6 [.float .f32 grade0] 40 :: pt b5 [.int .i64 how0] 3 :: pt b12 [.slice a8 r6.length cp8] 24 :: OwnS D19 (encF .f32) 40 (.slice a8 r6.length cp8) r8 :: F) (fun w hS => (show Calls Try.prog 58 #[.int .i64 s3.1, .int .i64 (addI s3.1 1), .float .f32 x7, .pointer (some ⟨b6, 0, none⟩), .pointer (some ⟨b5, 0, none⟩), .pointer (some ⟨b12, 0, none⟩)] w (fun e w' => ∃ (D19 : PH) , PH.le D17 D19 ∧ e = .returned (.tuple #[]) ∧ SInv D19 (pt b6 [.float .f32 grade0] 40 :: pt b5 [.int .i64 how0] 3 :: pt b12 [.slice a8 r6.length cp8] 24 :: OwnS D19 (encF .f32) 40 (.slice a8 r6.length cp8) r8 :: F) w') from by have hq := tarnref2_BedOf_1_s s3.1 (addI s3.1 1) x7 b6 grade0 b5 how0 b12 s3.2 a8 cp8 _  _ _ hr8 w (show SInv D17 (pt b6 [.float .f32 grade0] 40 :: pt b5 [.int .i64 how0] 3 :: pt b12 [.slice a8 s3.2.length cp8] 24 :: OwnS D17 (encF .f32) 40 (.slice a8 s3.2.length cp8) s3.2 :: F) w from by have h2 : SInv D17 (pt b6 [.float .f32 grade0] 40 :: pt b5 [.int .i64 how0] 3 :: pt b12 [.slice a8 r6.length cp8] 24 :: OwnS D17 (encF .f32) 40 (.slice a8 r6.length cp8) s3.2 :: F) w := (((hS.perm (fr1_perm 0 _)).perm (fr1_perm 1 _)).perm (fr1_perm 3 _)).perm (fr1_perm 3 _); rw [← hl6] at h2; exact h2); (try simp only [hl6] at hq); exact hq).mono fun e w' ⟨D19, hle13, he, hS2⟩ => ⟨_, D19, _, he, ⟨hle13, rfl, rfl⟩, hS2⟩) ?_
          rintro _ D19 As17 ⟨hle13, rfl, hA17⟩
          subst As17
          replace h2 := h2.mono hle13
          replace h12 := h12.mono hle13
          replace f0_h1 := f0_h1.mono hle13
          refine l_nil ?_
          refine e_blk ?_
          refine e_then ?_
          refine c_quiet ?_
          refine ql_s (.int .i64 s3.1) (by kernel_rfl) ?_
          refine ql_s (.int .i64 (subI s3.1 1)) (by kernel_rfl) ?_
          refine ql_s (.int .i64 (subI s3.1 1)) (by kernel_rfl) ?_
          refine ql_nil ?_
          refine e_perm (fr1_perm 1 _) ?_
          refine e_perm (fr1_perm 1 _) ?_
          refine e_perm (fr1_perm 3 _) ?_
          refine e_perm (fr1_perm 3 _) ?_
          obtain rfl := Option.some.inj hx6
          exact e_cut ⟨(subI s3.1 1, r8), ⟨rfl, rfl, rfl, rfl, trivial⟩, (PH.le_trans hD5 hle13), rfl, hs6⟩
        · skip
          replace hx6 := if_f ht5 hx6
          refine c_exit ?_
          refine e_then_exit ?_
          refine e_then_exit ?_
          obtain rfl := Option.some.inj hx6
          obtain rfl := hs6
          refine e_blk_exit ?_
          refine e_perm (fr1_perm 3 _) ?_
          refine e_perm (fr1_perm 3 _) ?_
          refine e_perm (fr1_perm 3 _) ?_
          refine e_perm (fr1_perm 3 _) ?_
          exact e_cut ⟨⟨rfl, trivial⟩, hD5, rfl⟩
      · skip
        rintro φ6 D16 As18 ⟨hI6, hD6, hA18⟩
        subst As18
        replace f0_h1 := f0_h1.mono hD6
        refine e_frame _ hI6 ?_
        refine e_then ?_
        refine c_seq ?_
        refine c_quiet ?_
        refine ql_q rfl (qs_ldpt encV fitv24 rfl 0 rfl (.slice a8 r6.length cp8) (Nat.le_of_ble_eq_true rfl) rfl) ?_
        refine ql_s (.slice a8 r6.length cp8) (by kernel_rfl) ?_
        refine ql_nil ?_
        refine e_drop ?_
        refine e_perm (fr1_perm 1 _) ?_
        refine e_drop ?_
        refine e_perm (fr1_perm 1 _) ?_
        refine e_drop ?_
        refine e_then ?_
        refine c_ret ?_
        refine e_adr (fun b17 hb7 hl7 hbd6 hcap6 => ?_)
        refine e_layS (PH.le_refl _) (fun D20 hle14 h13 => ?_)
        replace f0_h1 := f0_h1.mono hle14
        obtain rfl := Option.some.inj hp
        exact post_all (vs := [.slice a8 r6.length cp8]) (.slice a8 r6.length cp8) ⟨rfl, trivial⟩ rfl (.inl rfl) (fun w hS => ⟨D20, a8, cp8, (PH.le_trans (PH.le_trans (PH.le_trans (PH.le_trans hle2 hle9) hD4) hD6) hle14), (by simp only [hl7]), (by rw [hl7]; exact h13), (by have h2 : SInv D20 (F) w := hS; simpa only [hl7] using h2)⟩)

-- tarnfell/tarnlaw2.bits$1
set_option maxRecDepth 100000 in
set_option maxHeartbeats 4000000 in
theorem tarnlaw2_bits_1_s (x0 : Nat) (y0 : Nat) (D : PH)  (F : List Assert) (r : Bool) (hp : tarnlaw2_bits_1_p x0 y0 = some r) : ∀ w : World, SInv D (F) w → Calls Try.prog 60 #[.float .f32 x0, .float .f32 y0] w (fun e w' => e = .returned (.bool r) ∧ SInv D (F) w') := by
  intro w hS
  refine call_intro Try.func60 rfl Try.ntmps60 (Nat.le_of_ble_eq_true rfl) hS ?_
  clear hS w
  unfold tarnlaw2_bits_1_p at hp
  refine c_seq ?_
  refine c_quiet ?_
  refine ql_s (.bool false) (by kernel_rfl) ?_
  refine ql_nil ?_
  refine e_then ?_
  refine c_seq ?_
  refine c_quiet ?_
  refine ql_s (.float .f32 x0) (by kernel_rfl) ?_
  refine ql_q rfl (qs_extern Try.func57 rfl rfl (by kernel_rfl) ext57 (vs := [.float .f32 x0]) rfl (fun w => rfl)) ?_
  refine ql_s (.float .f32 y0) (by kernel_rfl) ?_
  refine ql_q rfl (qs_extern Try.func57 rfl rfl (by kernel_rfl) ext57 (vs := [.float .f32 y0]) rfl (fun w => rfl)) ?_
  refine ql_s (.bool ((x0 : Int) == (y0 : Int))) (by kernel_rfl) ?_
  refine ql_s (.bool ((x0 : Int) == (y0 : Int))) (by kernel_rfl) ?_
  refine ql_nil ?_
  refine e_then ?_
  refine c_ret ?_
  obtain rfl := Option.some.inj hp
  exact post_all (vs := [.bool ((x0 : Int) == (y0 : Int))]) (.bool ((x0 : Int) == (y0 : Int))) ⟨rfl, trivial⟩ rfl (.inl rfl) (fun w hS => ⟨rfl, hS⟩)

-- slices.EqualFunc[[]float32,[]float32,float32,float32]
set_option maxRecDepth 100000 in
set_option maxHeartbeats 4000000 in
theorem slices_EqualFunc_float32_float32_float32_float32_s (s10 : List Nat) (s10_v1a : Option Addr) (s10_v1c : Nat) (s20 : List Nat) (s20_v1a : Option Addr) (s20_v1c : Nat) (D : PH) (s10_h1 : RO (encF .f32) D (.slice s10_v1a s10.length s10_v1c) s10) (s20_h1 : RO (encF .f32) D (.slice s20_v1a s20.length s20_v1c) s20) (F : List Assert) (r : Bool) (hp : slices_EqualFunc_float32_float32_float32_float32_p s10 s20 = some r) : ∀ w : World, SInv D (F) w → Calls Try.prog 59 #[.slice s10_v1a s10.length s10_v1c, .slice s20_v1a s20.length s20_v1c, .func (.func 60) #[] #[]] w (fun e w' => e = .returned (.bool r) ∧ SInv D (F) w') := by
  intro w hS
  refine call_intro Try.func59 rfl Try.ntmps59 (Nat.le_of_ble_eq_true rfl) hS ?_
  clear hS w
  unfold slices_EqualFunc_float32_float32_float32_float32_p at hp
  refine c_seq ?_
  refine c_quiet ?_
  refine ql_s (.bool false) (by kernel_rfl) ?_
  refine ql_nil ?_
  refine e_then ?_
  refine c_seq ?_
  refine c_seq ?_
  refine c_quiet ?_
  refine ql_s (.slice s10_v1a s10.length s10_v1c) (by kernel_rfl) ?_
  refine ql_s (.int .i64 (s10.length : Int)) (by kernel_rfl) ?_
  refine ql_s (.slice s20_v1a s20.length s20_v1c) (by kernel_rfl) ?_
  refine ql_s (.int .i64 (s20.length : Int)) (by kernel_rfl) ?_
  refine ql_s (.bool ((s10.length : Int) != (s20.length : Int))) (by kernel_rfl) ?_
  refine ql_nil ?_
  refine e_then ?_
  refine c_cond (((s10.length : Int) != (s20.length : Int))) rfl (fun ht1 => ?_) (fun ht1 => ?_)
  · skip
    replace hp := if_t ht1 hp
    refine c_seq ?_
    refine c_quiet ?_
    refine ql_s (.bool false) (by kernel_rfl) ?_
    refine ql_nil ?_
    refine e_then ?_
    refine c_ret ?_
    refine e_then_ret ?_
    obtain rfl := Option.some.inj hp
    exact post_all (vs := [.bool false]) (.bool false) ⟨rfl, trivial⟩ rfl (.inl rfl) (fun w hS => ⟨rfl, hS⟩)
  · skip
    replace hp := if_f ht1 hp
    refine c_skip ?_
    refine e_then ?_
    refine c_seq ?_
    refine c_seq ?_
    refine c_quiet ?_
    refine ql_s (.slice s10_v1a s10.length s10_v1c) (by kernel_rfl) ?_
    refine ql_s (.int .i64 (s10.length : Int)) (by kernel_rfl) ?_
    refine ql_s (.int .i64 0) (by kernel_rfl) ?_
    refine ql_nil ?_
    refine e_then ?_
    have hb0 : (s10.length : Int) ≤ 4611686018427387904 := by have := RO.bound s10_h1; omega
    have hm0 : s10.length = (s10.length : Int).toNat := by omega
    have hm1 := hm0; have hb1 := hb0; clear hm0 hb0
    obtain ⟨x1, hs1, hp⟩ := bnd_some hp
    obtain ⟨body1, hbody1, hs1⟩ := forI_gen hs1
    refine c_cut_end (fun φ1 D1 As1 => ∃ (s1 : Unit), x1 = .go s1 ∧ Is φ1 [] ∧ PH.le D D1 ∧ As1 = F) ?_ ?_
    · skip
      refine c_block ?_
      refine c_loop (fun k φ1 D2 As1 => ∃ (j1 i1 : Nat) (s2 : Unit), k = j1 + 1 ∧ i1 + j1 = s10.length ∧ Is φ1 [(1, .slice s20_v1a s20.length s20_v1c), (2, .func (.func 60) #[] #[]), (15, .slice s10_v1a s10.length s10_v1c), (16, .int .i64 (s10.length : Int)), (17, .int .i64 (i1 : Int))] ∧ PH.le D D2 ∧ As1 = F ∧ forI body1 j1 i1 s2 = some x1) ⟨s10.length + 1, s10.length, 0, (), rfl, Nat.zero_add _, ⟨rfl, rfl, rfl, rfl, rfl, trivial⟩, (PH.le_refl _), rfl, hs1⟩ ?_ ?_
      · rintro _ _ _ ⟨_, _, _, h0, _⟩; omega
      intro k1
      rintro φ1 D2 As1 ⟨j1, i1, s2, hk1, hij1, hI1, hD1, hA1, hs2⟩
      subst As1
      replace s20_h1 := s20_h1.mono hD1
      replace s10_h1 := s10_h1.mono hD1
      refine c_frame _ hI1 ?_
      obtain rfl : k1 = j1 := by omega
      clear hk1
      rcases k1 with _ | j1
      · skip
        refine c_seq ?_
        refine c_quiet ?_
        refine ql_s (.bool (decide ((i1 : Int) < (s10.length : Int)))) (by kernel_rfl) ?_
        refine ql_nil ?_
        refine e_then ?_
        refine c_seq ?_
        refine c_cond (decide ((i1 : Int) < (s10.length : Int))) rfl (fun ht2 => absurd ((dec_lt_f hm1 (by omega)).symm.trans ht2) (by simp)) (fun _ => ?_)
        refine c_exit ?_
        refine e_then_exit ?_
        refine e_then_exit ?_
        obtain rfl := Option.some.inj hs2
        refine e_blk_exit ?_
        exact e_cut ⟨(), rfl, trivial, hD1, rfl⟩
      · skip
        obtain ⟨y1, hx1, hs2⟩ := forI_some hs2
        replace hx1 := (congrFun (congrFun hbody1 i1) s2).trans hx1
        refine c_seq ?_
        refine c_quiet ?_
        refine ql_s (.bool (decide ((i1 : Int) < (s10.length : Int)))) (by kernel_rfl) ?_
        refine ql_nil ?_
        refine e_then ?_
        refine c_seq ?_
        refine c_cond (decide ((i1 : Int) < (s10.length : Int))) rfl (fun _ => ?_) (fun ht3 => absurd ((dec_lt_t hm1 (by omega)).symm.trans ht3) (by simp))
        refine c_skip ?_
        refine e_then ?_
        refine c_seq ?_
        refine c_block ?_
        refine c_seq ?_
        obtain ⟨x2, hx2, hx1⟩ := bnd_some hx1
        obtain ⟨b1, o1, h1, hq1⟩ := RO.at s10_h1 hx2
        refine c_quiet ?_
        refine ql_s (.int .i64 (i1 : Int)) (by kernel_rfl) ?_
        refine ql_q rfl (qs_idx hq1 Try.underlying24 fit40 rfl rfl) ?_
        refine ql_q rfl (qs_ldAtV fit40 rfl h1 valF) ?_
        refine ql_s (.int .i64 (i1 : Int)) (by kernel_rfl) ?_
        refine ql_s (.float .f32 x2) (by kernel_rfl) ?_
        refine ql_nil ?_
        refine e_then ?_
        refine c_seq ?_
        obtain ⟨x3, hx3, hx1⟩ := bnd_some hx1
        obtain ⟨b2, o2, h2, hq2⟩ := RO.at s20_h1 hx3
        refine c_quiet ?_
        refine ql_s (.slice s20_v1a s20.length s20_v1c) (by kernel_rfl) ?_
        refine ql_s (.int .i64 (i1 : Int)) (by kernel_rfl) ?_
        refine ql_q rfl (qs_idx hq2 Try.underlying24 fit40 rfl rfl) ?_
        refine ql_q rfl (qs_ldAtV fit40 rfl h2 valF) ?_
        refine ql_s (.float .f32 x3) (by kernel_rfl) ?_
        refine ql_nil ?_
        refine e_then ?_
        refine c_seq ?_
        obtain ⟨r1, hr1, hx1⟩ := bnd_some hx1
        refine c_quiet ?_
        refine ql_s (.func (.func 60) #[] #[]) (by kernel_rfl) ?_
        refine ql_s (.float .f32 x2) (by kernel_rfl) ?_
        refine ql_s (.float .f32 x3) (by kernel_rfl) ?_
        refine ql_call (v := .bool r1) rfl (run_call (vs := [.float .f32 x2, .float .f32 x3]) rfl Try.call60 rfl) (fun w hS => (tarnlaw2_bits_1_s x2 x3 _  _ _ hr1 w (hS)).mono fun e w' h => ⟨h.1, h.2⟩) ?_
        refine ql_s (.bool (!r1)) (by kernel_rfl) ?_
        refine ql_nil ?_
        refine e_then ?_
        refine c_cond (!r1) rfl (fun ht4 => ?_) (fun ht4 => ?_)
        · skip
          replace hx1 := if_t ht4 hx1
          refine c_seq ?_
          refine c_quiet ?_
          refine ql_s (.bool false) (by kernel_rfl) ?_
          refine ql_nil ?_
          refine e_then ?_
          refine c_ret ?_
          refine e_blk_ret ?_
          refine e_then_ret ?_
          refine e_then_ret ?_
          obtain rfl := Option.some.inj hx1
          obtain rfl := hs2
          refine e_blk_ret ?_
          refine e_then_ret ?_
          dsimp only at hp
          refine e_then_ret ?_
          obtain rfl := Option.some.inj hp
          exact post_all (vs := [.bool false]) (.bool false) ⟨rfl, trivial⟩ rfl (.inl rfl) (fun w hS => ⟨rfl, (hS.lower hD1)⟩)
        · skip
          replace hx1 := if_f ht4 hx1
          refine c_skip ?_
          refine e_blk ?_
          refine e_then ?_
          refine c_quiet ?_
          refine ql_s (.int .i64 (addI (i1 : Int) 1)) (by kernel_rfl) ?_
          refine ql_s (.int .i64 (addI (i1 : Int) 1)) (by kernel_rfl) ?_
          refine ql_nil ?_
          obtain rfl := Option.some.inj hx1
          exact e_cut ⟨j1, i1 + 1, (), by omega, by omega, ⟨rfl, rfl, rfl, rfl, (congrArg (Value.int .i64) (addI_succ (by omega))), trivial⟩, hD1, rfl, hs2⟩
    · skip
      rintro φ2 D1 As2 ⟨s1, rfl, hI2, hD2, hA2⟩
      subst As2
      dsimp only at hp
      refine e_frame _ hI2 ?_
      refine e_then ?_
      refine c_seq ?_
      refine c_quiet ?_
      refine ql_s (.bool true) (by kernel_rfl) ?_
      refine ql_nil ?_
      refine e_then ?_
      refine c_ret ?_
      obtain rfl := Option.some.inj hp
      exact post_all (vs := [.bool true]) (.bool true) ⟨rfl, trivial⟩ rfl (.inl rfl) (fun w hS => ⟨rfl, (hS.lower hD2)⟩)

-- tarnfell/tarnlaw2.bits
set_option maxRecDepth 100000 in
set_option maxHeartbeats 4000000 in
theorem tarnlaw2_bits_s (a0 : List Nat) (a0_v1a : Option Addr) (a0_v1c : Nat) (b0 : List Nat) (b0_v1a : Option Addr) (b0_v1c : Nat) (D : PH) (a0_h1 : RO (encF .f32) D (.slice a0_v1a a0.length a0_v1c) a0) (b0_h1 : RO (encF .f32) D (.slice b0_v1a b0.length b0_v1c) b0) (F : List Assert) (r : Bool) (hp : tarnlaw2_bits_p a0 b0 = some r) : ∀ w : World, SInv D (F) w → Calls Try.prog 25 #[.slice a0_v1a a0.length a0_v1c, .slice b0_v1a b0.length b0_v1c] w (fun e w' => e = .returned (.bool r) ∧ SInv D (F) w') := by
  intro w hS
  refine call_intro Try.func25 rfl Try.ntmps25 (Nat.le_of_ble_eq_true rfl) hS ?_
  clear hS w
  unfold tarnlaw2_bits_p at hp
  refine c_seq ?_
  refine c_quiet ?_
  refine ql_s (.bool false) (by kernel_rfl) ?_
  refine ql_nil ?_
  refine e_then ?_
  refine c_seq ?_
  obtain ⟨r1, hr1, hp⟩ := bnd_some hp
  refine c_quiet ?_
  refine ql_s (.slice a0_v1a a0.length a0_v1c) (by kernel_rfl) ?_
  refine ql_s (.slice b0_v1a b0.length b0_v1c) (by kernel_rfl) ?_
  refine ql_call (v := .bool r1) rfl (run_call (vs := [.slice a0_v1a a0.length a0_v1c, .slice b0_v1a b0.length b0_v1c, .func (.func 60) #[] #[]]) rfl Try.call59 rfl) (fun w hS => (slices_EqualFunc_float32_float32_float32_float32_s a0 a0_v1a a0_v1c b0 b0_v1a b0_v1c _ a0_h1 b0_h1 _ _ hr1 w (hS)).mono fun e w' h => ⟨h.1, h.2⟩) ?_
  refine ql_s (.bool r1) (by kernel_rfl) ?_
  refine ql_nil ?_
  refine e_then ?_
  refine c_ret ?_
  obtain rfl := Option.some.inj hp
  exact post_all (vs := [.bool r1]) (.bool r1) ⟨rfl, trivial⟩ rfl (.inl rfl) (fun w hS => ⟨rfl, hS⟩)

-- tarnfell/tarnlaw2.BedsMatch
set_option maxRecDepth 100000 in
set_option maxHeartbeats 4000000 in
theorem tarnlaw2_BedsMatch_s (f0 : S_api_Field) (f0_v1a : Option Addr) (f0_v1c : Nat) (way0 : List S_api_Point) (way0_v1a : Option Addr) (way0_v1c : Nat) (how0 : Int) (grade0 : Nat) (D : PH) (f0_h1 : RO (encF .f32) D (.slice f0_v1a f0.V.length f0_v1c) f0.V) (way0_h1 : RO encS_api_Point D (.slice way0_v1a way0.length way0_v1c) way0) (F : List Assert) (r : Bool) (hp : tarnlaw2_BedsMatch_p f0 way0 how0 grade0 = some r) : ∀ w : World, SInv D (F) w → Calls Try.prog 4 #[.agg #[.int .i64 f0.Region.X, .int .i64 f0.Region.Y, .int .i64 f0.Region.W, .int .i64 f0.Region.H, .slice f0_v1a f0.V.length f0_v1c], .slice way0_v1a way0.length way0_v1c, .int .i64 how0, .float .f32 grade0] w (fun e w' => e = .returned (.bool r) ∧ SInv D (F) w') := by
  intro w hS
  refine call_intro Try.func4 rfl Try.ntmps4 (Nat.le_of_ble_eq_true rfl) hS ?_
  clear hS w
  unfold tarnlaw2_BedsMatch_p at hp
  refine c_seq ?_
  refine c_region ?_
  refine l_box (cs := [.int .i64 f0.Region.X, .int .i64 f0.Region.Y, .int .i64 f0.Region.W, .int .i64 f0.Region.H, .slice f0_v1a f0.V.length f0_v1c]) rfl rfl (fun b2 => ?_)
  refine l_s (.bool false) (by kernel_rfl) ?_
  refine l_nil ?_
  refine e_then ?_
  refine c_seq ?_
  obtain ⟨r1, hr1, hp⟩ := bnd_some hp
  refine c_region ?_
  refine l_q rfl (qs_ldpt (encW 5 (by decide)) fitv26 rfl 0 rfl (.agg #[.int .i64 f0.Region.X, .int .i64 f0.Region.Y, .int .i64 f0.Region.W, .int .i64 f0.Region.H, .slice f0_v1a f0.V.length f0_v1c]) (Nat.le_of_ble_eq_true rfl) rfl) ?_
  refine l_s (.slice way0_v1a way0.length way0_v1c) (by kernel_rfl) ?_
  refine l_s (.int .i64 how0) (by kernel_rfl) ?_
  refine l_s (.float .f32 grade0) (by kernel_rfl) ?_
  refine l_call rfl rfl Try.call18 (vs := [.agg #[.int .i64 f0.Region.X, .int .i64 f0.Region.Y, .int .i64 f0.Region.W, .int .i64 f0.Region.H, .slice f0_v1a f0.V.length f0_v1c], .slice way0_v1a way0.length way0_v1c, .int .i64 how0, .float .f32 grade0]) rfl (fun v D2 As2 => ∃ (a2 : Option Addr) (cp2 : Nat), PH.le D D2 ∧ v = .tuple #[.slice a2 r1.1.length cp2, .int .i64 r1.2] ∧ RO (encF .f32) D2 (.slice a2 r1.1.length cp2) r1.1 ∧ As2 = pt b2 [.int .i64 f0.Region.X, .int .i64 f0.Region.Y, .int .i64 f0.Region.W, .int .i64 f0.Region.H, .slice f0_v1a f0.V.length f0_v1c] 26 :: F) (fun w hS => (road_Bed_s f0 f0_v1a f0_v1c way0 way0_v1a way0_v1c how0 grade0 _ f0_h1 way0_h1 _ _ hr1 w (hS)).mono fun e w' ⟨D2, a2, cp2, hle2, he, h2, hS2⟩ => ⟨_, D2, _, he, ⟨a2, cp2, hle2, rfl, h2, rfl⟩, hS2⟩) ?_
  rintro _ D2 As2 ⟨a2, cp2, hle2, rfl, h2, hA2⟩
  subst As2
  replace way0_h1 := way0_h1.mono hle2
  replace f0_h1 := f0_h1.mono hle2
  refine l_s (.tuple #[.slice a2 r1.1.length cp2, .int .i64 r1.2]) (by kernel_rfl) ?_
  refine l_s (.slice a2 r1.1.length cp2) (by kernel_rfl) ?_
  refine l_s (.int .i64 r1.2) (by kernel_rfl) ?_
  refine l_s (.slice a2 r1.1.length cp2) (by kernel_rfl) ?_
  refine l_s (.int .i64 r1.2) (by kernel_rfl) ?_
  refine l_nil ?_
  refine e_then ?_
  refine c_seq ?_
  obtain ⟨r2, hr2, hp⟩ := bnd_some hp
  refine c_region ?_
  refine l_q rfl (qs_ldpt (encW 5 (by decide)) fitv26 rfl 0 rfl (.agg #[.int .i64 f0.Region.X, .int .i64 f0.Region.Y, .int .i64 f0.Region.W, .int .i64 f0.Region.H, .slice f0_v1a f0.V.length f0_v1c]) (Nat.le_of_ble_eq_true rfl) rfl) ?_
  refine l_s (.slice way0_v1a way0.length way0_v1c) (by kernel_rfl) ?_
  refine l_call rfl rfl Try.call19 (vs := [.agg #[.int .i64 f0.Region.X, .int .i64 f0.Region.Y, .int .i64 f0.Region.W, .int .i64 f0.Region.H, .slice f0_v1a f0.V.length f0_v1c], .slice way0_v1a way0.length way0_v1c]) rfl (fun v D4 As4 => ∃ (a4 : Option Addr) (cp4 : Nat), PH.le D2 D4 ∧ v = .tuple #[.slice a4 r2.1.length cp4, .int .i64 r2.2] ∧ RO (encF .f32) D4 (.slice a4 r2.1.length cp4) r2.1 ∧ As4 = pt b2 [.int .i64 f0.Region.X, .int .i64 f0.Region.Y, .int .i64 f0.Region.W, .int .i64 f0.Region.H, .slice f0_v1a f0.V.length f0_v1c] 26 :: F) (fun w hS => (road_Grades_s f0 f0_v1a f0_v1c way0 way0_v1a way0_v1c _ f0_h1 way0_h1 _ _ hr2 w (hS)).mono fun e w' ⟨D4, a4, cp4, hle4, he, h4, hS2⟩ => ⟨_, D4, _, he, ⟨a4, cp4, hle4, rfl, h4, rfl⟩, hS2⟩) ?_
  rintro _ D4 As4 ⟨a4, cp4, hle4, rfl, h4, hA4⟩
  subst As4
  replace way0_h1 := way0_h1.mono hle4
  replace h2 := h2.mono hle4
  replace f0_h1 := f0_h1.mono hle4
  refine l_s (.tuple #[.slice a4 r2.1.length cp4, .int .i64 r2.2]) (by kernel_rfl) ?_
  refine l_s (.slice a4 r2.1.length cp4) (by kernel_rfl) ?_
  refine l_s (.int .i64 r2.2) (by kernel_rfl) ?_
  refine l_s (.slice a4 r2.1.length cp4) (by kernel_rfl) ?_
  refine l_s (.int .i64 r2.2) (by kernel_rfl) ?_
  refine l_nil ?_
  refine e_then ?_
  refine c_seq ?_
  obtain ⟨r3, hr3, hp⟩ := bnd_some hp
  obtain ⟨r4, hr4, hp⟩ := bnd_some hp
  obtain ⟨r5, hr5, hp⟩ := bnd_some hp
  refine c_region ?_
  refine l_q rfl (qs_ldpt (encW 5 (by decide)) fitv26 rfl 0 rfl (.agg #[.int .i64 f0.Region.X, .int .i64 f0.Region.Y, .int .i64 f0.Region.W, .int .i64 f0.Region.H, .slice f0_v1a f0.V.length f0_v1c]) (Nat.le_of_ble_eq_true rfl) rfl) ?_
  refine l_callq (v := .int .i64 r3) rfl rfl Try.call8 (vs := [.agg #[.int .i64 f0.Region.X, .int .i64 f0.Region.Y, .int .i64 f0.Region.W, .int .i64 f0.Region.H, .slice f0_v1a f0.V.length f0_v1c]]) rfl (fun w hS => (tarnref2_FieldError_s f0 f0_v1a f0_v1c _ f0_h1 _ _ hr3 w (hS)).mono fun e w' h => ⟨h.1, h.2⟩) ?_
  refine l_s (.slice way0_v1a way0.length way0_v1c) (by kernel_rfl) ?_
  refine l_callq (v := .int .i64 r4) rfl rfl Try.call9 (vs := [.pointer (some ⟨b2, 0, none⟩), .slice way0_v1a way0.length way0_v1c]) rfl (fun w hS => (tarnref2_WayError_s b2 f0 f0_v1a f0_v1c way0 way0_v1a way0_v1c _ f0_h1 way0_h1 _ _ hr4 w (hS)).mono fun e w' h => ⟨h.1, h.2⟩) ?_
  refine l_bslS (cs := [.int .i64 r3, .int .i64 r4]) (E := 28) (e := encI .i64) ([r3, r4] : List Int) rfl (by kernel_rfl) rfl rfl (Nat.le_of_ble_eq_true rfl) ⟨rfl, rfl, trivial⟩ (fun b4 cp6 => ?_)
  refine l_callq (v := .int .i64 r5) rfl rfl Try.call7 (vs := [.slice (some ⟨b4, 0, none⟩) ([r3, r4] : List Int).length cp6]) rfl (fun w hS => (calls_thaw (PH.le_refl _) (hS) (fun D0' hLl0 hLr0 hS => (tarnlaw2_first_s ([r3, r4] : List Int) (some ⟨b4, 0, none⟩) cp6 _ hLr0 _ _ hr5 w (hS)).mono fun e w' h => ⟨h.1, h.2⟩)).mono fun e w' h => ⟨h.1, h.2⟩) ?_
  refine l_s (.int .i64 r5) (by kernel_rfl) ?_
  refine l_nil ?_
  refine e_drop ?_
  refine e_then ?_
  refine c_seq ?_
  refine c_seq ?_
  obtain ⟨c1, hc1, hp⟩ := bnd_some hp
  refine c_cutq_end [(1, .slice way0_v1a way0.length way0_v1c), (2, .int .i64 how0), (3, .float .f32 grade0), (4, .pointer (some ⟨b2, 0, none⟩)), (9, .slice a2 r1.1.length cp2), (10, .int .i64 r1.2), (11, .slice a4 r2.1.length cp4), (12, .int .i64 r2.2), (13, .int .i64 r5), (44, .bool c1)] ?_ ?_
  · skip
    refine c_quiet ?_
    obtain ⟨r6, hr6, hc1⟩ := bnd_some hc1
    refine ql_call (v := .bool r6) rfl (run_call (vs := []) rfl Try.call13 rfl) (fun w hS => (tarnlaw2_leads_s  _  _ _ hr6 w (hS)).mono fun e w' h => ⟨h.1, h.2⟩) ?_
    refine ql_s (.bool (!r6)) (by kernel_rfl) ?_
    refine ql_s (.bool (!r6)) (by kernel_rfl) ?_
    refine ql_case 41 (!r6) rfl (fun hg1 => ?_) (fun hg1 => ?_)
    · skip
      replace hc1 := if_t hg1 hc1
      refine ql_s undef (by kernel_rfl) ?_
      refine ql_s undef (by kernel_rfl) ?_
      refine ql_s (.bool true) (by kernel_rfl) ?_
      refine ql_nil (e_cutq ?_)
      obtain rfl := Option.some.inj hc1
      exact ⟨rfl, rfl, rfl, rfl, rfl, rfl, rfl, rfl, rfl, rfl, trivial⟩
    · skip
      replace hc1 := if_f hg1 hc1
      refine ql_s (.int .i64 r5) (by kernel_rfl) ?_
      refine ql_s (.bool (r5 != 0)) (by kernel_rfl) ?_
      refine ql_s (.bool (r5 != 0)) (by kernel_rfl) ?_
      refine ql_nil (e_cutq ?_)
      obtain rfl := Option.some.inj hc1
      exact ⟨rfl, rfl, rfl, rfl, rfl, rfl, rfl, rfl, rfl, rfl, trivial⟩
  intro _
  refine e_then ?_
  refine c_cond (c1) rfl (fun ht1 => ?_) (fun ht1 => ?_)
  · skip
    replace hp := if_t ht1 hp
    refine c_seq ?_
    obtain ⟨c2, hc2, hp⟩ := bnd_some hp
    refine c_cutq_end [(8, .bool c2)] ?_ ?_
    · skip
      refine c_quiet ?_
      obtain ⟨r7, hr7, hc2⟩ := bnd_some hc2
      refine ql_call (v := .bool r7) rfl (run_call (vs := []) rfl Try.call13 rfl) (fun w hS => (tarnlaw2_leads_s  _  _ _ hr7 w (hS)).mono fun e w' h => ⟨h.1, h.2⟩) ?_
      refine ql_s (.bool r7) (by kernel_rfl) ?_
      refine ql_case 46 (r7) rfl (fun hg2 => ?_) (fun hg2 => ?_)
      · skip
        replace hc2 := if_t hg2 hc2
        refine ql_s (.slice a2 r1.1.length cp2) (by kernel_rfl) ?_
        refine ql_s (.int .i64 (r1.1.length : Int)) (by kernel_rfl) ?_
        refine ql_s (.bool ((r1.1.length : Int) == 0)) (by kernel_rfl) ?_
        refine ql_s (.bool ((r1.1.length : Int) == 0)) (by kernel_rfl) ?_
        refine ql_s (.bool ((r1.1.length : Int) == 0)) (by kernel_rfl) ?_
        refine ql_case 51 (((r1.1.length : Int) == 0)) rfl (fun hg3 => ?_) (fun hg3 => ?_)
        · skip
          replace hc2 := if_t hg3 hc2
          refine ql_s (.int .i64 r1.2) (by kernel_rfl) ?_
          refine ql_s (.int .i64 r5) (by kernel_rfl) ?_
          refine ql_s (.bool (r1.2 == r5)) (by kernel_rfl) ?_
          refine ql_s (.bool (r1.2 == r5)) (by kernel_rfl) ?_
          refine ql_s (.bool (r1.2 == r5)) (by kernel_rfl) ?_
          refine ql_case 56 ((r1.2 == r5)) rfl (fun hg4 => ?_) (fun hg4 => ?_)
          · skip
            replace hc2 := if_t hg4 hc2
            refine ql_s (.slice a4 r2.1.length cp4) (by kernel_rfl) ?_
            refine ql_s (.int .i64 (r2.1.length : Int)) (by kernel_rfl) ?_
            refine ql_s (.bool ((r2.1.length : Int) == 0)) (by kernel_rfl) ?_
            refine ql_s (.bool ((r2.1.length : Int) == 0)) (by kernel_rfl) ?_
            refine ql_s (.bool ((r2.1.length : Int) == 0)) (by kernel_rfl) ?_
            refine ql_case 61 (((r2.1.length : Int) == 0)) rfl (fun hg5 => ?_) (fun hg5 => ?_)
            · skip
              replace hc2 := if_t hg5 hc2
              refine ql_s (.int .i64 r2.2) (by kernel_rfl) ?_
              refine ql_s (.int .i64 r5) (by kernel_rfl) ?_
              refine ql_s (.bool (r2.2 == r5)) (by kernel_rfl) ?_
              refine ql_s (.bool (r2.2 == r5)) (by kernel_rfl) ?_
              refine ql_s (.bool (r2.2 == r5)) (by kernel_rfl) ?_
              refine ql_nil (e_cutq ?_)
              obtain rfl := Option.some.inj hc2
              exact ⟨rfl, trivial⟩
            · skip
              replace hc2 := if_f hg5 hc2
              refine ql_s undef (by kernel_rfl) ?_
              refine ql_s undef (by kernel_rfl) ?_
              refine ql_s undef (by kernel_rfl) ?_
              refine ql_s (.bool false) (by kernel_rfl) ?_
              refine ql_s (.bool false) (by kernel_rfl) ?_
              refine ql_nil (e_cutq ?_)
              obtain rfl := Option.some.inj hc2
              exact ⟨rfl, trivial⟩
          · skip
            replace hc2 := if_f hg4 hc2
            refine ql_s undef (by kernel_rfl) ?_
            refine ql_s undef (by kernel_rfl) ?_
            refine ql_s undef (by kernel_rfl) ?_
            refine ql_s (.bool false) (by kernel_rfl) ?_
            refine ql_s (.bool false) (by kernel_rfl) ?_
            refine ql_s undef (by kernel_rfl) ?_
            refine ql_s undef (by kernel_rfl) ?_
            refine ql_s undef (by kernel_rfl) ?_
            refine ql_s (.bool false) (by kernel_rfl) ?_
            refine ql_s (.bool false) (by kernel_rfl) ?_
            refine ql_nil (e_cutq ?_)
            obtain rfl := Option.some.inj hc2
            exact ⟨rfl, trivial⟩
        · skip
          replace hc2 := if_f hg3 hc2
          refine ql_s undef (by kernel_rfl) ?_
          refine ql_s undef (by kernel_rfl) ?_
          refine ql_s undef (by kernel_rfl) ?_
          refine ql_s (.bool false) (by kernel_rfl) ?_
          refine ql_s (.bool false) (by kernel_rfl) ?_
          refine ql_s undef (by kernel_rfl) ?_
          refine ql_s undef (by kernel_rfl) ?_
          refine ql_s undef (by kernel_rfl) ?_
          refine ql_s (.bool false) (by kernel_rfl) ?_
          refine ql_s (.bool false) (by kernel_rfl) ?_
          refine ql_s undef (by kernel_rfl) ?_
          refine ql_s undef (by kernel_rfl) ?_
          refine ql_s undef (by kernel_rfl) ?_
          refine ql_s (.bool false) (by kernel_rfl) ?_
          refine ql_s (.bool false) (by kernel_rfl) ?_
          refine ql_nil (e_cutq ?_)
          obtain rfl := Option.some.inj hc2
          exact ⟨rfl, trivial⟩
      · skip
        replace hc2 := if_f hg2 hc2
        refine ql_s undef (by kernel_rfl) ?_
        refine ql_s undef (by kernel_rfl) ?_
        refine ql_s undef (by kernel_rfl) ?_
        refine ql_s (.bool false) (by kernel_rfl) ?_
        refine ql_s (.bool false) (by kernel_rfl) ?_
        refine ql_s undef (by kernel_rfl) ?_
        refine ql_s undef (by kernel_rfl) ?_
        refine ql_s undef (by kernel_rfl) ?_
        refine ql_s (.bool false) (by kernel_rfl) ?_
        refine ql_s (.bool false) (by kernel_rfl) ?_
        refine ql_s undef (by kernel_rfl) ?_
        refine ql_s undef (by kernel_rfl) ?_
        refine ql_s undef (by kernel_rfl) ?_
        refine ql_s (.bool false) (by kernel_rfl) ?_
        refine ql_s (.bool false) (by kernel_rfl) ?_
        refine ql_s undef (by kernel_rfl) ?_
        refine ql_s undef (by kernel_rfl) ?_
        refine ql_s undef (by kernel_rfl) ?_
        refine ql_s (.bool false) (by kernel_rfl) ?_
        refine ql_s (.bool false) (by kernel_rfl) ?_
        refine ql_nil (e_cutq ?_)
        obtain rfl := Option.some.inj hc2
        exact ⟨rfl, trivial⟩
    intro _
    refine e_then ?_
    refine c_ret ?_
    refine e_then_ret ?_
    obtain rfl := Option.some.inj hp
    exact post_all (vs := [.bool c2]) (.bool c2) ⟨rfl, trivial⟩ rfl (.inl rfl) (fun w hS => ⟨rfl, (hS.tail.lower (PH.le_trans hle2 hle4))⟩)
  · skip
    replace hp := if_f ht1 hp
    refine c_skip ?_
    refine e_then ?_
    refine c_seq ?_
    refine c_region ?_
    refine l_s (.slice none 0 0) (by kernel_rfl) ?_
    refine l_nilS D4 (encF .f32) 40 ?_
    refine l_nil ?_
    refine e_then ?_
    refine c_seq ?_
    obtain ⟨r8, hr8, hp⟩ := bnd_some hp
    refine c_region ?_
    refine l_q rfl (qs_ldpt (encW 5 (by decide)) fitv26 rfl 1 rfl (.agg #[.int .i64 f0.Region.X, .int .i64 f0.Region.Y, .int .i64 f0.Region.W, .int .i64 f0.Region.H, .slice f0_v1a f0.V.length f0_v1c]) (Nat.le_of_ble_eq_true rfl) rfl) ?_
    refine l_s (.slice way0_v1a way0.length way0_v1c) (by kernel_rfl) ?_
    refine l_call rfl rfl Try.call20 (vs := [.agg #[.int .i64 f0.Region.X, .int .i64 f0.Region.Y, .int .i64 f0.Region.W, .int .i64 f0.Region.H, .slice f0_v1a f0.V.length f0_v1c], .slice way0_v1a way0.length way0_v1c]) rfl (fun v D6 As6 => ∃ (a6 : Option Addr) (cp8 : Nat), PH.le D4 D6 ∧ v = .slice a6 r8.length cp8 ∧ RO (encF .f32) D6 (.slice a6 r8.length cp8) r8 ∧ As6 = OwnS D4 (encF .f32) 40 (.slice none 0 0) ([] : List Nat) :: pt b2 [.int .i64 f0.Region.X, .int .i64 f0.Region.Y, .int .i64 f0.Region.W, .int .i64 f0.Region.H, .slice f0_v1a f0.V.length f0_v1c] 26 :: F) (fun w hS => (tarnref2_Values_s f0 f0_v1a f0_v1c way0 way0_v1a way0_v1c _ f0_h1 way0_h1 _ _ hr8 w (hS)).mono fun e w' ⟨D6, a6, cp8, hle6, he, h6, hS2⟩ => ⟨_, D6, _, he, ⟨a6, cp8, hle6, rfl, h6, rfl⟩, hS2⟩) ?_
    rintro _ D6 As6 ⟨a6, cp8, hle6, rfl, h6, hA6⟩
    subst As6
    replace way0_h1 := way0_h1.mono hle6
    replace h2 := h2.mono hle6
    replace h4 := h4.mono hle6
    replace f0_h1 := f0_h1.mono hle6
    refine l_s (.slice a6 r8.length cp8) (by kernel_rfl) ?_
    refine l_nil ?_
    refine e_then ?_
    refine c_seq ?_
    refine c_seq ?_
    obtain ⟨r9, hr9, hp⟩ := bnd_some hp
    refine c_region ?_
    refine l_s (.slice way0_v1a way0.length way0_v1c) (by kernel_rfl) ?_
    refine l_call rfl rfl Try.call21 (vs := [.slice way0_v1a way0.length way0_v1c]) rfl (fun v D8 As8 => ∃ (a8 : Option Addr) (cp10 : Nat), PH.le D6 D8 ∧ v = .slice a8 r9.length cp10 ∧ RO (encF .f32) D8 (.slice a8 r9.length cp10) r9 ∧ As8 = OwnS D4 (encF .f32) 40 (.slice none 0 0) ([] : List Nat) :: pt b2 [.int .i64 f0.Region.X, .int .i64 f0.Region.Y, .int .i64 f0.Region.W, .int .i64 f0.Region.H, .slice f0_v1a f0.V.length f0_v1c] 26 :: F) (fun w hS => (tarnref2_Lengths_s way0 way0_v1a way0_v1c _ way0_h1 _ _ hr9 w (hS)).mono fun e w' ⟨D8, a8, cp10, hle8, he, h8, hS2⟩ => ⟨_, D8, _, he, ⟨a8, cp10, hle8, rfl, h8, rfl⟩, hS2⟩) ?_
    rintro _ D8 As8 ⟨a8, cp10, hle8, rfl, h8, hA8⟩
    subst As8
    replace way0_h1 := way0_h1.mono hle8
    replace h2 := h2.mono hle8
    replace h4 := h4.mono hle8
    replace h6 := h6.mono hle8
    replace f0_h1 := f0_h1.mono hle8
    refine l_s (.int .i64 (r9.length : Int)) (by kernel_rfl) ?_
    refine l_s (.int .i64 0) (by kernel_rfl) ?_
    refine l_nil ?_
    refine e_then ?_
    have hb0 : (r9.length : Int) ≤ 4611686018427387904 := by have := RO.bound h8; omega
    have hm0 : r9.length = (r9.length : Int).toNat := by omega
    have hm1 := hm0; have hb1 := hb0; clear hm0 hb0
    obtain ⟨x1, hs1, hp⟩ := bnd_some hp
    obtain ⟨body1, hbody1, hs1⟩ := forS_gen hs1
    refine c_cut_end (fun φ1 D9 As1 => ∃ (a9 : Option Addr) (cp11 : Nat), Is φ1 [(1, .slice way0_v1a way0.length way0_v1c), (2, .int .i64 how0), (3, .float .f32 grade0), (4, .pointer (some ⟨b2, 0, none⟩)), (9, .slice a2 r1.1.length cp2), (10, .int .i64 r1.2), (11, .slice a4 r2.1.length cp4), (12, .int .i64 r2.2), (14, .slice a9 x1.length cp11)] ∧ PH.le D8 D9 ∧ As1 = OwnS D9 (encF .f32) 40 (.slice a9 x1.length cp11) x1 :: pt b2 [.int .i64 f0.Region.X, .int .i64 f0.Region.Y, .int .i64 f0.Region.W, .int .i64 f0.Region.H, .slice f0_v1a f0.V.length f0_v1c] 26 :: F) ?_ ?_
    · skip
      refine c_block ?_
      refine c_perm (fr1_perm 1 _) ?_
      refine c_perm (fr1_perm 1 _) ?_
      refine c_imp (OwnS.mono (PH.le_trans hle6 hle8)) ?_
      refine c_loop (fun k φ1 D10 As1 => ∃ (j1 i1 : Nat) (s1 : (List Nat)) (a10 : Option Addr) (cp12 : Nat), k = j1 + 1 ∧ i1 + j1 = r9.length ∧ Is φ1 [(1, .slice way0_v1a way0.length way0_v1c), (2, .int .i64 how0), (3, .float .f32 grade0), (4, .pointer (some ⟨b2, 0, none⟩)), (9, .slice a2 r1.1.length cp2), (10, .int .i64 r1.2), (11, .slice a4 r2.1.length cp4), (12, .int .i64 r2.2), (14, .slice a10 s1.length cp12), (15, .slice a6 r8.length cp8), (70, .slice a8 r9.length cp10), (71, .int .i64 (r9.length : Int)), (72, .int .i64 (i1 : Int))] ∧ PH.le D8 D10 ∧ As1 = OwnS D10 (encF .f32) 40 (.slice a10 s1.length cp12) s1 :: pt b2 [.int .i64 f0.Region.X, .int .i64 f0.Region.Y, .int .i64 f0.Region.W, .int .i64 f0.Region.H, .slice f0_v1a f0.V.length f0_v1c] 26 :: F ∧ forS body1 j1 i1 s1 = some x1) ⟨r9.length + 1, r9.length, 0, ([] : List Nat), none, 0, rfl, Nat.zero_add _, ⟨rfl, rfl, rfl, rfl, rfl, rfl, rfl, rfl, rfl, rfl, rfl, rfl, rfl, trivial⟩, (PH.le_refl _), rfl, hs1⟩ ?_ ?_
      · rintro _ _ _ ⟨_, _, _, _, _, h0, _⟩; omega
      intro k1
      rintro φ1 D10 As9 ⟨j1, i1, s1, a10, cp12, hk1, hij1, hI1, hD1, hA9, hs2⟩
      subst As9
      replace way0_h1 := way0_h1.mono hD1
      replace h2 := h2.mono hD1
      replace h4 := h4.mono hD1
      replace h6 := h6.mono hD1
      replace h8 := h8.mono hD1
      replace f0_h1 := f0_h1.mono hD1
      refine c_frame _ hI1 ?_
      obtain rfl : k1 = j1 := by omega
      clear hk1
      rcases k1 with _ | j1
      · skip
        refine c_seq ?_
        refine c_quiet ?_
        refine ql_s (.bool (decide ((i1 : Int) < (r9.length : Int)))) (by kernel_rfl) ?_
        refine ql_nil ?_
        refine e_then ?_
        refine c_seq ?_
        refine c_cond (decide ((i1 : Int) < (r9.length : Int))) rfl (fun ht2 => absurd ((dec_lt_f hm1 (by omega)).symm.trans ht2) (by simp)) (fun _ => ?_)
        refine c_exit ?_
        refine e_then_exit ?_
        refine e_then_exit ?_
        obtain rfl := Option.some.inj hs2
        refine e_blk_exit ?_
        refine e_perm (fr1_perm 1 _) ?_
        refine e_perm (fr1_perm 1 _) ?_
        exact e_cut ⟨a10, cp12, ⟨rfl, rfl, rfl, rfl, rfl, rfl, rfl, rfl, rfl, trivial⟩, hD1, rfl⟩
      · skip
        obtain ⟨y1, hx1, hs2⟩ := forS_some hs2
        replace hx1 := (congrFun (congrFun hbody1 i1) s1).trans hx1
        refine c_seq ?_
        refine c_quiet ?_
        refine ql_s (.bool (decide ((i1 : Int) < (r9.length : Int)))) (by kernel_rfl) ?_
        refine ql_nil ?_
        refine e_then ?_
        refine c_seq ?_
        refine c_cond (decide ((i1 : Int) < (r9.length : Int))) rfl (fun _ => ?_) (fun ht3 => absurd ((dec_lt_t hm1 (by omega)).symm.trans ht3) (by simp))
        refine c_skip ?_
        refine e_then ?_
        refine c_seq ?_
        refine c_block ?_
        refine c_seq ?_
        obtain ⟨x2, hx2, hx1⟩ := bnd_some hx1
        obtain ⟨b5, o1, h9, hq1⟩ := RO.at h8 hx2
        refine c_quiet ?_
        refine ql_s (.int .i64 (i1 : Int)) (by kernel_rfl) ?_
        refine ql_q rfl (qs_idx hq1 Try.underlying24 fit40 rfl rfl) ?_
        refine ql_q rfl (qs_ldAtV fit40 rfl h9 valF) ?_
        refine ql_s (.int .i64 (i1 : Int)) (by kernel_rfl) ?_
        refine ql_s (.float .f32 x2) (by kernel_rfl) ?_
        refine ql_nil ?_
        refine e_then ?_
        obtain ⟨x3, hx3, hx1⟩ := bnd_some hx1
        obtain ⟨b6, o2, h10, hq2⟩ := RO.at h6 hx3
        obtain ⟨x4, hx4, hx1⟩ := bnd_some hx1
        obtain ⟨b7, o3, h11, hq3⟩ := RO.at h6 hx4
        obtain ⟨r10, hr10, hx1⟩ := bnd_some hx1
        obtain ⟨r11, hr11, hx1⟩ := bnd_some hx1
        obtain ⟨r12, hr12, hx1⟩ := bnd_some hx1
        obtain ⟨l1, hl1, hx1⟩ := bnd_some hx1
        refine c_perm (fr1_perm 1 _) ?_
        refine c_order (B := [pt b2 [.int .i64 f0.Region.X, .int .i64 f0.Region.Y, .int .i64 f0.Region.W, .int .i64 f0.Region.H, .slice f0_v1a f0.V.length f0_v1c] 26]) (.q 0 (.q 1 (.q 2 (.q 3 (.q 4 (.q 5 (.q 6 (.q 7 (.q 8 (.q 9 (.q 10 (.q 11 (.q 12 (.q 13 (.e 14 (.e 15 (.q 16 .nil))))))))))))))))) hmix (by kernel_rfl) (NoPanic.blk (NoPanic.then (NoPanic.then (NoPanic.blk (NoPanic.then (NoPanic.then NoPanic.post)))))) ?_
        refine o_s (.slice a10 s1.length cp12) rfl (by kernel_rfl) ?_
        refine o_s (.slice a6 r8.length cp8) rfl (by kernel_rfl) ?_
        refine o_s (.int .i64 (i1 : Int)) rfl (by kernel_rfl) ?_
        refine o_s (.int .i64 (addI (i1 : Int) 1)) rfl (by kernel_rfl) ?_
        refine o_qs rfl rfl (qs_idx hq2 Try.underlying24 fit40 rfl rfl) ?_
        refine o_qs rfl rfl (qs_ldAtV fit40 rfl h10 valF) ?_
        refine o_s (.slice a6 r8.length cp8) rfl (by kernel_rfl) ?_
        refine o_s (.int .i64 (i1 : Int)) rfl (by kernel_rfl) ?_
        refine o_qs rfl rfl (qs_idx hq3 Try.underlying24 fit40 rfl rfl) ?_
        refine o_qs rfl rfl (qs_ldAtV fit40 rfl h11 valF) ?_
        refine o_qs rfl rfl (qs_fop hr10 rfl rfl) ?_
        refine o_call (v := .float .f32 r11) rfl rfl (run_call (vs := [.float .f32 r10]) rfl Try.call22 rfl) (fun D' R' hD w hS => (tarnref2_Abs_s r10 _  _ _ hr11 w (hS)).mono fun e w' h => ⟨h.1, h.2⟩) ?_
        refine o_s (.float .f32 x2) rfl (by kernel_rfl) ?_
        refine o_qs rfl rfl (qs_fop hr12 rfl rfl) ?_
        refine o_bslS (cs := [.float .f32 r12]) (E := 40) (e := encF .f32) ([r12] : List Nat) rfl rfl (PH.le_refl _) (by kernel_rfl) rfl rfl (Nat.le_of_ble_eq_true rfl) ⟨rfl, trivial⟩ (fun b9 cp15 => ?_)
        refine o_perm (fr1_perm 1 _) ?_
        refine o_app hl1 rfl rfl (PH.le_refl _) elem24 Try.underlying24 rfl rfl rfl (OwnS.src 2 rfl ⟨_, _, rfl⟩) (fun a12 cp16 => ?_)
        refine o_s (.slice a12 l1.length cp16) rfl (by kernel_rfl) ?_
        refine o_nil ?_
        refine e_perm (fr1_perm 2 _) ?_
        refine e_drop ?_
        refine e_blk ?_
        refine e_then ?_
        refine c_quiet ?_
        refine ql_s (.int .i64 (addI (i1 : Int) 1)) (by kernel_rfl) ?_
        refine ql_s (.int .i64 (addI (i1 : Int) 1)) (by kernel_rfl) ?_
        refine ql_nil ?_
        refine e_perm (fr1_perm 1 _) ?_
        obtain rfl := Option.some.inj hx1
        exact e_cut ⟨j1, i1 + 1, l1, a12, cp16, by omega, by omega, ⟨rfl, rfl, rfl, rfl, rfl, rfl, rfl, rfl, rfl, rfl, rfl, rfl, (congrArg (Value.int .i64) (addI_succ (by omega))), trivial⟩, hD1, rfl, hs2⟩
    · skip
      rintro φ2 D9 As10 ⟨a9, cp11, hI2, hD2, hA10⟩
      subst As10
      replace way0_h1 := way0_h1.mono hD2
      replace h2 := h2.mono hD2
      replace h4 := h4.mono hD2
      replace f0_h1 := f0_h1.mono hD2
      refine e_frame _ hI2 ?_
      refine e_then ?_
      refine c_seq ?_
      refine c_seq ?_
      obtain ⟨r13, hr13, hp⟩ := bnd_some hp
      refine c_quiet ?_
      refine ql_s (.slice a9 x1.length cp11) (by kernel_rfl) ?_
      refine ql_call (v := .int .i64 r13) rfl (run_call (vs := [.slice a9 x1.length cp11]) rfl Try.call11 rfl) (fun w hS => (calls_thaw (PH.le_refl _) (hS) (fun D0' hLl0 hLr0 hS => (tarnref2_NumberError_s x1 a9 cp11 _ hLr0 _ _ hr13 w (hS)).mono fun e w' h => ⟨h.1, h.2⟩)).mono fun e w' h => ⟨h.1, h.2⟩) ?_
      refine ql_s (.bool (r13 != 0)) (by kernel_rfl) ?_
      refine ql_nil ?_
      refine e_then ?_
      obtain ⟨x5, hs3, hp⟩ := bnd_some hp
      refine c_cut_end (fun φ1 D11 As1 => ∃ (s2 : Unit), x5 = .go s2 ∧ Is φ1 [(1, .slice way0_v1a way0.length way0_v1c), (2, .int .i64 how0), (3, .float .f32 grade0), (4, .pointer (some ⟨b2, 0, none⟩)), (9, .slice a2 r1.1.length cp2), (10, .int .i64 r1.2)] ∧ PH.le D9 D11 ∧ As1 = OwnS D11 (encF .f32) 40 (.slice a9 x1.length cp11) x1 :: pt b2 [.int .i64 f0.Region.X, .int .i64 f0.Region.Y, .int .i64 f0.Region.W, .int .i64 f0.Region.H, .slice f0_v1a f0.V.length f0_v1c] 26 :: F) ?_ ?_
      · skip
        refine c_cond ((r13 != 0)) rfl (fun ht4 => ?_) (fun ht4 => ?_)
        · skip
          replace hs3 := if_t ht4 hs3
          refine c_seq ?_
          refine c_cutq_end [(1, .slice way0_v1a way0.length way0_v1c), (2, .int .i64 how0), (3, .float .f32 grade0), (4, .pointer (some ⟨b2, 0, none⟩)), (9, .slice a2 r1.1.length cp2), (10, .int .i64 r1.2), (103, .bool ((decide ((r2.1.length : Int) > 0)) || (r2.2 != 3)))] ?_ ?_
          · skip
            refine c_quiet ?_
            refine ql_s (.slice a4 r2.1.length cp4) (by kernel_rfl) ?_
            refine ql_s (.int .i64 (r2.1.length : Int)) (by kernel_rfl) ?_
            refine ql_s (.bool (decide ((r2.1.length : Int) > 0))) (by kernel_rfl) ?_
            refine ql_s (.bool (decide ((r2.1.length : Int) > 0))) (by kernel_rfl) ?_
            refine ql_case 100 (decide ((r2.1.length : Int) > 0)) rfl (fun hg6 => ?_) (fun hg6 => ?_)
            · skip
              refine ql_s undef (by kernel_rfl) ?_
              refine ql_s undef (by kernel_rfl) ?_
              refine ql_s (.bool true) (by kernel_rfl) ?_
              refine ql_nil (e_cutq ?_)
              exact ⟨rfl, rfl, rfl, rfl, rfl, rfl, (congrArg Value.bool (by first | rfl | (rw [hg6]; rfl) | simp [hg6])), trivial⟩
            · skip
              refine ql_s (.int .i64 r2.2) (by kernel_rfl) ?_
              refine ql_s (.bool (r2.2 != 3)) (by kernel_rfl) ?_
              refine ql_s (.bool (r2.2 != 3)) (by kernel_rfl) ?_
              refine ql_nil (e_cutq ?_)
              exact ⟨rfl, rfl, rfl, rfl, rfl, rfl, (congrArg Value.bool (by first | rfl | (rw [hg6]; rfl) | simp [hg6])), trivial⟩
          intro _
          refine e_then ?_
          refine c_cond (((decide ((r2.1.length : Int) > 0)) || (r2.2 != 3))) rfl (fun ht5 => ?_) (fun ht5 => ?_)
          · skip
            replace hs3 := if_t ht5 hs3
            refine c_seq ?_
            refine c_quiet ?_
            refine ql_s (.bool false) (by kernel_rfl) ?_
            refine ql_nil ?_
            refine e_drop ?_
            refine e_drop ?_
            refine e_then ?_
            refine c_ret ?_
            refine e_then_ret ?_
            obtain rfl := Option.some.inj hs3
            dsimp only at hp
            refine e_then_ret ?_
            obtain rfl := Option.some.inj hp
            exact post_all (vs := [.bool false]) (.bool false) ⟨rfl, trivial⟩ rfl (.inl rfl) (fun w hS => ⟨rfl, (hS.lower (PH.le_trans (PH.le_trans (PH.le_trans (PH.le_trans hle2 hle4) hle6) hle8) hD2))⟩)
          · skip
            replace hs3 := if_f ht5 hs3
            refine c_skip ?_
            refine e_perm (fr1_perm 1 _) ?_
            refine e_perm (fr1_perm 1 _) ?_
            obtain rfl := Option.some.inj hs3
            exact e_cut ⟨(), rfl, ⟨rfl, rfl, rfl, rfl, rfl, rfl, trivial⟩, (PH.le_refl _), rfl⟩
        · skip
          replace hs3 := if_f ht4 hs3
          refine c_seq ?_
          obtain ⟨c3, hc3, hs3⟩ := bnd_some hs3
          refine c_cutq_end [(1, .slice way0_v1a way0.length way0_v1c), (2, .int .i64 how0), (3, .float .f32 grade0), (4, .pointer (some ⟨b2, 0, none⟩)), (9, .slice a2 r1.1.length cp2), (10, .int .i64 r1.2), (111, .bool c3)] ?_ ?_
          · skip
            refine c_quiet ?_
            refine ql_s (.int .i64 r2.2) (by kernel_rfl) ?_
            refine ql_s (.bool (r2.2 != 0)) (by kernel_rfl) ?_
            refine ql_s (.bool (r2.2 != 0)) (by kernel_rfl) ?_
            refine ql_case 106 ((r2.2 != 0)) rfl (fun hg7 => ?_) (fun hg7 => ?_)
            · skip
              replace hc3 := if_t hg7 hc3
              refine ql_s undef (by kernel_rfl) ?_
              refine ql_s undef (by kernel_rfl) ?_
              refine ql_s undef (by kernel_rfl) ?_
              refine ql_s undef (by kernel_rfl) ?_
              refine ql_s (.bool true) (by kernel_rfl) ?_
              refine ql_nil (e_cutq ?_)
              obtain rfl := Option.some.inj hc3
              exact ⟨rfl, rfl, rfl, rfl, rfl, rfl, rfl, trivial⟩
            · skip
              replace hc3 := if_f hg7 hc3
              refine ql_s (.slice a4 r2.1.length cp4) (by kernel_rfl) ?_
              refine ql_s (.slice a9 x1.length cp11) (by kernel_rfl) ?_
              obtain ⟨r14, hr14, hc3⟩ := bnd_some hc3
              refine ql_call (v := .bool r14) rfl (run_call (vs := [.slice a4 r2.1.length cp4, .slice a9 x1.length cp11]) rfl Try.call23 rfl) (fun w hS => (calls_thaw (PH.le_refl _) (hS) (fun D0' hLl0 hLr0 hS => (slices_Equal_float32_float32_s r2.1 a4 cp4 x1 a9 cp11 _ (h4.mono hLl0) hLr0 _ _ hr14 w (hS)).mono fun e w' h => ⟨h.1, h.2⟩)).mono fun e w' h => ⟨h.1, h.2⟩) ?_
              refine ql_s (.bool (!r14)) (by kernel_rfl) ?_
              refine ql_s (.bool (!r14)) (by kernel_rfl) ?_
              refine ql_nil (e_cutq ?_)
              obtain rfl := Option.some.inj hc3
              exact ⟨rfl, rfl, rfl, rfl, rfl, rfl, rfl, trivial⟩
          intro _
          refine e_then ?_
          refine c_cond (c3) rfl (fun ht6 => ?_) (fun ht6 => ?_)
          · skip
            replace hs3 := if_t ht6 hs3
            refine c_seq ?_
            refine c_quiet ?_
            refine ql_s (.bool false) (by kernel_rfl) ?_
            refine ql_nil ?_
            refine e_drop ?_
            refine e_drop ?_
            refine e_then ?_
            refine c_ret ?_
            refine e_then_ret ?_
            obtain rfl := Option.some.inj hs3
            dsimp only at hp
            refine e_then_ret ?_
            obtain rfl := Option.some.inj hp
            exact post_all (vs := [.bool false]) (.bool false) ⟨rfl, trivial⟩ rfl (.inl rfl) (fun w hS => ⟨rfl, (hS.lower (PH.le_trans (PH.le_trans (PH.le_trans (PH.le_trans hle2 hle4) hle6) hle8) hD2))⟩)
          · skip
            replace hs3 := if_f ht6 hs3
            refine c_skip ?_
            refine e_perm (fr1_perm 1 _) ?_
            refine e_perm (fr1_perm 1 _) ?_
            obtain rfl := Option.some.inj hs3
            exact e_cut ⟨(), rfl, ⟨rfl, rfl, rfl, rfl, rfl, rfl, trivial⟩, (PH.le_refl _), rfl⟩
      · skip
        rintro φ3 D11 As11 ⟨s2, rfl, hI3, hD3, hA11⟩
        subst As11
        replace way0_h1 := way0_h1.mono hD3
        replace h2 := h2.mono hD3
        replace f0_h1 := f0_h1.mono hD3
        dsimp only at hp
        refine e_frame _ hI3 ?_
        refine e_then ?_
        refine c_seq ?_
        refine c_region ?_
        obtain ⟨r15, hr15, hp⟩ := bnd_some hp
        obtain ⟨r16, hr16, hp⟩ := bnd_some hp
        obtain ⟨r17, hr17, hp⟩ := bnd_some hp
        refine l_s (.int .i64 how0) (by kernel_rfl) ?_
        refine l_callq (v := .bool r15) rfl rfl Try.call12 (vs := [.int .i64 how0, .int .i64 1, .int .i64 3]) rfl (fun w hS => (tarnlaw2_within_s how0 1 3 _  _ _ hr15 w (hS)).mono fun e w' h => ⟨h.1, h.2⟩) ?_
        refine l_s (.bool (!r15)) (by kernel_rfl) ?_
        refine l_callq (v := .int .i64 r16) rfl rfl Try.call10 (vs := [.bool (!r15), .int .i64 1]) rfl (fun w hS => (tarnlaw2_when_s (!r15) 1 _  _ _ hr16 w (hS)).mono fun e w' h => ⟨h.1, h.2⟩) ?_
        refine l_s (.float .f32 grade0) (by kernel_rfl) ?_
        refine l_bslS (cs := [.float .f32 grade0]) (E := 40) (e := encF .f32) ([grade0] : List Nat) rfl (by kernel_rfl) rfl rfl (Nat.le_of_ble_eq_true rfl) ⟨rfl, trivial⟩ (fun b11 cp18 => ?_)
        refine l_callq (v := .int .i64 r17) rfl rfl Try.call11 (vs := [.slice (some ⟨b11, 0, none⟩) ([grade0] : List Nat).length cp18]) rfl (fun w hS => (calls_thaw (PH.le_refl _) (hS) (fun D0' hLl0 hLr0 hS => (tarnref2_NumberError_s ([grade0] : List Nat) (some ⟨b11, 0, none⟩) cp18 _ hLr0 _ _ hr17 w (hS)).mono fun e w' h => ⟨h.1, h.2⟩)).mono fun e w' h => ⟨h.1, h.2⟩) ?_
        refine l_s (.float .f32 grade0) (by kernel_rfl) ?_
        refine l_s (.bool (flt .f32 grade0 0)) (by kernel_rfl) ?_
        refine l_s (.bool (flt .f32 grade0 0)) (by kernel_rfl) ?_
        refine l_seg 3 [(1, .slice way0_v1a way0.length way0_v1c), (2, .int .i64 how0), (3, .float .f32 grade0), (4, .pointer (some ⟨b2, 0, none⟩)), (9, .slice a2 r1.1.length cp2), (10, .int .i64 r1.2), (115, .int .i64 r16), (118, .int .i64 r17), (124, .bool ((flt .f32 grade0 0) || (fgt .f32 grade0 1149239296)))] ?_ ?_
        · skip
          refine ql_case 121 (flt .f32 grade0 0) rfl (fun hg8 => ?_) (fun hg8 => ?_)
          · skip
            refine ql_s undef (by kernel_rfl) ?_
            refine ql_s undef (by kernel_rfl) ?_
            refine ql_s (.bool true) (by kernel_rfl) ?_
            refine ql_nil ?_
            exact ⟨rfl, rfl, rfl, rfl, rfl, rfl, rfl, rfl, (congrArg Value.bool (by first | rfl | (rw [hg8]; rfl) | simp [hg8])), trivial⟩
          · skip
            refine ql_s (.float .f32 grade0) (by kernel_rfl) ?_
            refine ql_s (.bool (fgt .f32 grade0 1149239296)) (by kernel_rfl) ?_
            refine ql_s (.bool (fgt .f32 grade0 1149239296)) (by kernel_rfl) ?_
            refine ql_nil ?_
            exact ⟨rfl, rfl, rfl, rfl, rfl, rfl, rfl, rfl, (congrArg Value.bool (by first | rfl | (rw [hg8]; rfl) | simp [hg8])), trivial⟩
        intro _
        obtain ⟨r18, hr18, hp⟩ := bnd_some hp
        obtain ⟨r19, hr19, hp⟩ := bnd_some hp
        refine l_callq (v := .int .i64 r18) rfl rfl Try.call10 (vs := [.bool ((flt .f32 grade0 0) || (fgt .f32 grade0 1149239296)), .int .i64 3]) rfl (fun w hS => (tarnlaw2_when_s ((flt .f32 grade0 0) || (fgt .f32 grade0 1149239296)) 3 _  _ _ hr18 w (hS)).mono fun e w' h => ⟨h.1, h.2⟩) ?_
        refine l_bslS (cs := [.int .i64 r16, .int .i64 r17, .int .i64 r18]) (E := 28) (e := encI .i64) ([r16, r17, r18] : List Int) rfl (by kernel_rfl) rfl rfl (Nat.le_of_ble_eq_true rfl) ⟨rfl, rfl, rfl, trivial⟩ (fun b13 cp20 => ?_)
        refine l_callq (v := .int .i64 r19) rfl rfl Try.call7 (vs := [.slice (some ⟨b13, 0, none⟩) ([r16, r17, r18] : List Int).length cp20]) rfl (fun w hS => (calls_thaw (PH.le_refl _) (hS) (fun D0' hLl0 hLr0 hS => (tarnlaw2_first_s ([r16, r17, r18] : List Int) (some ⟨b13, 0, none⟩) cp20 _ hLr0 _ _ hr19 w (hS)).mono fun e w' h => ⟨h.1, h.2⟩)).mono fun e w' h => ⟨h.1, h.2⟩) ?_
        refine l_s (.int .i64 r19) (by kernel_rfl) ?_
        refine l_nil ?_
        refine e_drop ?_
        refine e_drop ?_
        refine e_drop ?_
        refine e_then ?_
        refine c_seq ?_
        refine c_seq ?_
        refine c_quiet ?_
        refine ql_s (.int .i64 r19) (by kernel_rfl) ?_
        refine ql_s (.bool (r19 != 0)) (by kernel_rfl) ?_
        refine ql_nil ?_
        refine e_then ?_
        refine c_cond ((r19 != 0)) rfl (fun ht7 => ?_) (fun ht7 => ?_)
        · skip
          replace hp := if_t ht7 hp
          refine c_seq ?_
          refine c_cutq_end [(8, .bool (((r1.1.length : Int) == 0) && (r1.2 == r19)))] ?_ ?_
          · skip
            refine c_quiet ?_
            refine ql_s (.slice a2 r1.1.length cp2) (by kernel_rfl) ?_
            refine ql_s (.int .i64 (r1.1.length : Int)) (by kernel_rfl) ?_
            refine ql_s (.bool ((r1.1.length : Int) == 0)) (by kernel_rfl) ?_
            refine ql_s (.bool ((r1.1.length : Int) == 0)) (by kernel_rfl) ?_
            refine ql_case 133 (((r1.1.length : Int) == 0)) rfl (fun hg9 => ?_) (fun hg9 => ?_)
            · skip
              refine ql_s (.int .i64 r1.2) (by kernel_rfl) ?_
              refine ql_s (.int .i64 r19) (by kernel_rfl) ?_
              refine ql_s (.bool (r1.2 == r19)) (by kernel_rfl) ?_
              refine ql_s (.bool (r1.2 == r19)) (by kernel_rfl) ?_
              refine ql_s (.bool (r1.2 == r19)) (by kernel_rfl) ?_
              refine ql_nil (e_cutq ?_)
              exact ⟨(congrArg Value.bool (by first | rfl | (rw [hg9]; rfl) | simp [hg9])), trivial⟩
            · skip
              refine ql_s undef (by kernel_rfl) ?_
              refine ql_s undef (by kernel_rfl) ?_
              refine ql_s undef (by kernel_rfl) ?_
              refine ql_s (.bool false) (by kernel_rfl) ?_
              refine ql_s (.bool false) (by kernel_rfl) ?_
              refine ql_nil (e_cutq ?_)
              exact ⟨(congrArg Value.bool (by first | rfl | (rw [hg9]; rfl) | simp [hg9])), trivial⟩
          intro _
          refine e_then ?_
          refine c_ret ?_
          refine e_then_ret ?_
          obtain rfl := Option.some.inj hp
          exact post_all (vs := [.bool (((r1.1.length : Int) == 0) && (r1.2 == r19))]) (.bool (((r1.1.length : Int) == 0) && (r1.2 == r19))) ⟨rfl, trivial⟩ rfl (.inl rfl) (fun w hS => ⟨rfl, (hS.tail.lower (PH.le_trans (PH.le_trans (PH.le_trans (PH.le_trans (PH.le_trans hle2 hle4) hle6) hle8) hD2) hD3))⟩)
        · skip
          replace hp := if_f ht7 hp
          refine c_skip ?_
          refine e_then ?_
          refine c_seq ?_
          obtain ⟨r20, hr20, hp⟩ := bnd_some hp
          refine c_region ?_
          refine l_q rfl (qs_ldpt (encW 5 (by decide)) fitv26 rfl 0 rfl (.agg #[.int .i64 f0.Region.X, .int .i64 f0.Region.Y, .int .i64 f0.Region.W, .int .i64 f0.Region.H, .slice f0_v1a f0.V.length f0_v1c]) (Nat.le_of_ble_eq_true rfl) rfl) ?_
          refine l_s (.slice way0_v1a way0.length way0_v1c) (by kernel_rfl) ?_
          refine l_s (.int .i64 how0) (by kernel_rfl) ?_
          refine l_s (.float .f32 grade0) (by kernel_rfl) ?_
          refine l_call rfl rfl Try.call24 (vs := [.agg #[.int .i64 f0.Region.X, .int .i64 f0.Region.Y, .int .i64 f0.Region.W, .int .i64 f0.Region.H, .slice f0_v1a f0.V.length f0_v1c], .slice way0_v1a way0.length way0_v1c, .int .i64 how0, .float .f32 grade0]) rfl (fun v D13 As13 => ∃ (a14 : Option Addr) (cp22 : Nat), PH.le D11 D13 ∧ v = .slice a14 r20.length cp22 ∧ RO (encF .f32) D13 (.slice a14 r20.length cp22) r20 ∧ As13 = pt b2 [.int .i64 f0.Region.X, .int .i64 f0.Region.Y, .int .i64 f0.Region.W, .int .i64 f0.Region.H, .slice f0_v1a f0.V.length f0_v1c] 26 :: F) (fun w hS => (tarnref2_BedOf_s f0 f0_v1a f0_v1c way0 way0_v1a way0_v1c how0 grade0 _ f0_h1 way0_h1 _ _ hr20 w (hS)).mono fun e w' ⟨D13, a14, cp22, hle10, he, h13, hS2⟩ => ⟨_, D13, _, he, ⟨a14, cp22, hle10, rfl, h13, rfl⟩, hS2⟩) ?_
          rintro _ D13 As13 ⟨a14, cp22, hle10, rfl, h13, hA13⟩
          subst As13
          replace way0_h1 := way0_h1.mono hle10
          replace h2 := h2.mono hle10
          replace f0_h1 := f0_h1.mono hle10
          refine l_s (.slice a14 r20.length cp22) (by kernel_rfl) ?_
          refine l_nil ?_
          refine e_drop ?_
          refine e_then ?_
          refine c_seq ?_
          refine c_seq ?_
          obtain ⟨r21, hr21, hp⟩ := bnd_some hp
          refine c_quiet ?_
          refine ql_s (.slice a14 r20.length cp22) (by kernel_rfl) ?_
          refine ql_call (v := .int .i64 r21) rfl (run_call (vs := [.slice a14 r20.length cp22]) rfl Try.call11 rfl) (fun w hS => (tarnref2_NumberError_s r20 a14 cp22 _ h13 _ _ hr21 w (hS)).mono fun e w' h => ⟨h.1, h.2⟩) ?_
          refine ql_s (.bool (r21 != 0)) (by kernel_rfl) ?_
          refine ql_nil ?_
          refine e_then ?_
          refine c_cond ((r21 != 0)) rfl (fun ht8 => ?_) (fun ht8 => ?_)
          · skip
            replace hp := if_t ht8 hp
            refine c_seq ?_
            refine c_cutq_end [(8, .bool (((r1.1.length : Int) == 0) && (r1.2 == 3)))] ?_ ?_
            · skip
              refine c_quiet ?_
              refine ql_s (.slice a2 r1.1.length cp2) (by kernel_rfl) ?_
              refine ql_s (.int .i64 (r1.1.length : Int)) (by kernel_rfl) ?_
              refine ql_s (.bool ((r1.1.length : Int) == 0)) (by kernel_rfl) ?_
              refine ql_s (.bool ((r1.1.length : Int) == 0)) (by kernel_rfl) ?_
              refine ql_case 149 (((r1.1.length : Int) == 0)) rfl (fun hg10 => ?_) (fun hg10 => ?_)
              · skip
                refine ql_s (.int .i64 r1.2) (by kernel_rfl) ?_
                refine ql_s (.bool (r1.2 == 3)) (by kernel_rfl) ?_
                refine ql_s (.bool (r1.2 == 3)) (by kernel_rfl) ?_
                refine ql_s (.bool (r1.2 == 3)) (by kernel_rfl) ?_
                refine ql_nil (e_cutq ?_)
                exact ⟨(congrArg Value.bool (by first | rfl | (rw [hg10]; rfl) | simp [hg10])), trivial⟩
              · skip
                refine ql_s undef (by kernel_rfl) ?_
                refine ql_s undef (by kernel_rfl) ?_
                refine ql_s (.bool false) (by kernel_rfl) ?_
                refine ql_s (.bool false) (by kernel_rfl) ?_
                refine ql_nil (e_cutq ?_)
                exact ⟨(congrArg Value.bool (by first | rfl | (rw [hg10]; rfl) | simp [hg10])), trivial⟩
            intro _
            refine e_then ?_
            refine c_ret ?_
            refine e_then_ret ?_
            obtain rfl := Option.some.inj hp
            exact post_all (vs := [.bool (((r1.1.length : Int) == 0) && (r1.2 == 3))]) (.bool (((r1.1.length : Int) == 0) && (r1.2 == 3))) ⟨rfl, trivial⟩ rfl (.inl rfl) (fun w hS => ⟨rfl, (hS.lower (PH.le_trans (PH.le_trans (PH.le_trans (PH.le_trans (PH.le_trans (PH.le_trans hle2 hle4) hle6) hle8) hD2) hD3) hle10))⟩)
          · skip
            replace hp := if_f ht8 hp
            refine c_skip ?_
            refine e_then ?_
            refine c_seq ?_
            obtain ⟨c4, hc4, hp⟩ := bnd_some hp
            refine c_cutq_end [(8, .bool c4)] ?_ ?_
            · skip
              refine c_quiet ?_
              refine ql_s (.int .i64 r1.2) (by kernel_rfl) ?_
              refine ql_s (.bool (r1.2 == 0)) (by kernel_rfl) ?_
              refine ql_s (.bool (r1.2 == 0)) (by kernel_rfl) ?_
              refine ql_case 155 ((r1.2 == 0)) rfl (fun hg11 => ?_) (fun hg11 => ?_)
              · skip
                replace hc4 := if_t hg11 hc4
                refine ql_s (.slice a2 r1.1.length cp2) (by kernel_rfl) ?_
                refine ql_s (.slice a14 r20.length cp22) (by kernel_rfl) ?_
                obtain ⟨r22, hr22, hc4⟩ := bnd_some hc4
                refine ql_call (v := .bool r22) rfl (run_call (vs := [.slice a2 r1.1.length cp2, .slice a14 r20.length cp22]) rfl Try.call25 rfl) (fun w hS => (tarnlaw2_bits_s r1.1 a2 cp2 r20 a14 cp22 _ h2 h13 _ _ hr22 w (hS)).mono fun e w' h => ⟨h.1, h.2⟩) ?_
                refine ql_s (.bool r22) (by kernel_rfl) ?_
                refine ql_s (.bool r22) (by kernel_rfl) ?_
                refine ql_nil (e_cutq ?_)
                obtain rfl := Option.some.inj hc4
                exact ⟨rfl, trivial⟩
              · skip
                replace hc4 := if_f hg11 hc4
                refine ql_s undef (by kernel_rfl) ?_
                refine ql_s undef (by kernel_rfl) ?_
                refine ql_s undef (by kernel_rfl) ?_
                refine ql_s (.bool false) (by kernel_rfl) ?_
                refine ql_s (.bool false) (by kernel_rfl) ?_
                refine ql_nil (e_cutq ?_)
                obtain rfl := Option.some.inj hc4
                exact ⟨rfl, trivial⟩
            intro _
            refine e_then ?_
            refine c_ret ?_
            obtain rfl := Option.some.inj hp
            exact post_all (vs := [.bool c4]) (.bool c4) ⟨rfl, trivial⟩ rfl (.inl rfl) (fun w hS => ⟨rfl, (hS.lower (PH.le_trans (PH.le_trans (PH.le_trans (PH.le_trans (PH.le_trans (PH.le_trans hle2 hle4) hle6) hle8) hD2) hD3) hle10))⟩)

end Go.Proofs.Ythibohbaaljnkaa
