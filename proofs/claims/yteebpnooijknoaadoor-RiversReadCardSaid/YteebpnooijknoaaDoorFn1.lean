/- Own text, by program: that the code computes the pure functions. -/
import Derived.Test.YteebpnooijknoaaDoorFn0
namespace Go.Proofs.YteebpnooijknoaaDoor
open Sx
set_option linter.all false
variable [WB] [GV Tryd.prog]

-- tarnfell/water.filled$1
set_option maxRecDepth 100000 in
set_option maxHeartbeats 3000000 in
theorem water_filled_1_s (n0 : Int) (d0 : Int) (b_p0 : Nat) (p0 : S_api_Field) (p0_v1a : Option Addr) (p0_v1c : Nat) (b_p00 : Nat) (p00 : S_water_spill) (b_p000 : Nat) (p000 : Nat) (b_p0000 : Nat) (p0000 : List Bool) (p0000_a : Option Addr) (p0000_c : Nat) (b_p00000 : Nat) (p00000 : List Bool) (p00000_a : Option Addr) (p00000_c : Nat) (b_p000000 : Nat) (p000000 : List Nat) (p000000_a : Option Addr) (p000000_c : Nat) (b_p0000000 : Nat) (p0000000 : List S_water_spill) (p0000000_a : Option Addr) (p0000000_c : Nat) (D : PH) (p0_h1 : RO (encF .f32) D (.slice p0_v1a p0.V.length p0_v1c) p0.V) (F : List Assert) (r : (List Bool) × (List Nat) × (List S_water_spill)) (hp : water_filled_1_p n0 d0 p0 p00 p000 p0000 p00000 p000000 p0000000 = some r) : ∀ w : World, SInv D (pt b_p0 [.int .i64 p0.Region.X, .int .i64 p0.Region.Y, .int .i64 p0.Region.W, .int .i64 p0.Region.H, .slice p0_v1a p0.V.length p0_v1c] 45 :: pt b_p00 [.float .f32 p00.v, .int .i64 p00.k] 85 :: pt b_p000 [.float .f32 p000] 48 :: pt b_p0000 [.slice p0000_a p0000.length p0000_c] 80 :: OwnS D encB 4 (.slice p0000_a p0000.length p0000_c) p0000 :: pt b_p00000 [.slice p00000_a p00000.length p00000_c] 80 :: OwnS D encB 4 (.slice p00000_a p00000.length p00000_c) p00000 :: pt b_p000000 [.slice p000000_a p000000.length p000000_c] 43 :: OwnS D (encF .f32) 48 (.slice p000000_a p000000.length p000000_c) p000000 :: pt b_p0000000 [.slice p0000000_a p0000000.length p0000000_c] 82 :: OwnS D encS_water_spill 85 (.slice p0000000_a p0000000.length p0000000_c) p0000000 :: F) w → Calls Tryd.prog 46 #[.int .i64 n0, .int .i64 d0, .pointer (some ⟨b_p0, 0, none⟩), .pointer (some ⟨b_p00, 0, none⟩), .pointer (some ⟨b_p000, 0, none⟩), .pointer (some ⟨b_p0000, 0, none⟩), .pointer (some ⟨b_p00000, 0, none⟩), .pointer (some ⟨b_p000000, 0, none⟩), .pointer (some ⟨b_p0000000, 0, none⟩)] w (fun e w' => ∃ (D1 : PH) (q_a1 : Option Addr) (q_cp1 : Nat), PH.le D D1 ∧ e = .returned (.tuple #[]) ∧ SInv D1 (pt b_p0 [.int .i64 p0.Region.X, .int .i64 p0.Region.Y, .int .i64 p0.Region.W, .int .i64 p0.Region.H, .slice p0_v1a p0.V.length p0_v1c] 45 :: pt b_p00 [.float .f32 p00.v, .int .i64 p00.k] 85 :: pt b_p000 [.float .f32 p000] 48 :: pt b_p0000 [.slice p0000_a p0000.length p0000_c] 80 :: OwnS D1 encB 4 (.slice p0000_a p0000.length p0000_c) p0000 :: pt b_p00000 [.slice p00000_a p00000.length p00000_c] 80 :: OwnS D1 encB 4 (.slice p00000_a p00000.length p00000_c) r.1 :: pt b_p000000 [.slice p000000_a p000000.length p000000_c] 43 :: OwnS D1 (encF .f32) 48 (.slice p000000_a p000000.length p000000_c) r.2.1 :: pt b_p0000000 [.slice q_a1 r.2.2.length q_cp1] 82 :: OwnS D1 encS_water_spill 85 (.slice q_a1 r.2.2.length q_cp1) r.2.2 :: F) w') := by
  intro w hS
  refine call_intro Tryd.func46 rfl Tryd.ntmps46 (Nat.le_of_ble_eq_true rfl) hS ?_
  clear hS w
  unfold water_filled_1_p at hp
  refine c_seq ?_
  obtain ⟨x1, hx1, hp⟩ := bnd_some hp
  obtain ⟨b1, o1, h1, hq1⟩ := RO.at p0_h1 hx1
  refine c_quiet ?_
  refine ql_s (.pointer (some ⟨b_p0, 4, none⟩)) (by kernel_rfl) ?_
  refine ql_q rfl (qs_ldpt encV fitv43 rfl 0 rfl (.slice p0_v1a p0.V.length p0_v1c) (Nat.le_of_ble_eq_true rfl) rfl) ?_
  refine ql_s (.int .i64 n0) (by kernel_rfl) ?_
  refine ql_q rfl (qs_idx hq1 Tryd.underlying43 fit48 rfl rfl) ?_
  refine ql_q rfl (qs_ldAtV fit48 rfl h1 valF) ?_
  refine ql_s (.float .f32 x1) (by kernel_rfl) ?_
  refine ql_nil ?_
  refine e_then ?_
  refine c_seq ?_
  refine c_seq ?_
  obtain ⟨r1, hr1, hp⟩ := bnd_some hp
  refine c_quiet ?_
  refine ql_s (.pointer (some ⟨b_p00, 0, none⟩)) (by kernel_rfl) ?_
  refine ql_q rfl (qs_ldpt encV fitv48 rfl 1 rfl (.float .f32 p00.v) (Nat.le_of_ble_eq_true rfl) rfl) ?_
  refine ql_q rfl (qs_ldpt encV fitv48 rfl 2 rfl (.float .f32 p000) (Nat.le_of_ble_eq_true rfl) rfl) ?_
  refine ql_q rfl (qs_fop hr1 rfl rfl) ?_
  refine ql_s (.float .f32 r1) (by kernel_rfl) ?_
  refine ql_nil ?_
  refine e_then ?_
  refine c_seq ?_
  refine c_quiet ?_
  refine ql_s (.float .f32 r1) (by kernel_rfl) ?_
  refine ql_s (.float .f32 x1) (by kernel_rfl) ?_
  refine ql_s (.bool (fgt .f32 r1 x1)) (by kernel_rfl) ?_
  refine ql_nil ?_
  refine e_then ?_
  obtain ⟨s1, hs1, hp⟩ := bnd_some hp
  refine c_cut_end (fun φ1 D1 As1 => Is φ1 [(0, .int .i64 n0), (5, .pointer (some ⟨b_p0000, 0, none⟩)), (6, .pointer (some ⟨b_p00000, 0, none⟩)), (7, .pointer (some ⟨b_p000000, 0, none⟩)), (8, .pointer (some ⟨b_p0000000, 0, none⟩)), (11, .float .f32 s1)] ∧ PH.le D D1 ∧ As1 = pt b_p0 [.int .i64 p0.Region.X, .int .i64 p0.Region.Y, .int .i64 p0.Region.W, .int .i64 p0.Region.H, .slice p0_v1a p0.V.length p0_v1c] 45 :: pt b_p00 [.float .f32 p00.v, .int .i64 p00.k] 85 :: pt b_p000 [.float .f32 p000] 48 :: pt b_p0000 [.slice p0000_a p0000.length p0000_c] 80 :: OwnS D1 encB 4 (.slice p0000_a p0000.length p0000_c) p0000 :: pt b_p00000 [.slice p00000_a p00000.length p00000_c] 80 :: OwnS D1 encB 4 (.slice p00000_a p00000.length p00000_c) p00000 :: pt b_p000000 [.slice p000000_a p000000.length p000000_c] 43 :: OwnS D1 (encF .f32) 48 (.slice p000000_a p000000.length p000000_c) p000000 :: pt b_p0000000 [.slice p0000000_a p0000000.length p0000000_c] 82 :: OwnS D1 encS_water_spill 85 (.slice p0000000_a p0000000.length p0000000_c) p0000000 :: F) ?_ ?_
  · skip
    refine c_cond (fgt .f32 r1 x1) rfl (fun ht1 => ?_) (fun ht1 => ?_)
    · skip
      replace hs1 := if_t ht1 hs1
      refine c_quiet ?_
      refine ql_s (.float .f32 r1) (by kernel_rfl) ?_
      refine ql_s (.float .f32 r1) (by kernel_rfl) ?_
      refine ql_nil ?_
      obtain rfl := Option.some.inj hs1
      exact e_cut ⟨⟨rfl, rfl, rfl, rfl, rfl, rfl, trivial⟩, (PH.le_refl _), rfl⟩
    · skip
      replace hs1 := if_f ht1 hs1
      refine c_skip ?_
      obtain rfl := Option.some.inj hs1
      exact e_cut ⟨⟨rfl, rfl, rfl, rfl, rfl, rfl, trivial⟩, (PH.le_refl _), rfl⟩
  · skip
    rintro φ1 D1 As1 ⟨hI1, hD1, hA1⟩
    subst As1
    replace p0_h1 := p0_h1.mono hD1
    refine e_frame _ hI1 ?_
    refine e_then ?_
    refine c_seq ?_
    refine c_perm (fr1_perm 4 _) ?_
    refine c_adr (fun b2 hb1 hl1 hbd1 hcap1 => ?_)
    refine c_perm (fr1_perm 6 _) ?_
    refine c_adr (fun b3 hb2 hl2 hbd2 hcap2 => ?_)
    refine c_perm (fr1_perm 8 _) ?_
    refine c_adr (fun b4 hb3 hl3 hbd3 hcap3 => ?_)
    obtain ⟨c1, hc1, hp⟩ := bnd_some hp
    refine c_cutq_end [(0, .int .i64 n0), (6, .pointer (some ⟨b_p00000, 0, none⟩)), (7, .pointer (some ⟨b_p000000, 0, none⟩)), (8, .pointer (some ⟨b_p0000000, 0, none⟩)), (11, .float .f32 s1), (45, .bool c1)] ?_ ?_
    · skip
      refine c_quiet ?_
      refine ql_q rfl (qs_ldpt encV fitv80 rfl 6 rfl (.slice p0000_a p0000.length p0000_c) (Nat.le_of_ble_eq_true rfl) rfl) ?_
      refine ql_s (.int .i64 n0) (by kernel_rfl) ?_
      obtain ⟨x2, hx2, hc1⟩ := bnd_some hc1
      refine ql_q rfl (qs_idx (IsIdx.beg (e := encB) hb1 rfl hx2) Tryd.underlying80 fit4 rfl rfl) ?_
      obtain ⟨x3, hx3, hc1⟩ := bnd_some hc1
      refine ql_q rfl (qs_ldS fit4 hb1 rfl rfl 2 rfl (idx_some hx3).2.2 (v := .bool x3) valB) ?_
      refine ql_s (.bool (!x3)) (by kernel_rfl) ?_
      refine ql_s (.bool (!x3)) (by kernel_rfl) ?_
      refine ql_case 31 (!x3) rfl (fun hg1 => ?_) (fun hg1 => ?_)
      · skip
        replace hc1 := if_t hg1 hc1
        refine ql_q rfl (qs_ldpt encV fitv80 rfl 7 rfl (.slice p00000_a p00000.length p00000_c) (Nat.le_of_ble_eq_true rfl) rfl) ?_
        refine ql_s (.int .i64 n0) (by kernel_rfl) ?_
        obtain ⟨x4, hx4, hc1⟩ := bnd_some hc1
        refine ql_q rfl (qs_idx (IsIdx.beg (e := encB) hb2 rfl hx4) Tryd.underlying80 fit4 rfl rfl) ?_
        obtain ⟨x5, hx5, hc1⟩ := bnd_some hc1
        refine ql_q rfl (qs_ldS fit4 hb2 rfl rfl 1 rfl (idx_some hx5).2.2 (v := .bool x5) valB) ?_
        refine ql_s (.bool (!x5)) (by kernel_rfl) ?_
        refine ql_s (.bool (!x5)) (by kernel_rfl) ?_
        refine ql_case 37 (!x5) rfl (fun hg2 => ?_) (fun hg2 => ?_)
        · skip
          replace hc1 := if_t hg2 hc1
          refine ql_s undef (by kernel_rfl) ?_
          refine ql_s undef (by kernel_rfl) ?_
          refine ql_s undef (by kernel_rfl) ?_
          refine ql_s undef (by kernel_rfl) ?_
          refine ql_s undef (by kernel_rfl) ?_
          refine ql_s undef (by kernel_rfl) ?_
          refine ql_s (.bool true) (by kernel_rfl) ?_
          refine ql_s (.bool true) (by kernel_rfl) ?_
          refine ql_nil (e_cutq ?_)
          obtain rfl := Option.some.inj hc1
          exact ⟨rfl, rfl, rfl, rfl, rfl, rfl, trivial⟩
        · skip
          replace hc1 := if_f hg2 hc1
          refine ql_s (.float .f32 s1) (by kernel_rfl) ?_
          refine ql_q rfl (qs_ldpt encV fitv43 rfl 8 rfl (.slice p000000_a p000000.length p000000_c) (Nat.le_of_ble_eq_true rfl) rfl) ?_
          refine ql_s (.int .i64 n0) (by kernel_rfl) ?_
          obtain ⟨x6, hx6, hc1⟩ := bnd_some hc1
          refine ql_q rfl (qs_idx (IsIdx.beg (e := encF .f32) hb3 rfl hx6) Tryd.underlying43 fit48 rfl rfl) ?_
          obtain ⟨x7, hx7, hc1⟩ := bnd_some hc1
          refine ql_q rfl (qs_ldS fit48 hb3 rfl rfl 0 rfl (idx_some hx7).2.2 (v := .float .f32 x7) valF) ?_
          refine ql_s (.bool (flt .f32 s1 x7)) (by kernel_rfl) ?_
          refine ql_s (.bool (flt .f32 s1 x7)) (by kernel_rfl) ?_
          refine ql_s (.bool (flt .f32 s1 x7)) (by kernel_rfl) ?_
          refine ql_nil (e_cutq ?_)
          obtain rfl := Option.some.inj hc1
          exact ⟨rfl, rfl, rfl, rfl, rfl, rfl, trivial⟩
      · skip
        replace hc1 := if_f hg1 hc1
        refine ql_s undef (by kernel_rfl) ?_
        refine ql_s undef (by kernel_rfl) ?_
        refine ql_s undef (by kernel_rfl) ?_
        refine ql_s undef (by kernel_rfl) ?_
        refine ql_s undef (by kernel_rfl) ?_
        refine ql_s undef (by kernel_rfl) ?_
        refine ql_s undef (by kernel_rfl) ?_
        refine ql_s undef (by kernel_rfl) ?_
        refine ql_s undef (by kernel_rfl) ?_
        refine ql_s undef (by kernel_rfl) ?_
        refine ql_s undef (by kernel_rfl) ?_
        refine ql_s undef (by kernel_rfl) ?_
        refine ql_s undef (by kernel_rfl) ?_
        refine ql_s (.bool false) (by kernel_rfl) ?_
        refine ql_nil (e_cutq ?_)
        obtain rfl := Option.some.inj hc1
        exact ⟨rfl, rfl, rfl, rfl, rfl, rfl, trivial⟩
    intro _
    refine e_then ?_
    refine c_cond (c1) rfl (fun ht2 => ?_) (fun ht2 => ?_)
    · skip
      replace hp := if_t ht2 hp
      refine c_seq ?_
      obtain ⟨x8, hx8, hp⟩ := bnd_some hp
      obtain ⟨l1, hl4, hp⟩ := bnd_some hp
      replace hl4 := Option.some.inj hl4
      obtain ⟨x9, hx9, hp⟩ := bnd_some hp
      obtain ⟨l2, hl5, hp⟩ := bnd_some hp
      replace hl5 := Option.some.inj hl5
      refine c_perm (show List.Perm _ (OwnS D1 encB 4 (.slice p0000_a p0000.length p0000_c) p0000 :: pt b_p0 [.int .i64 p0.Region.X, .int .i64 p0.Region.Y, .int .i64 p0.Region.W, .int .i64 p0.Region.H, .slice p0_v1a p0.V.length p0_v1c] 45 :: pt b_p00 [.float .f32 p00.v, .int .i64 p00.k] 85 :: pt b_p000 [.float .f32 p000] 48 :: pt b_p0000 [.slice p0000_a p0000.length p0000_c] 80 :: pt b_p00000 [.slice p00000_a p00000.length p00000_c] 80 :: pt b_p000000 [.slice p000000_a p000000.length p000000_c] 43 :: pt b_p0000000 [.slice p0000000_a p0000000.length p0000000_c] 82 :: OwnS D1 encS_water_spill 85 (.slice p0000000_a p0000000.length p0000000_c) p0000000 :: OwnS D1 (encF .f32) 48 (.slice p000000_a p000000.length p000000_c) p000000 :: OwnS D1 encB 4 (.slice p00000_a p00000.length p00000_c) p00000 :: F) from pick_perm [2, 3, 4, 5, 6, 7, 8, 9, 10, 0, 1] rfl rfl) ?_
      refine c_order (B := [OwnS D1 encB 4 (.slice p0000_a p0000.length p0000_c) p0000, pt b_p0 [.int .i64 p0.Region.X, .int .i64 p0.Region.Y, .int .i64 p0.Region.W, .int .i64 p0.Region.H, .slice p0_v1a p0.V.length p0_v1c] 45, pt b_p00 [.float .f32 p00.v, .int .i64 p00.k] 85, pt b_p000 [.float .f32 p000] 48, pt b_p0000 [.slice p0000_a p0000.length p0000_c] 80, pt b_p00000 [.slice p00000_a p00000.length p00000_c] 80, pt b_p000000 [.slice p000000_a p000000.length p000000_c] 43, pt b_p0000000 [.slice p0000000_a p0000000.length p0000000_c] 82, OwnS D1 encS_water_spill 85 (.slice p0000000_a p0000000.length p0000000_c) p0000000]) (.q 0 (.q 1 (.q 2 (.q 3 (.q 4 (.q 5 (.e 6 (.q 7 (.e 8 .nil))))))))) hmix (by kernel_rfl) (NoPanic.then NoPanic.post) ?_
      refine o_qs rfl rfl (qs_ldpt encV fitv43 rfl 6 rfl (.slice p000000_a p000000.length p000000_c) (Nat.le_of_ble_eq_true rfl) rfl) ?_
      refine o_s (.int .i64 n0) rfl (by kernel_rfl) ?_
      refine o_qs rfl rfl (qs_ldpt encV fitv80 rfl 5 rfl (.slice p00000_a p00000.length p00000_c) (Nat.le_of_ble_eq_true rfl) rfl) ?_
      refine o_s (.int .i64 n0) rfl (by kernel_rfl) ?_
      refine o_s (.float .f32 s1) rfl (by kernel_rfl) ?_
      refine o_qs rfl rfl (qs_idx (IsIdx.beg (e := encF .f32) hb3 rfl hx8) Tryd.underlying43 fit48 rfl rfl) ?_
      refine o_stS (vs := [.float .f32 s1]) hb3 rfl hl4 rfl rfl (PH.le_refl _) fit48 rfl rfl rfl rfl (idx_some hx8).2.1 ?_
      refine o_qs rfl rfl (qs_idx (IsIdx.beg (e := encB) hb2 rfl hx9) Tryd.underlying80 fit4 rfl rfl) ?_
      refine o_perm (fr1_perm 1 _) ?_
      refine o_stS (vs := [.bool true]) hb2 rfl hl5 rfl rfl (PH.le_refl _) fit4 rfl rfl rfl rfl (idx_some hx9).2.1 ?_
      refine o_nil ?_
      refine e_then ?_
      obtain ⟨r2, hr2, hp⟩ := bnd_some hp
      refine c_region ?_
      refine l_q rfl (qs_mkI Tryd.underlying87 rfl rfl) ?_
      refine l_s (.float .f32 s1) (by kernel_rfl) ?_
      refine l_s (.int .i64 n0) (by kernel_rfl) ?_
      refine l_s (.agg #[.float .f32 s1, .int .i64 n0]) (by kernel_rfl) ?_
      refine l_q rfl (qs_mkI Tryd.underlying85 rfl rfl) ?_
      refine l_call rfl rfl Tryd.call47 (vs := [.iface 87 (.pointer (some ⟨b_p0000000, 0, none⟩)), .iface 85 (.agg #[.float .f32 s1, .int .i64 n0])]) rfl (fun v D3 As3 => ∃ (a2 : Option Addr) (cp2 : Nat), PH.le D1 D3 ∧ v = .tuple #[] ∧ As3 = pt b_p0000000 [.slice a2 r2.length cp2] 82 :: OwnS D3 encS_water_spill 85 (.slice a2 r2.length cp2) r2 :: OwnS D1 encB 4 (.slice p0000_a p0000.length p0000_c) p0000 :: pt b_p0 [.int .i64 p0.Region.X, .int .i64 p0.Region.Y, .int .i64 p0.Region.W, .int .i64 p0.Region.H, .slice p0_v1a p0.V.length p0_v1c] 45 :: pt b_p00 [.float .f32 p00.v, .int .i64 p00.k] 85 :: pt b_p000 [.float .f32 p000] 48 :: pt b_p0000 [.slice p0000_a p0000.length p0000_c] 80 :: pt b_p00000 [.slice p00000_a p00000.length p00000_c] 80 :: pt b_p000000 [.slice p000000_a p000000.length p000000_c] 43 :: OwnS D1 encB 4 (.slice p00000_a p00000.length p00000_c) l2 :: OwnS D1 (encF .f32) 48 (.slice p000000_a p000000.length p000000_c) l1 :: F) (fun w hS => (container_heap_Push_s b_p0000000 p0000000 p0000000_a p0000000_c (⟨s1, n0⟩ : S_water_spill) _  _ _ hr2 w (hS.perm (pick_perm [7, 8, 0, 1, 2, 3, 4, 5, 6] rfl rfl))).mono fun e w' ⟨D3, a2, cp2, hle2, he, hS2⟩ => ⟨_, D3, _, he, ⟨a2, cp2, hle2, rfl, rfl⟩, hS2⟩) ?_
      rintro _ D3 As3 ⟨a2, cp2, hle2, rfl, hA3⟩
      subst As3
      replace p0_h1 := p0_h1.mono hle2
      refine l_nil ?_
      obtain rfl := Option.some.inj hp
      refine e_perm (fr1_perm 2 _) ?_
      refine e_imp (OwnS.mono hle2) ?_
      refine e_perm (fr1_perm 9 _) ?_
      refine e_imp (OwnS.mono hle2) ?_
      refine e_perm (fr1_perm 10 _) ?_
      refine e_imp (OwnS.mono hle2) ?_
      refine e_perm (show List.Perm _ (pt b_p0 [.int .i64 p0.Region.X, .int .i64 p0.Region.Y, .int .i64 p0.Region.W, .int .i64 p0.Region.H, .slice p0_v1a p0.V.length p0_v1c] 45 :: pt b_p00 [.float .f32 p00.v, .int .i64 p00.k] 85 :: pt b_p000 [.float .f32 p000] 48 :: pt b_p0000 [.slice p0000_a p0000.length p0000_c] 80 :: OwnS D3 encB 4 (.slice p0000_a p0000.length p0000_c) p0000 :: pt b_p00000 [.slice p00000_a p00000.length p00000_c] 80 :: OwnS D3 encB 4 (.slice p00000_a p00000.length p00000_c) l2 :: pt b_p000000 [.slice p000000_a p000000.length p000000_c] 43 :: OwnS D3 (encF .f32) 48 (.slice p000000_a p000000.length p000000_c) l1 :: pt b_p0000000 [.slice a2 r2.length cp2] 82 :: OwnS D3 encS_water_spill 85 (.slice a2 r2.length cp2) r2 :: F) from pick_perm [5, 6, 7, 8, 2, 9, 1, 10, 0, 3, 4] rfl rfl) ?_
      exact post_all (vs := []) (.tuple #[]) trivial rfl (.inr rfl) (fun w hS => ⟨D3, a2, cp2, (PH.le_trans hD1 hle2), rfl, hS⟩)
    · skip
      replace hp := if_f ht2 hp
      refine c_skip ?_
      obtain rfl := Option.some.inj hp
      refine e_perm (show List.Perm _ (pt b_p0 [.int .i64 p0.Region.X, .int .i64 p0.Region.Y, .int .i64 p0.Region.W, .int .i64 p0.Region.H, .slice p0_v1a p0.V.length p0_v1c] 45 :: pt b_p00 [.float .f32 p00.v, .int .i64 p00.k] 85 :: pt b_p000 [.float .f32 p000] 48 :: pt b_p0000 [.slice p0000_a p0000.length p0000_c] 80 :: OwnS D1 encB 4 (.slice p0000_a p0000.length p0000_c) p0000 :: pt b_p00000 [.slice p00000_a p00000.length p00000_c] 80 :: OwnS D1 encB 4 (.slice p00000_a p00000.length p00000_c) p00000 :: pt b_p000000 [.slice p000000_a p000000.length p000000_c] 43 :: OwnS D1 (encF .f32) 48 (.slice p000000_a p000000.length p000000_c) p000000 :: pt b_p0000000 [.slice p0000000_a p0000000.length p0000000_c] 82 :: OwnS D1 encS_water_spill 85 (.slice p0000000_a p0000000.length p0000000_c) p0000000 :: F) from pick_perm [3, 4, 5, 6, 2, 7, 1, 8, 0] rfl rfl) ?_
      exact post_all (vs := []) (.tuple #[]) trivial rfl (.inr rfl) (fun w hS => ⟨D1, p0000000_a, p0000000_c, hD1, rfl, hS⟩)

-- tarnfell/water.Neighbours
set_option maxRecDepth 100000 in
set_option maxHeartbeats 3000000 in
theorem water_Neighbours_s (r0 : S_api_Region) (k0 : Int) (b_each0_c0 : Nat) (each0_c0 : S_api_Field) (each0_c0_v1a : Option Addr) (each0_c0_v1c : Nat) (b_each0_c1 : Nat) (each0_c1 : S_water_spill) (b_each0_c2 : Nat) (each0_c2 : Nat) (b_each0_c3 : Nat) (each0_c3 : List Bool) (each0_c3_a : Option Addr) (each0_c3_c : Nat) (b_each0_c4 : Nat) (each0_c4 : List Bool) (each0_c4_a : Option Addr) (each0_c4_c : Nat) (b_each0_c5 : Nat) (each0_c5 : List Nat) (each0_c5_a : Option Addr) (each0_c5_c : Nat) (b_each0_c6 : Nat) (each0_c6 : List S_water_spill) (each0_c6_a : Option Addr) (each0_c6_c : Nat) (D : PH) (each0_c0_h1 : RO (encF .f32) D (.slice each0_c0_v1a each0_c0.V.length each0_c0_v1c) each0_c0.V) (F : List Assert) (r : (List Bool) × (List Nat) × (List S_water_spill)) (hp : water_Neighbours_p r0 k0 each0_c0 each0_c1 each0_c2 each0_c3 each0_c4 each0_c5 each0_c6 = some r) : ∀ w : World, SInv D (pt b_each0_c0 [.int .i64 each0_c0.Region.X, .int .i64 each0_c0.Region.Y, .int .i64 each0_c0.Region.W, .int .i64 each0_c0.Region.H, .slice each0_c0_v1a each0_c0.V.length each0_c0_v1c] 45 :: pt b_each0_c1 [.float .f32 each0_c1.v, .int .i64 each0_c1.k] 85 :: pt b_each0_c2 [.float .f32 each0_c2] 48 :: pt b_each0_c3 [.slice each0_c3_a each0_c3.length each0_c3_c] 80 :: OwnS D encB 4 (.slice each0_c3_a each0_c3.length each0_c3_c) each0_c3 :: pt b_each0_c4 [.slice each0_c4_a each0_c4.length each0_c4_c] 80 :: OwnS D encB 4 (.slice each0_c4_a each0_c4.length each0_c4_c) each0_c4 :: pt b_each0_c5 [.slice each0_c5_a each0_c5.length each0_c5_c] 43 :: OwnS D (encF .f32) 48 (.slice each0_c5_a each0_c5.length each0_c5_c) each0_c5 :: pt b_each0_c6 [.slice each0_c6_a each0_c6.length each0_c6_c] 82 :: OwnS D encS_water_spill 85 (.slice each0_c6_a each0_c6.length each0_c6_c) each0_c6 :: F) w → Calls Tryd.prog 45 #[.agg #[.int .i64 r0.X, .int .i64 r0.Y, .int .i64 r0.W, .int .i64 r0.H], .int .i64 k0, .func (.func 46) #[] #[.pointer (some ⟨b_each0_c0, 0, none⟩), .pointer (some ⟨b_each0_c1, 0, none⟩), .pointer (some ⟨b_each0_c2, 0, none⟩), .pointer (some ⟨b_each0_c3, 0, none⟩), .pointer (some ⟨b_each0_c4, 0, none⟩), .pointer (some ⟨b_each0_c5, 0, none⟩), .pointer (some ⟨b_each0_c6, 0, none⟩)]] w (fun e w' => ∃ (D1 : PH) (q_a1 : Option Addr) (q_cp1 : Nat), PH.le D D1 ∧ e = .returned (.tuple #[]) ∧ SInv D1 (pt b_each0_c0 [.int .i64 each0_c0.Region.X, .int .i64 each0_c0.Region.Y, .int .i64 each0_c0.Region.W, .int .i64 each0_c0.Region.H, .slice each0_c0_v1a each0_c0.V.length each0_c0_v1c] 45 :: pt b_each0_c1 [.float .f32 each0_c1.v, .int .i64 each0_c1.k] 85 :: pt b_each0_c2 [.float .f32 each0_c2] 48 :: pt b_each0_c3 [.slice each0_c3_a each0_c3.length each0_c3_c] 80 :: OwnS D1 encB 4 (.slice each0_c3_a each0_c3.length each0_c3_c) each0_c3 :: pt b_each0_c4 [.slice each0_c4_a each0_c4.length each0_c4_c] 80 :: OwnS D1 encB 4 (.slice each0_c4_a each0_c4.length each0_c4_c) r.1 :: pt b_each0_c5 [.slice each0_c5_a each0_c5.length each0_c5_c] 43 :: OwnS D1 (encF .f32) 48 (.slice each0_c5_a each0_c5.length each0_c5_c) r.2.1 :: pt b_each0_c6 [.slice q_a1 r.2.2.length q_cp1] 82 :: OwnS D1 encS_water_spill 85 (.slice q_a1 r.2.2.length q_cp1) r.2.2 :: F) w') := by
  intro w hS
  refine call_intro Tryd.func45 rfl Tryd.ntmps45 (Nat.le_of_ble_eq_true rfl) hS ?_
  clear hS w
  unfold water_Neighbours_p at hp
  refine c_seq ?_
  refine c_region ?_
  refine l_box (cs := [.int .i64 r0.X, .int .i64 r0.Y, .int .i64 r0.W, .int .i64 r0.H]) rfl rfl (fun b2 => ?_)
  refine l_nil ?_
  refine e_then ?_
  refine c_seq ?_
  refine c_quiet ?_
  refine ql_s (.int .i64 0) (by kernel_rfl) ?_
  refine ql_nil ?_
  refine e_then ?_
  have hm0 : (8 : Nat) = ((8 : Int)).toNat := rfl
  have hb0 : ((8 : Int)) ≤ 4611686018427387904 := by decide
  have hm1 := hm0; have hb1 := hb0; clear hm0 hb0
  obtain ⟨x1, hs1, hp⟩ := bnd_some hp
  obtain ⟨body1, hbody1, hs1⟩ := forS_gen hs1
  refine c_cut_end (fun φ1 D1 As1 => ∃ (a1 : Option Addr) (cp1 : Nat), Is φ1 [] ∧ PH.le D D1 ∧ As1 = pt b2 [.int .i64 r0.X, .int .i64 r0.Y, .int .i64 r0.W, .int .i64 r0.H] 42 :: pt b_each0_c0 [.int .i64 each0_c0.Region.X, .int .i64 each0_c0.Region.Y, .int .i64 each0_c0.Region.W, .int .i64 each0_c0.Region.H, .slice each0_c0_v1a each0_c0.V.length each0_c0_v1c] 45 :: pt b_each0_c1 [.float .f32 each0_c1.v, .int .i64 each0_c1.k] 85 :: pt b_each0_c2 [.float .f32 each0_c2] 48 :: pt b_each0_c3 [.slice each0_c3_a each0_c3.length each0_c3_c] 80 :: OwnS D1 encB 4 (.slice each0_c3_a each0_c3.length each0_c3_c) each0_c3 :: pt b_each0_c4 [.slice each0_c4_a each0_c4.length each0_c4_c] 80 :: OwnS D1 encB 4 (.slice each0_c4_a each0_c4.length each0_c4_c) x1.1 :: pt b_each0_c5 [.slice each0_c5_a each0_c5.length each0_c5_c] 43 :: OwnS D1 (encF .f32) 48 (.slice each0_c5_a each0_c5.length each0_c5_c) x1.2.1 :: pt b_each0_c6 [.slice a1 x1.2.2.length cp1] 82 :: OwnS D1 encS_water_spill 85 (.slice a1 x1.2.2.length cp1) x1.2.2 :: F) ?_ ?_
  · skip
    refine c_block ?_
    refine c_loop (fun k φ1 D2 As1 => ∃ (j1 i1 : Nat) (s1 : (List Bool) × (List Nat) × (List S_water_spill)) (a2 : Option Addr) (cp2 : Nat), k = j1 + 1 ∧ i1 + j1 = 8 ∧ Is φ1 [(1, .int .i64 k0), (2, .func (.func 46) #[] #[.pointer (some ⟨b_each0_c0, 0, none⟩), .pointer (some ⟨b_each0_c1, 0, none⟩), .pointer (some ⟨b_each0_c2, 0, none⟩), .pointer (some ⟨b_each0_c3, 0, none⟩), .pointer (some ⟨b_each0_c4, 0, none⟩), .pointer (some ⟨b_each0_c5, 0, none⟩), .pointer (some ⟨b_each0_c6, 0, none⟩)]), (3, .pointer (some ⟨b2, 0, none⟩)), (9, .int .i64 (i1 : Int))] ∧ PH.le D D2 ∧ As1 = pt b2 [.int .i64 r0.X, .int .i64 r0.Y, .int .i64 r0.W, .int .i64 r0.H] 42 :: pt b_each0_c0 [.int .i64 each0_c0.Region.X, .int .i64 each0_c0.Region.Y, .int .i64 each0_c0.Region.W, .int .i64 each0_c0.Region.H, .slice each0_c0_v1a each0_c0.V.length each0_c0_v1c] 45 :: pt b_each0_c1 [.float .f32 each0_c1.v, .int .i64 each0_c1.k] 85 :: pt b_each0_c2 [.float .f32 each0_c2] 48 :: pt b_each0_c3 [.slice each0_c3_a each0_c3.length each0_c3_c] 80 :: OwnS D2 encB 4 (.slice each0_c3_a each0_c3.length each0_c3_c) each0_c3 :: pt b_each0_c4 [.slice each0_c4_a each0_c4.length each0_c4_c] 80 :: OwnS D2 encB 4 (.slice each0_c4_a each0_c4.length each0_c4_c) s1.1 :: pt b_each0_c5 [.slice each0_c5_a each0_c5.length each0_c5_c] 43 :: OwnS D2 (encF .f32) 48 (.slice each0_c5_a each0_c5.length each0_c5_c) s1.2.1 :: pt b_each0_c6 [.slice a2 s1.2.2.length cp2] 82 :: OwnS D2 encS_water_spill 85 (.slice a2 s1.2.2.length cp2) s1.2.2 :: F ∧ forS body1 j1 i1 s1 = some x1) ⟨8 + 1, 8, 0, (each0_c4, each0_c5, each0_c6), each0_c6_a, each0_c6_c, rfl, Nat.zero_add _, ⟨rfl, rfl, rfl, rfl, trivial⟩, (PH.le_refl _), rfl, hs1⟩ ?_ ?_
    · rintro _ _ _ ⟨_, _, _, _, _, h0, _⟩; omega
    intro k1
    rintro φ1 D2 As1 ⟨j1, i1, s1, a2, cp2, hk1, hij1, hI1, hD1, hA1, hs2⟩
    subst As1
    replace each0_c0_h1 := each0_c0_h1.mono hD1
    refine c_frame _ hI1 ?_
    obtain rfl : k1 = j1 := by omega
    clear hk1
    rcases k1 with _ | j1
    · skip
      refine c_seq ?_
      refine c_quiet ?_
      refine ql_s (.bool (decide ((i1 : Int) < 8))) (by kernel_rfl) ?_
      refine ql_nil ?_
      refine e_then ?_
      refine c_seq ?_
      refine c_cond (decide ((i1 : Int) < 8)) rfl (fun ht1 => absurd ((dec_lt_f hm1 (by omega)).symm.trans ht1) (by simp)) (fun _ => ?_)
      refine c_exit ?_
      refine e_then_exit ?_
      refine e_then_exit ?_
      obtain rfl := Option.some.inj hs2
      refine e_blk_exit ?_
      exact e_cut ⟨a2, cp2, trivial, hD1, rfl⟩
    · skip
      obtain ⟨y1, hx1, hs2⟩ := forS_some hs2
      replace hx1 := (congrFun (congrFun hbody1 i1) s1).trans hx1
      refine c_seq ?_
      refine c_quiet ?_
      refine ql_s (.bool (decide ((i1 : Int) < 8))) (by kernel_rfl) ?_
      refine ql_nil ?_
      refine e_then ?_
      refine c_seq ?_
      refine c_cond (decide ((i1 : Int) < 8)) rfl (fun _ => ?_) (fun ht2 => absurd ((dec_lt_t hm1 (by omega)).symm.trans ht2) (by simp))
      refine c_skip ?_
      refine e_then ?_
      refine c_seq ?_
      obtain ⟨s2, hs3, hx1⟩ := bnd_some hx1
      refine c_cut_end (fun φ1 D3 As1 => ∃ (a3 : Option Addr) (cp3 : Nat), Is φ1 [(1, .int .i64 k0), (2, .func (.func 46) #[] #[.pointer (some ⟨b_each0_c0, 0, none⟩), .pointer (some ⟨b_each0_c1, 0, none⟩), .pointer (some ⟨b_each0_c2, 0, none⟩), .pointer (some ⟨b_each0_c3, 0, none⟩), .pointer (some ⟨b_each0_c4, 0, none⟩), .pointer (some ⟨b_each0_c5, 0, none⟩), .pointer (some ⟨b_each0_c6, 0, none⟩)]), (3, .pointer (some ⟨b2, 0, none⟩)), (9, .int .i64 (i1 : Int))] ∧ PH.le D2 D3 ∧ As1 = pt b2 [.int .i64 r0.X, .int .i64 r0.Y, .int .i64 r0.W, .int .i64 r0.H] 42 :: pt b_each0_c0 [.int .i64 each0_c0.Region.X, .int .i64 each0_c0.Region.Y, .int .i64 each0_c0.Region.W, .int .i64 each0_c0.Region.H, .slice each0_c0_v1a each0_c0.V.length each0_c0_v1c] 45 :: pt b_each0_c1 [.float .f32 each0_c1.v, .int .i64 each0_c1.k] 85 :: pt b_each0_c2 [.float .f32 each0_c2] 48 :: pt b_each0_c3 [.slice each0_c3_a each0_c3.length each0_c3_c] 80 :: OwnS D3 encB 4 (.slice each0_c3_a each0_c3.length each0_c3_c) each0_c3 :: pt b_each0_c4 [.slice each0_c4_a each0_c4.length each0_c4_c] 80 :: OwnS D3 encB 4 (.slice each0_c4_a each0_c4.length each0_c4_c) s2.1 :: pt b_each0_c5 [.slice each0_c5_a each0_c5.length each0_c5_c] 43 :: OwnS D3 (encF .f32) 48 (.slice each0_c5_a each0_c5.length each0_c5_c) s2.2.1 :: pt b_each0_c6 [.slice a3 s2.2.2.length cp3] 82 :: OwnS D3 encS_water_spill 85 (.slice a3 s2.2.2.length cp3) s2.2.2 :: F) ?_ ?_
      · skip
        refine c_block ?_
        refine c_seq ?_
        refine c_quiet ?_
        refine ql_s (.int .i64 (i1 : Int)) (by kernel_rfl) ?_
        refine ql_s (.int .i64 (i1 : Int)) (by kernel_rfl) ?_
        refine ql_nil ?_
        refine e_then ?_
        refine c_seq ?_
        obtain ⟨r1, hr1, hs3⟩ := bnd_some hs3
        refine c_quiet ?_
        refine ql_q rfl (qs_ldpt (encW 4 (by decide)) fitv42 rfl 0 rfl (.agg #[.int .i64 r0.X, .int .i64 r0.Y, .int .i64 r0.W, .int .i64 r0.H]) (Nat.le_of_ble_eq_true rfl) rfl) ?_
        refine ql_s (.int .i64 k0) (by kernel_rfl) ?_
        refine ql_s (.int .i64 (i1 : Int)) (by kernel_rfl) ?_
        refine ql_call (v := .tuple #[.int .i64 r1.1, .bool r1.2]) rfl (run_call (vs := [.agg #[.int .i64 r0.X, .int .i64 r0.Y, .int .i64 r0.W, .int .i64 r0.H], .int .i64 k0, .int .i64 (i1 : Int)]) rfl Tryd.call59 rfl) (fun w hS => (water_beside_s r0 k0 (i1 : Int) _  _ _ hr1 w (hS)).mono fun e w' h => ⟨h.1, h.2⟩) ?_
        refine ql_s (.tuple #[.int .i64 r1.1, .bool r1.2]) (by kernel_rfl) ?_
        refine ql_s (.int .i64 r1.1) (by kernel_rfl) ?_
        refine ql_s (.bool r1.2) (by kernel_rfl) ?_
        refine ql_s (.int .i64 r1.1) (by kernel_rfl) ?_
        refine ql_s (.bool r1.2) (by kernel_rfl) ?_
        refine ql_nil ?_
        refine e_then ?_
        refine c_seq ?_
        refine c_quiet ?_
        refine ql_s (.bool r1.2) (by kernel_rfl) ?_
        refine ql_nil ?_
        refine e_then ?_
        refine c_cond (r1.2) rfl (fun ht3 => ?_) (fun ht3 => ?_)
        · skip
          replace hs3 := if_t ht3 hs3
          obtain ⟨r2, hr2, hs3⟩ := bnd_some hs3
          refine c_perm (fr1_perm 7 _) ?_
          refine c_adr (fun b3 hb2 hl1 hbd1 hcap1 => ?_)
          refine c_perm (fr1_perm 9 _) ?_
          refine c_adr (fun b4 hb3 hl2 hbd2 hcap2 => ?_)
          refine c_region ?_
          refine l_s (.func (.func 46) #[] #[.pointer (some ⟨b_each0_c0, 0, none⟩), .pointer (some ⟨b_each0_c1, 0, none⟩), .pointer (some ⟨b_each0_c2, 0, none⟩), .pointer (some ⟨b_each0_c3, 0, none⟩), .pointer (some ⟨b_each0_c4, 0, none⟩), .pointer (some ⟨b_each0_c5, 0, none⟩), .pointer (some ⟨b_each0_c6, 0, none⟩)]) (by kernel_rfl) ?_
          refine l_s (.int .i64 r1.1) (by kernel_rfl) ?_
          refine l_s (.int .i64 (i1 : Int)) (by kernel_rfl) ?_
          refine l_call rfl rfl Tryd.call46 (vs := [.int .i64 r1.1, .int .i64 (i1 : Int), .pointer (some ⟨b_each0_c0, 0, none⟩), .pointer (some ⟨b_each0_c1, 0, none⟩), .pointer (some ⟨b_each0_c2, 0, none⟩), .pointer (some ⟨b_each0_c3, 0, none⟩), .pointer (some ⟨b_each0_c4, 0, none⟩), .pointer (some ⟨b_each0_c5, 0, none⟩), .pointer (some ⟨b_each0_c6, 0, none⟩)]) rfl (fun v D5 As3 => ∃ (a5 : Option Addr) (cp5 : Nat), PH.le D2 D5 ∧ v = .tuple #[] ∧ As3 = pt b_each0_c0 [.int .i64 each0_c0.Region.X, .int .i64 each0_c0.Region.Y, .int .i64 each0_c0.Region.W, .int .i64 each0_c0.Region.H, .slice each0_c0_v1a each0_c0.V.length each0_c0_v1c] 45 :: pt b_each0_c1 [.float .f32 each0_c1.v, .int .i64 each0_c1.k] 85 :: pt b_each0_c2 [.float .f32 each0_c2] 48 :: pt b_each0_c3 [.slice each0_c3_a each0_c3.length each0_c3_c] 80 :: OwnS D5 encB 4 (.slice each0_c3_a each0_c3.length each0_c3_c) each0_c3 :: pt b_each0_c4 [.slice each0_c4_a each0_c4.length each0_c4_c] 80 :: OwnS D5 encB 4 (.slice each0_c4_a each0_c4.length each0_c4_c) r2.1 :: pt b_each0_c5 [.slice each0_c5_a each0_c5.length each0_c5_c] 43 :: OwnS D5 (encF .f32) 48 (.slice each0_c5_a each0_c5.length each0_c5_c) r2.2.1 :: pt b_each0_c6 [.slice a5 r2.2.2.length cp5] 82 :: OwnS D5 encS_water_spill 85 (.slice a5 r2.2.2.length cp5) r2.2.2 :: pt b2 [.int .i64 r0.X, .int .i64 r0.Y, .int .i64 r0.W, .int .i64 r0.H] 42 :: F) (fun w hS => (show Calls Tryd.prog 46 #[.int .i64 r1.1, .int .i64 (i1 : Int), .pointer (some ⟨b_each0_c0, 0, none⟩), .pointer (some ⟨b_each0_c1, 0, none⟩), .pointer (some ⟨b_each0_c2, 0, none⟩), .pointer (some ⟨b_each0_c3, 0, none⟩), .pointer (some ⟨b_each0_c4, 0, none⟩), .pointer (some ⟨b_each0_c5, 0, none⟩), .pointer (some ⟨b_each0_c6, 0, none⟩)] w (fun e w' => ∃ (D5 : PH) (a5 : Option Addr) (cp5 : Nat), PH.le D2 D5 ∧ e = .returned (.tuple #[]) ∧ SInv D5 (pt b_each0_c0 [.int .i64 each0_c0.Region.X, .int .i64 each0_c0.Region.Y, .int .i64 each0_c0.Region.W, .int .i64 each0_c0.Region.H, .slice each0_c0_v1a each0_c0.V.length each0_c0_v1c] 45 :: pt b_each0_c1 [.float .f32 each0_c1.v, .int .i64 each0_c1.k] 85 :: pt b_each0_c2 [.float .f32 each0_c2] 48 :: pt b_each0_c3 [.slice each0_c3_a each0_c3.length each0_c3_c] 80 :: OwnS D5 encB 4 (.slice each0_c3_a each0_c3.length each0_c3_c) each0_c3 :: pt b_each0_c4 [.slice each0_c4_a each0_c4.length each0_c4_c] 80 :: OwnS D5 encB 4 (.slice each0_c4_a each0_c4.length each0_c4_c) r2.1 :: pt b_each0_c5 [.slice each0_c5_a each0_c5.length each0_c5_c] 43 :: OwnS D5 (encF .f32) 48 (.slice each0_c5_a each0_c5.length each0_c5_c) r2.2.1 :: pt b_each0_c6 [.slice a5 r2.2.2.length cp5] 82 :: OwnS D5 encS_water_spill 85 (.slice a5 r2.2.2.length cp5) r2.2.2 :: pt b2 [.int .i64 r0.X, .int .i64 r0.Y, .int .i64 r0.W, .int .i64 r0.H] 42 :: F) w') from by have hq := water_filled_1_s r1.1 (i1 : Int) b_each0_c0 each0_c0 each0_c0_v1a each0_c0_v1c b_each0_c1 each0_c1 b_each0_c2 each0_c2 b_each0_c3 each0_c3 each0_c3_a each0_c3_c b_each0_c4 s1.1 each0_c4_a each0_c4_c b_each0_c5 s1.2.1 each0_c5_a each0_c5_c b_each0_c6 s1.2.2 a2 cp2 _ each0_c0_h1 _ _ hr2 w (show SInv D2 (pt b_each0_c0 [.int .i64 each0_c0.Region.X, .int .i64 each0_c0.Region.Y, .int .i64 each0_c0.Region.W, .int .i64 each0_c0.Region.H, .slice each0_c0_v1a each0_c0.V.length each0_c0_v1c] 45 :: pt b_each0_c1 [.float .f32 each0_c1.v, .int .i64 each0_c1.k] 85 :: pt b_each0_c2 [.float .f32 each0_c2] 48 :: pt b_each0_c3 [.slice each0_c3_a each0_c3.length each0_c3_c] 80 :: OwnS D2 encB 4 (.slice each0_c3_a each0_c3.length each0_c3_c) each0_c3 :: pt b_each0_c4 [.slice each0_c4_a s1.1.length each0_c4_c] 80 :: OwnS D2 encB 4 (.slice each0_c4_a s1.1.length each0_c4_c) s1.1 :: pt b_each0_c5 [.slice each0_c5_a s1.2.1.length each0_c5_c] 43 :: OwnS D2 (encF .f32) 48 (.slice each0_c5_a s1.2.1.length each0_c5_c) s1.2.1 :: pt b_each0_c6 [.slice a2 s1.2.2.length cp2] 82 :: OwnS D2 encS_water_spill 85 (.slice a2 s1.2.2.length cp2) s1.2.2 :: pt b2 [.int .i64 r0.X, .int .i64 r0.Y, .int .i64 r0.W, .int .i64 r0.H] 42 :: F) w from by have h2 : SInv D2 (pt b_each0_c0 [.int .i64 each0_c0.Region.X, .int .i64 each0_c0.Region.Y, .int .i64 each0_c0.Region.W, .int .i64 each0_c0.Region.H, .slice each0_c0_v1a each0_c0.V.length each0_c0_v1c] 45 :: pt b_each0_c1 [.float .f32 each0_c1.v, .int .i64 each0_c1.k] 85 :: pt b_each0_c2 [.float .f32 each0_c2] 48 :: pt b_each0_c3 [.slice each0_c3_a each0_c3.length each0_c3_c] 80 :: OwnS D2 encB 4 (.slice each0_c3_a each0_c3.length each0_c3_c) each0_c3 :: pt b_each0_c4 [.slice each0_c4_a each0_c4.length each0_c4_c] 80 :: OwnS D2 encB 4 (.slice each0_c4_a each0_c4.length each0_c4_c) s1.1 :: pt b_each0_c5 [.slice each0_c5_a each0_c5.length each0_c5_c] 43 :: OwnS D2 (encF .f32) 48 (.slice each0_c5_a each0_c5.length each0_c5_c) s1.2.1 :: pt b_each0_c6 [.slice a2 s1.2.2.length cp2] 82 :: OwnS D2 encS_water_spill 85 (.slice a2 s1.2.2.length cp2) s1.2.2 :: pt b2 [.int .i64 r0.X, .int .i64 r0.Y, .int .i64 r0.W, .int .i64 r0.H] 42 :: F) w := hS.perm (pick_perm [3, 4, 5, 6, 7, 8, 1, 9, 0, 10, 11, 2] rfl rfl); rw [← hl1, ← hl2] at h2; exact h2); (try simp only [hl1, hl2] at hq); exact hq).mono fun e w' ⟨D5, a5, cp5, hle2, he, hS2⟩ => ⟨_, D5, _, he, ⟨a5, cp5, hle2, rfl, rfl⟩, hS2⟩) ?_
          rintro _ D5 As3 ⟨a5, cp5, hle2, rfl, hA3⟩
          subst As3
          replace each0_c0_h1 := each0_c0_h1.mono hle2
          refine l_nil ?_
          refine e_blk ?_
          refine e_perm (fr1_perm 11 _) ?_
          obtain rfl := Option.some.inj hs3
          exact e_cut ⟨a5, cp5, ⟨rfl, rfl, rfl, rfl, trivial⟩, hle2, rfl⟩
        · skip
          replace hs3 := if_f ht3 hs3
          refine c_skip ?_
          refine e_blk ?_
          obtain rfl := Option.some.inj hs3
          exact e_cut ⟨a2, cp2, ⟨rfl, rfl, rfl, rfl, trivial⟩, (PH.le_refl _), rfl⟩
      · skip
        rintro φ2 D3 As4 ⟨a3, cp3, hI2, hD2, hA4⟩
        subst As4
        replace each0_c0_h1 := each0_c0_h1.mono hD2
        refine e_frame _ hI2 ?_
        refine e_then ?_
        refine c_quiet ?_
        refine ql_s (.int .i64 (addI (i1 : Int) 1)) (by kernel_rfl) ?_
        refine ql_s (.int .i64 (addI (i1 : Int) 1)) (by kernel_rfl) ?_
        refine ql_nil ?_
        obtain rfl := Option.some.inj hx1
        exact e_cut ⟨j1, i1 + 1, (s2.1, s2.2.1, s2.2.2), a3, cp3, by omega, by omega, ⟨rfl, rfl, rfl, (congrArg (Value.int .i64) (addI_succ (by omega))), trivial⟩, (PH.le_trans hD1 hD2), rfl, hs2⟩
  · skip
    rintro φ3 D1 As5 ⟨a1, cp1, hI3, hD3, hA5⟩
    subst As5
    replace each0_c0_h1 := each0_c0_h1.mono hD3
    refine e_frame _ hI3 ?_
    obtain rfl := Option.some.inj hp
    exact post_all (vs := []) (.tuple #[]) trivial rfl (.inr rfl) (fun w hS => ⟨D1, a1, cp1, hD3, rfl, hS.tail⟩)

-- tarnfell/water.filled
set_option maxRecDepth 100000 in
set_option maxHeartbeats 3000000 in
theorem water_filled_s (f0 : S_api_Field) (f0_v1a : Option Addr) (f0_v1c : Nat) (slope0 : Nat) (D : PH) (f0_h1 : RO (encF .f32) D (.slice f0_v1a f0.V.length f0_v1c) f0.V) (F : List Assert) (r : (List Nat)) (hp : water_filled_p f0 slope0 = some r) : ∀ w : World, SInv D (F) w → Calls Tryd.prog 29 #[.agg #[.int .i64 f0.Region.X, .int .i64 f0.Region.Y, .int .i64 f0.Region.W, .int .i64 f0.Region.H, .slice f0_v1a f0.V.length f0_v1c], .float .f32 slope0] w (fun e w' => ∃ (D1 : PH) (q_a1 : Option Addr) (q_cp1 : Nat), PH.le D D1 ∧ e = .returned (.slice q_a1 r.length q_cp1) ∧ RO (encF .f32) D1 (.slice q_a1 r.length q_cp1) r ∧ SInv D1 (F) w') := by
  intro w hS
  refine call_intro Tryd.func29 rfl Tryd.ntmps29 (Nat.le_of_ble_eq_true rfl) hS ?_
  clear hS w
  unfold water_filled_p at hp
  refine c_seq ?_
  refine c_region ?_
  refine l_box (cs := [.int .i64 f0.Region.X, .int .i64 f0.Region.Y, .int .i64 f0.Region.W, .int .i64 f0.Region.H, .slice f0_v1a f0.V.length f0_v1c]) rfl rfl (fun b3 => ?_)
  refine l_box (cs := [.float .f32 slope0]) rfl rfl (fun b4 => ?_)
  refine l_s (.slice none 0 0) (by kernel_rfl) ?_
  refine l_nil ?_
  refine e_then ?_
  refine c_seq ?_
  obtain ⟨l1, hl1, hp⟩ := bnd_some hp
  refine c_region ?_
  refine l_s (.pointer (some ⟨b3, 4, none⟩)) (by kernel_rfl) ?_
  refine l_q rfl (qs_ldpt encV fitv43 rfl 1 rfl (.slice f0_v1a f0.V.length f0_v1c) (Nat.le_of_ble_eq_true rfl) rfl) ?_
  refine l_s (.int .i64 (f0.V.length : Int)) (by kernel_rfl) ?_
  refine l_mkS (zs := [.float .f32 0]) hl1 rfl elem43 (by kernel_rfl) rfl rfl rfl (fun b7 cp2 => ?_)
  refine l_alloc (zs := [.slice none 0 0]) rfl (by kernel_rfl) (fun b8 => ?_)
  refine l_nilS D (encF .f32) 48 ?_
  refine l_perm (fr1_perm 1 _) ?_
  refine l_store (dd := none) (vs := [.slice (some ⟨b7, 0, none⟩) l1.length cp2]) (cs' := [.slice (some ⟨b7, 0, none⟩) l1.length cp2]) rfl (by kernel_rfl) (by kernel_rfl) rfl rfl (Nat.le_of_ble_eq_true rfl) rfl rfl ?_
  refine l_nil ?_
  refine e_perm (fr1_perm 1 _) ?_
  refine e_drop ?_
  refine e_then ?_
  refine c_seq ?_
  obtain ⟨l2, hl2, hp⟩ := bnd_some hp
  refine c_region ?_
  refine l_s (.pointer (some ⟨b3, 4, none⟩)) (by kernel_rfl) ?_
  refine l_q rfl (qs_ldpt encV fitv43 rfl 3 rfl (.slice f0_v1a f0.V.length f0_v1c) (Nat.le_of_ble_eq_true rfl) rfl) ?_
  refine l_s (.int .i64 (f0.V.length : Int)) (by kernel_rfl) ?_
  refine l_mkS (zs := [.bool false]) hl2 rfl elem80 (by kernel_rfl) rfl rfl rfl (fun b11 cp4 => ?_)
  refine l_alloc (zs := [.slice none 0 0]) rfl (by kernel_rfl) (fun b12 => ?_)
  refine l_nilS D encB 4 ?_
  refine l_perm (fr1_perm 1 _) ?_
  refine l_store (dd := none) (vs := [.slice (some ⟨b11, 0, none⟩) l2.length cp4]) (cs' := [.slice (some ⟨b11, 0, none⟩) l2.length cp4]) rfl (by kernel_rfl) (by kernel_rfl) rfl rfl (Nat.le_of_ble_eq_true rfl) rfl rfl ?_
  refine l_nil ?_
  refine e_perm (fr1_perm 1 _) ?_
  refine e_drop ?_
  refine e_then ?_
  refine c_seq ?_
  obtain ⟨l3, hl3, hp⟩ := bnd_some hp
  refine c_region ?_
  refine l_s (.pointer (some ⟨b3, 4, none⟩)) (by kernel_rfl) ?_
  refine l_q rfl (qs_ldpt encV fitv43 rfl 5 rfl (.slice f0_v1a f0.V.length f0_v1c) (Nat.le_of_ble_eq_true rfl) rfl) ?_
  refine l_s (.int .i64 (f0.V.length : Int)) (by kernel_rfl) ?_
  refine l_mkS (zs := [.bool false]) hl3 rfl elem80 (by kernel_rfl) rfl rfl rfl (fun b15 cp6 => ?_)
  refine l_alloc (zs := [.slice none 0 0]) rfl (by kernel_rfl) (fun b16 => ?_)
  refine l_nilS D encB 4 ?_
  refine l_perm (fr1_perm 1 _) ?_
  refine l_store (dd := none) (vs := [.slice (some ⟨b15, 0, none⟩) l3.length cp6]) (cs' := [.slice (some ⟨b15, 0, none⟩) l3.length cp6]) rfl (by kernel_rfl) (by kernel_rfl) rfl rfl (Nat.le_of_ble_eq_true rfl) rfl rfl ?_
  refine l_nil ?_
  refine e_perm (fr1_perm 1 _) ?_
  refine e_drop ?_
  refine e_then ?_
  refine c_seq ?_
  refine c_region ?_
  refine l_alloc (zs := [.slice none 0 0]) rfl (by kernel_rfl) (fun b18 => ?_)
  refine l_nilS D encS_water_spill 85 ?_
  refine l_nil ?_
  refine e_then ?_
  refine c_seq ?_
  refine c_seq ?_
  refine c_quiet ?_
  refine ql_s (.pointer (some ⟨b3, 4, none⟩)) (by kernel_rfl) ?_
  refine ql_q rfl (qs_ldpt encV fitv43 rfl 9 rfl (.slice f0_v1a f0.V.length f0_v1c) (Nat.le_of_ble_eq_true rfl) rfl) ?_
  refine ql_s (.int .i64 (f0.V.length : Int)) (by kernel_rfl) ?_
  refine ql_s (.int .i64 0) (by kernel_rfl) ?_
  refine ql_nil ?_
  refine e_then ?_
  have hb0 : (f0.V.length : Int) ≤ 4611686018427387904 := by have := RO.bound f0_h1; omega
  have hm0 : f0.V.length = (f0.V.length : Int).toNat := by omega
  have hm1 := hm0; have hb1 := hb0; clear hm0 hb0
  obtain ⟨x1, hs1, hp⟩ := bnd_some hp
  obtain ⟨body1, hbody1, hs1⟩ := forS_gen hs1
  refine c_cut_end (fun φ1 D1 As1 => ∃ (a1 : Option Addr) (cp7 : Nat), Is φ1 [(2, .pointer (some ⟨b3, 0, none⟩)), (3, .pointer (some ⟨b4, 0, none⟩)), (5, .pointer (some ⟨b8, 0, none⟩)), (6, .pointer (some ⟨b12, 0, none⟩)), (7, .pointer (some ⟨b16, 0, none⟩)), (8, .pointer (some ⟨b18, 0, none⟩))] ∧ PH.le D D1 ∧ As1 = OwnS D1 encS_water_spill 85 (.slice a1 x1.1.length cp7) x1.1 :: pt b18 [.slice a1 x1.1.length cp7] 82 :: pt b16 [.slice (some ⟨b15, 0, none⟩) l3.length cp6] 80 :: OwnS D1 encB 4 (.slice (some ⟨b15, 0, none⟩) l3.length cp6) x1.2.1 :: pt b12 [.slice (some ⟨b11, 0, none⟩) l2.length cp4] 80 :: OwnS D1 encB 4 (.slice (some ⟨b11, 0, none⟩) l2.length cp4) l2 :: pt b8 [.slice (some ⟨b7, 0, none⟩) l1.length cp2] 43 :: OwnS D1 (encF .f32) 48 (.slice (some ⟨b7, 0, none⟩) l1.length cp2) x1.2.2 :: pt b4 [.float .f32 slope0] 48 :: pt b3 [.int .i64 f0.Region.X, .int .i64 f0.Region.Y, .int .i64 f0.Region.W, .int .i64 f0.Region.H, .slice f0_v1a f0.V.length f0_v1c] 45 :: F) ?_ ?_
  · skip
    refine c_block ?_
    refine c_loop (fun k φ1 D2 As1 => ∃ (j1 i1 : Nat) (s1 : (List S_water_spill) × (List Bool) × (List Nat)) (a2 : Option Addr) (cp8 : Nat), k = j1 + 1 ∧ i1 + j1 = f0.V.length ∧ Is φ1 [(2, .pointer (some ⟨b3, 0, none⟩)), (3, .pointer (some ⟨b4, 0, none⟩)), (5, .pointer (some ⟨b8, 0, none⟩)), (6, .pointer (some ⟨b12, 0, none⟩)), (7, .pointer (some ⟨b16, 0, none⟩)), (8, .pointer (some ⟨b18, 0, none⟩)), (25, .slice f0_v1a f0.V.length f0_v1c), (26, .int .i64 (f0.V.length : Int)), (27, .int .i64 (i1 : Int))] ∧ PH.le D D2 ∧ As1 = OwnS D2 encS_water_spill 85 (.slice a2 s1.1.length cp8) s1.1 :: pt b18 [.slice a2 s1.1.length cp8] 82 :: pt b16 [.slice (some ⟨b15, 0, none⟩) l3.length cp6] 80 :: OwnS D2 encB 4 (.slice (some ⟨b15, 0, none⟩) l3.length cp6) s1.2.1 :: pt b12 [.slice (some ⟨b11, 0, none⟩) l2.length cp4] 80 :: OwnS D2 encB 4 (.slice (some ⟨b11, 0, none⟩) l2.length cp4) l2 :: pt b8 [.slice (some ⟨b7, 0, none⟩) l1.length cp2] 43 :: OwnS D2 (encF .f32) 48 (.slice (some ⟨b7, 0, none⟩) l1.length cp2) s1.2.2 :: pt b4 [.float .f32 slope0] 48 :: pt b3 [.int .i64 f0.Region.X, .int .i64 f0.Region.Y, .int .i64 f0.Region.W, .int .i64 f0.Region.H, .slice f0_v1a f0.V.length f0_v1c] 45 :: F ∧ forS body1 j1 i1 s1 = some x1) ⟨f0.V.length + 1, f0.V.length, 0, (([] : List S_water_spill), l3, l1), none, 0, rfl, Nat.zero_add _, ⟨rfl, rfl, rfl, rfl, rfl, rfl, rfl, rfl, rfl, trivial⟩, (PH.le_refl _), rfl, hs1⟩ ?_ ?_
    · rintro _ _ _ ⟨_, _, _, _, _, h0, _⟩; omega
    intro k1
    rintro φ1 D2 As1 ⟨j1, i1, s1, a2, cp8, hk1, hij1, hI1, hD1, hA1, hs2⟩
    subst As1
    replace f0_h1 := f0_h1.mono hD1
    refine c_frame _ hI1 ?_
    obtain rfl : k1 = j1 := by omega
    clear hk1
    rcases k1 with _ | j1
    · skip
      refine c_seq ?_
      refine c_quiet ?_
      refine ql_s (.bool (decide ((i1 : Int) < (f0.V.length : Int)))) (by kernel_rfl) ?_
      refine ql_nil ?_
      refine e_then ?_
      refine c_seq ?_
      refine c_cond (decide ((i1 : Int) < (f0.V.length : Int))) rfl (fun ht1 => absurd ((dec_lt_f hm1 (by omega)).symm.trans ht1) (by simp)) (fun _ => ?_)
      refine c_exit ?_
      refine e_then_exit ?_
      refine e_then_exit ?_
      obtain rfl := Option.some.inj hs2
      refine e_blk_exit ?_
      exact e_cut ⟨a2, cp8, ⟨rfl, rfl, rfl, rfl, rfl, rfl, trivial⟩, hD1, rfl⟩
    · skip
      obtain ⟨y1, hx1, hs2⟩ := forS_some hs2
      replace hx1 := (congrFun (congrFun hbody1 i1) s1).trans hx1
      refine c_seq ?_
      refine c_quiet ?_
      refine ql_s (.bool (decide ((i1 : Int) < (f0.V.length : Int)))) (by kernel_rfl) ?_
      refine ql_nil ?_
      refine e_then ?_
      refine c_seq ?_
      refine c_cond (decide ((i1 : Int) < (f0.V.length : Int))) rfl (fun _ => ?_) (fun ht2 => absurd ((dec_lt_t hm1 (by omega)).symm.trans ht2) (by simp))
      refine c_skip ?_
      refine e_then ?_
      refine c_seq ?_
      obtain ⟨s2, hs3, hx1⟩ := bnd_some hx1
      refine c_cut_end (fun φ1 D3 As1 => ∃ (a3 : Option Addr) (cp9 : Nat), Is φ1 [(2, .pointer (some ⟨b3, 0, none⟩)), (3, .pointer (some ⟨b4, 0, none⟩)), (5, .pointer (some ⟨b8, 0, none⟩)), (6, .pointer (some ⟨b12, 0, none⟩)), (7, .pointer (some ⟨b16, 0, none⟩)), (8, .pointer (some ⟨b18, 0, none⟩)), (25, .slice f0_v1a f0.V.length f0_v1c), (26, .int .i64 (f0.V.length : Int)), (27, .int .i64 (i1 : Int))] ∧ PH.le D2 D3 ∧ As1 = OwnS D3 encS_water_spill 85 (.slice a3 s2.1.length cp9) s2.1 :: pt b18 [.slice a3 s2.1.length cp9] 82 :: pt b16 [.slice (some ⟨b15, 0, none⟩) l3.length cp6] 80 :: OwnS D3 encB 4 (.slice (some ⟨b15, 0, none⟩) l3.length cp6) s2.2.1 :: pt b12 [.slice (some ⟨b11, 0, none⟩) l2.length cp4] 80 :: OwnS D3 encB 4 (.slice (some ⟨b11, 0, none⟩) l2.length cp4) l2 :: pt b8 [.slice (some ⟨b7, 0, none⟩) l1.length cp2] 43 :: OwnS D3 (encF .f32) 48 (.slice (some ⟨b7, 0, none⟩) l1.length cp2) s2.2.2 :: pt b4 [.float .f32 slope0] 48 :: pt b3 [.int .i64 f0.Region.X, .int .i64 f0.Region.Y, .int .i64 f0.Region.W, .int .i64 f0.Region.H, .slice f0_v1a f0.V.length f0_v1c] 45 :: F) ?_ ?_
      · skip
        refine c_block ?_
        refine c_seq ?_
        obtain ⟨x2, hx2, hs3⟩ := bnd_some hs3
        obtain ⟨b19, o1, h1, hq1⟩ := RO.at f0_h1 hx2
        refine c_quiet ?_
        refine ql_s (.int .i64 (i1 : Int)) (by kernel_rfl) ?_
        refine ql_q rfl (qs_idx hq1 Tryd.underlying43 fit48 rfl rfl) ?_
        refine ql_q rfl (qs_ldAtV fit48 rfl h1 valF) ?_
        refine ql_s (.int .i64 (i1 : Int)) (by kernel_rfl) ?_
        refine ql_s (.float .f32 x2) (by kernel_rfl) ?_
        refine ql_nil ?_
        refine e_then ?_
        refine c_seq ?_
        obtain ⟨r1, hr1, hs3⟩ := bnd_some hs3
        refine c_quiet ?_
        refine ql_s (.pointer (some ⟨b3, 0, none⟩)) (by kernel_rfl) ?_
        refine ql_q rfl (qs_ldpt (encW 4 (by decide)) fitv42 rfl 9 rfl (.agg #[.int .i64 f0.Region.X, .int .i64 f0.Region.Y, .int .i64 f0.Region.W, .int .i64 f0.Region.H]) (Nat.le_of_ble_eq_true rfl) rfl) ?_
        refine ql_s (.int .i64 (i1 : Int)) (by kernel_rfl) ?_
        refine ql_call (v := .bool r1) rfl (run_call (vs := [.agg #[.int .i64 f0.Region.X, .int .i64 f0.Region.Y, .int .i64 f0.Region.W, .int .i64 f0.Region.H], .int .i64 (i1 : Int)]) rfl Tryd.call42 rfl) (fun w hS => (water_border_s f0.Region (i1 : Int) _  _ _ hr1 w (hS)).mono fun e w' h => ⟨h.1, h.2⟩) ?_
        refine ql_nil ?_
        refine e_then ?_
        refine c_cond (r1) rfl (fun ht3 => ?_) (fun ht3 => ?_)
        · skip
          replace hs3 := if_t ht3 hs3
          refine c_seq ?_
          obtain ⟨l4, hl4, hs3⟩ := bnd_some hs3
          refine c_region ?_
          refine l_q rfl (qs_ldpt encV fitv82 rfl 1 rfl (.slice a2 s1.1.length cp8) (Nat.le_of_ble_eq_true rfl) rfl) ?_
          refine l_s (.float .f32 x2) (by kernel_rfl) ?_
          refine l_s (.int .i64 (i1 : Int)) (by kernel_rfl) ?_
          refine l_s (.agg #[.float .f32 x2, .int .i64 (i1 : Int)]) (by kernel_rfl) ?_
          refine l_bslS (cs := [.float .f32 x2, .int .i64 (i1 : Int)]) (E := 85) (e := encS_water_spill) ([(⟨x2, (i1 : Int)⟩ : S_water_spill)] : List S_water_spill) rfl (by kernel_rfl) rfl rfl (Nat.le_of_ble_eq_true rfl) ⟨rfl, trivial⟩ (fun b21 cp12 => ?_)
          refine l_perm (fr1_perm 1 _) ?_
          refine l_app hl4 rfl elem82 Tryd.underlying82 rfl rfl rfl (OwnS.src 1 rfl ⟨_, _, rfl⟩) (fun a5 cp13 => ?_)
          refine l_perm (fr1_perm 2 _) ?_
          refine l_store (dd := none) (vs := [.slice a5 l4.length cp13]) (cs' := [.slice a5 l4.length cp13]) rfl (by kernel_rfl) (by kernel_rfl) rfl rfl (Nat.le_of_ble_eq_true rfl) rfl rfl ?_
          refine l_nil ?_
          refine e_perm (fr1_perm 2 _) ?_
          refine e_drop ?_
          refine e_then ?_
          obtain ⟨x3, hx3, hs3⟩ := bnd_some hs3
          obtain ⟨l5, hl5, hs3⟩ := bnd_some hs3
          replace hl5 := Option.some.inj hl5
          obtain ⟨x4, hx4, hs3⟩ := bnd_some hs3
          obtain ⟨l6, hl6, hs3⟩ := bnd_some hs3
          replace hl6 := Option.some.inj hl6
          refine c_perm (fr1_perm 7 _) ?_
          refine c_adr (fun b22 hb2 hl7 hbd1 hcap1 => ?_)
          refine c_perm (fr1_perm 4 _) ?_
          refine c_adr (fun b23 hb3 hl8 hbd2 hcap2 => ?_)
          refine c_perm (show List.Perm _ (pt b18 [.slice a5 l4.length cp13] 82 :: OwnS D2 encS_water_spill 85 (.slice a5 l4.length cp13) l4 :: pt b16 [.slice (some ⟨b15, 0, none⟩) l3.length cp6] 80 :: pt b12 [.slice (some ⟨b11, 0, none⟩) l2.length cp4] 80 :: OwnS D2 encB 4 (.slice (some ⟨b11, 0, none⟩) l2.length cp4) l2 :: pt b8 [.slice (some ⟨b7, 0, none⟩) l1.length cp2] 43 :: pt b4 [.float .f32 slope0] 48 :: pt b3 [.int .i64 f0.Region.X, .int .i64 f0.Region.Y, .int .i64 f0.Region.W, .int .i64 f0.Region.H, .slice f0_v1a f0.V.length f0_v1c] 45 :: OwnS D2 encB 4 (.slice (some ⟨b15, 0, none⟩) l3.length cp6) s1.2.1 :: OwnS D2 (encF .f32) 48 (.slice (some ⟨b7, 0, none⟩) l1.length cp2) s1.2.2 :: F) from pick_perm [2, 3, 4, 5, 6, 7, 8, 9, 0, 1] rfl rfl) ?_
          refine c_order (B := [pt b18 [.slice a5 l4.length cp13] 82, OwnS D2 encS_water_spill 85 (.slice a5 l4.length cp13) l4, pt b16 [.slice (some ⟨b15, 0, none⟩) l3.length cp6] 80, pt b12 [.slice (some ⟨b11, 0, none⟩) l2.length cp4] 80, OwnS D2 encB 4 (.slice (some ⟨b11, 0, none⟩) l2.length cp4) l2, pt b8 [.slice (some ⟨b7, 0, none⟩) l1.length cp2] 43, pt b4 [.float .f32 slope0] 48, pt b3 [.int .i64 f0.Region.X, .int .i64 f0.Region.Y, .int .i64 f0.Region.W, .int .i64 f0.Region.H, .slice f0_v1a f0.V.length f0_v1c] 45]) (.q 0 (.q 1 (.q 2 (.q 3 (.q 4 (.q 5 (.e 6 (.q 7 (.e 8 .nil))))))))) hmix (by kernel_rfl) (NoPanic.blk (NoPanic.then (NoPanic.then (NoPanic.then (NoPanic.blk (NoPanic.then (NoPanic.then NoPanic.post))))))) ?_
          refine o_qs rfl rfl (qs_ldpt encV fitv43 rfl 5 rfl (.slice (some ⟨b7, 0, none⟩) l1.length cp2) (Nat.le_of_ble_eq_true rfl) rfl) ?_
          refine o_s (.int .i64 (i1 : Int)) rfl (by kernel_rfl) ?_
          refine o_qs rfl rfl (qs_ldpt encV fitv80 rfl 2 rfl (.slice (some ⟨b15, 0, none⟩) l3.length cp6) (Nat.le_of_ble_eq_true rfl) rfl) ?_
          refine o_s (.int .i64 (i1 : Int)) rfl (by kernel_rfl) ?_
          refine o_s (.float .f32 x2) rfl (by kernel_rfl) ?_
          refine o_qs rfl rfl (qs_idx (IsIdx.beg (e := encF .f32) hb2 hl7 hx3) Tryd.underlying43 fit48 rfl rfl) ?_
          refine o_perm (fr1_perm 1 _) ?_
          refine o_stS (vs := [.float .f32 x2]) hb2 hl7 hl5 rfl rfl (PH.le_refl _) fit48 rfl rfl rfl rfl (idx_some hx3).2.1 ?_
          refine o_qs rfl rfl (qs_idx (IsIdx.beg (e := encB) hb3 hl8 hx4) Tryd.underlying80 fit4 rfl rfl) ?_
          refine o_perm (fr1_perm 1 _) ?_
          refine o_stS (vs := [.bool true]) hb3 hl8 hl6 rfl rfl (PH.le_refl _) fit4 rfl rfl rfl rfl (idx_some hx4).2.1 ?_
          refine o_nil ?_
          refine e_blk ?_
          refine e_perm (show List.Perm _ (OwnS D2 encS_water_spill 85 (.slice a5 l4.length cp13) l4 :: pt b18 [.slice a5 l4.length cp13] 82 :: pt b16 [.slice (some ⟨b15, 0, none⟩) l3.length cp6] 80 :: OwnS D2 encB 4 (.slice (some ⟨b15, 0, none⟩) l3.length cp6) l6 :: pt b12 [.slice (some ⟨b11, 0, none⟩) l2.length cp4] 80 :: OwnS D2 encB 4 (.slice (some ⟨b11, 0, none⟩) l2.length cp4) l2 :: pt b8 [.slice (some ⟨b7, 0, none⟩) l1.length cp2] 43 :: OwnS D2 (encF .f32) 48 (.slice (some ⟨b7, 0, none⟩) l1.length cp2) l5 :: pt b4 [.float .f32 slope0] 48 :: pt b3 [.int .i64 f0.Region.X, .int .i64 f0.Region.Y, .int .i64 f0.Region.W, .int .i64 f0.Region.H, .slice f0_v1a f0.V.length f0_v1c] 45 :: F) from pick_perm [1, 0, 2, 8, 3, 4, 5, 9, 6, 7] rfl rfl) ?_
          obtain rfl := Option.some.inj hs3
          exact e_cut ⟨a5, cp13, ⟨rfl, rfl, rfl, rfl, rfl, rfl, rfl, rfl, rfl, trivial⟩, (PH.le_refl _), rfl⟩
        · skip
          replace hs3 := if_f ht3 hs3
          refine c_skip ?_
          refine e_blk ?_
          obtain rfl := Option.some.inj hs3
          exact e_cut ⟨a2, cp8, ⟨rfl, rfl, rfl, rfl, rfl, rfl, rfl, rfl, rfl, trivial⟩, (PH.le_refl _), rfl⟩
      · skip
        rintro φ2 D3 As2 ⟨a3, cp9, hI2, hD2, hA2⟩
        subst As2
        replace f0_h1 := f0_h1.mono hD2
        refine e_frame _ hI2 ?_
        refine e_then ?_
        refine c_quiet ?_
        refine ql_s (.int .i64 (addI (i1 : Int) 1)) (by kernel_rfl) ?_
        refine ql_s (.int .i64 (addI (i1 : Int) 1)) (by kernel_rfl) ?_
        refine ql_nil ?_
        obtain rfl := Option.some.inj hx1
        exact e_cut ⟨j1, i1 + 1, (s2.1, s2.2.1, s2.2.2), a3, cp9, by omega, by omega, ⟨rfl, rfl, rfl, rfl, rfl, rfl, rfl, rfl, (congrArg (Value.int .i64) (addI_succ (by omega))), trivial⟩, (PH.le_trans hD1 hD2), rfl, hs2⟩
  · skip
    rintro φ3 D1 As3 ⟨a1, cp7, hI3, hD3, hA3⟩
    subst As3
    replace f0_h1 := f0_h1.mono hD3
    refine e_frame _ hI3 ?_
    refine e_then ?_
    refine c_seq ?_
    obtain ⟨r2, hr2, hp⟩ := bnd_some hp
    refine c_region ?_
    refine l_q rfl (qs_mkI Tryd.underlying87 rfl rfl) ?_
    refine l_call rfl rfl Tryd.call43 (vs := [.iface 87 (.pointer (some ⟨b18, 0, none⟩))]) rfl (fun v D5 As5 => PH.le D1 D5 ∧ v = .tuple #[] ∧ As5 = pt b18 [.slice a1 x1.1.length cp7] 82 :: OwnS D5 encS_water_spill 85 (.slice a1 x1.1.length cp7) r2 :: pt b16 [.slice (some ⟨b15, 0, none⟩) l3.length cp6] 80 :: OwnS D1 encB 4 (.slice (some ⟨b15, 0, none⟩) l3.length cp6) x1.2.1 :: pt b12 [.slice (some ⟨b11, 0, none⟩) l2.length cp4] 80 :: OwnS D1 encB 4 (.slice (some ⟨b11, 0, none⟩) l2.length cp4) l2 :: pt b8 [.slice (some ⟨b7, 0, none⟩) l1.length cp2] 43 :: OwnS D1 (encF .f32) 48 (.slice (some ⟨b7, 0, none⟩) l1.length cp2) x1.2.2 :: pt b4 [.float .f32 slope0] 48 :: pt b3 [.int .i64 f0.Region.X, .int .i64 f0.Region.Y, .int .i64 f0.Region.W, .int .i64 f0.Region.H, .slice f0_v1a f0.V.length f0_v1c] 45 :: F) (fun w hS => (container_heap_Init_s b18 x1.1 a1 cp7 _  _ _ hr2 w (hS.perm (fr1_perm 1 _))).mono fun e w' ⟨D5, hle2, he, hS2⟩ => ⟨_, D5, _, he, ⟨hle2, rfl, rfl⟩, hS2⟩) ?_
    rintro _ D5 As5 ⟨hle2, rfl, hA5⟩
    subst As5
    replace f0_h1 := f0_h1.mono hle2
    refine l_nil ?_
    refine e_then ?_
    refine c_seq ?_
    obtain ⟨x5, hs4, hp⟩ := bnd_some hp
    obtain ⟨body2, hbody2, hs4⟩ := loopP_gen hs4
    refine c_cut_end (fun φ1 D6 As1 => ∃ (a6 : Option Addr) (cp14 : Nat), Is φ1 [(5, .pointer (some ⟨b8, 0, none⟩))] ∧ PH.le D5 D6 ∧ As1 = pt b18 [.slice a6 x5.1.length cp14] 82 :: OwnS D6 encS_water_spill 85 (.slice a6 x5.1.length cp14) x5.1 :: pt b16 [.slice (some ⟨b15, 0, none⟩) l3.length cp6] 80 :: OwnS D6 encB 4 (.slice (some ⟨b15, 0, none⟩) l3.length cp6) x5.2.1 :: pt b12 [.slice (some ⟨b11, 0, none⟩) l2.length cp4] 80 :: OwnS D6 encB 4 (.slice (some ⟨b11, 0, none⟩) l2.length cp4) x5.2.2.1 :: pt b8 [.slice (some ⟨b7, 0, none⟩) l1.length cp2] 43 :: OwnS D6 (encF .f32) 48 (.slice (some ⟨b7, 0, none⟩) l1.length cp2) x5.2.2.2 :: pt b4 [.float .f32 slope0] 48 :: pt b3 [.int .i64 f0.Region.X, .int .i64 f0.Region.Y, .int .i64 f0.Region.W, .int .i64 f0.Region.H, .slice f0_v1a f0.V.length f0_v1c] 45 :: F) ?_ ?_
    · skip
      refine c_block ?_
      refine c_perm (show List.Perm _ (OwnS D1 (encF .f32) 48 (.slice (some ⟨b7, 0, none⟩) l1.length cp2) x1.2.2 :: pt b4 [.float .f32 slope0] 48 :: pt b3 [.int .i64 f0.Region.X, .int .i64 f0.Region.Y, .int .i64 f0.Region.W, .int .i64 f0.Region.H, .slice f0_v1a f0.V.length f0_v1c] 45 :: pt b18 [.slice a1 x1.1.length cp7] 82 :: OwnS D5 encS_water_spill 85 (.slice a1 x1.1.length cp7) r2 :: pt b16 [.slice (some ⟨b15, 0, none⟩) l3.length cp6] 80 :: OwnS D1 encB 4 (.slice (some ⟨b15, 0, none⟩) l3.length cp6) x1.2.1 :: pt b12 [.slice (some ⟨b11, 0, none⟩) l2.length cp4] 80 :: OwnS D1 encB 4 (.slice (some ⟨b11, 0, none⟩) l2.length cp4) l2 :: pt b8 [.slice (some ⟨b7, 0, none⟩) l1.length cp2] 43 :: F) from pick_perm [7, 8, 9, 0, 1, 2, 3, 4, 5, 6] rfl rfl) ?_
      refine c_imp (OwnS.mono hle2) ?_
      refine c_perm (show List.Perm _ (OwnS D1 encB 4 (.slice (some ⟨b11, 0, none⟩) l2.length cp4) l2 :: pt b8 [.slice (some ⟨b7, 0, none⟩) l1.length cp2] 43 :: OwnS D5 (encF .f32) 48 (.slice (some ⟨b7, 0, none⟩) l1.length cp2) x1.2.2 :: pt b4 [.float .f32 slope0] 48 :: pt b3 [.int .i64 f0.Region.X, .int .i64 f0.Region.Y, .int .i64 f0.Region.W, .int .i64 f0.Region.H, .slice f0_v1a f0.V.length f0_v1c] 45 :: pt b18 [.slice a1 x1.1.length cp7] 82 :: OwnS D5 encS_water_spill 85 (.slice a1 x1.1.length cp7) r2 :: pt b16 [.slice (some ⟨b15, 0, none⟩) l3.length cp6] 80 :: OwnS D1 encB 4 (.slice (some ⟨b15, 0, none⟩) l3.length cp6) x1.2.1 :: pt b12 [.slice (some ⟨b11, 0, none⟩) l2.length cp4] 80 :: F) from pick_perm [8, 9, 0, 1, 2, 3, 4, 5, 6, 7] rfl rfl) ?_
      refine c_imp (OwnS.mono hle2) ?_
      refine c_perm (show List.Perm _ (OwnS D1 encB 4 (.slice (some ⟨b15, 0, none⟩) l3.length cp6) x1.2.1 :: pt b12 [.slice (some ⟨b11, 0, none⟩) l2.length cp4] 80 :: OwnS D5 encB 4 (.slice (some ⟨b11, 0, none⟩) l2.length cp4) l2 :: pt b8 [.slice (some ⟨b7, 0, none⟩) l1.length cp2] 43 :: OwnS D5 (encF .f32) 48 (.slice (some ⟨b7, 0, none⟩) l1.length cp2) x1.2.2 :: pt b4 [.float .f32 slope0] 48 :: pt b3 [.int .i64 f0.Region.X, .int .i64 f0.Region.Y, .int .i64 f0.Region.W, .int .i64 f0.Region.H, .slice f0_v1a f0.V.length f0_v1c] 45 :: pt b18 [.slice a1 x1.1.length cp7] 82 :: OwnS D5 encS_water_spill 85 (.slice a1 x1.1.length cp7) r2 :: pt b16 [.slice (some ⟨b15, 0, none⟩) l3.length cp6] 80 :: F) from pick_perm [8, 9, 0, 1, 2, 3, 4, 5, 6, 7] rfl rfl) ?_
      refine c_imp (OwnS.mono hle2) ?_
      refine c_perm (show List.Perm _ (OwnS D5 encS_water_spill 85 (.slice a1 x1.1.length cp7) r2 :: pt b16 [.slice (some ⟨b15, 0, none⟩) l3.length cp6] 80 :: OwnS D5 encB 4 (.slice (some ⟨b15, 0, none⟩) l3.length cp6) x1.2.1 :: pt b12 [.slice (some ⟨b11, 0, none⟩) l2.length cp4] 80 :: OwnS D5 encB 4 (.slice (some ⟨b11, 0, none⟩) l2.length cp4) l2 :: pt b8 [.slice (some ⟨b7, 0, none⟩) l1.length cp2] 43 :: OwnS D5 (encF .f32) 48 (.slice (some ⟨b7, 0, none⟩) l1.length cp2) x1.2.2 :: pt b4 [.float .f32 slope0] 48 :: pt b3 [.int .i64 f0.Region.X, .int .i64 f0.Region.Y, .int .i64 f0.Region.W, .int .i64 f0.Region.H, .slice f0_v1a f0.V.length f0_v1c] 45 :: pt b18 [.slice a1 x1.1.length cp7] 82 :: F) from pick_perm [8, 9, 0, 1, 2, 3, 4, 5, 6, 7] rfl rfl) ?_
      refine c_adr (fun b24 hb4 hl9 hbd3 hcap3 => ?_)
      refine c_imp (OwnS.len0 hl9.symm) ?_
      refine c_perm (fr1_perm 9 _) ?_
      refine c_imp (fun k hk => (by simpa only [← hl9] using hk)) ?_
      obtain ⟨kz1, hs4⟩ := loopP_ex hs4
      refine c_loop (fun k φ1 D7 As1 => ∃ (s3 : (List S_water_spill) × (List Bool) × (List Bool) × (List Nat)) (a7 : Option Addr) (cp15 : Nat), Is φ1 [(2, .pointer (some ⟨b3, 0, none⟩)), (3, .pointer (some ⟨b4, 0, none⟩)), (5, .pointer (some ⟨b8, 0, none⟩)), (6, .pointer (some ⟨b12, 0, none⟩)), (7, .pointer (some ⟨b16, 0, none⟩)), (8, .pointer (some ⟨b18, 0, none⟩))] ∧ PH.le D5 D7 ∧ As1 = pt b18 [.slice a7 s3.1.length cp15] 82 :: OwnS D7 encS_water_spill 85 (.slice a7 s3.1.length cp15) s3.1 :: pt b16 [.slice (some ⟨b15, 0, none⟩) l3.length cp6] 80 :: OwnS D7 encB 4 (.slice (some ⟨b15, 0, none⟩) l3.length cp6) s3.2.1 :: pt b12 [.slice (some ⟨b11, 0, none⟩) l2.length cp4] 80 :: OwnS D7 encB 4 (.slice (some ⟨b11, 0, none⟩) l2.length cp4) s3.2.2.1 :: pt b8 [.slice (some ⟨b7, 0, none⟩) l1.length cp2] 43 :: OwnS D7 (encF .f32) 48 (.slice (some ⟨b7, 0, none⟩) l1.length cp2) s3.2.2.2 :: pt b4 [.float .f32 slope0] 48 :: pt b3 [.int .i64 f0.Region.X, .int .i64 f0.Region.Y, .int .i64 f0.Region.W, .int .i64 f0.Region.H, .slice f0_v1a f0.V.length f0_v1c] 45 :: F ∧ iter body2 k s3 = some x5) ⟨kz1, (r2, x1.2.1, l2, x1.2.2), a1, cp7, ⟨rfl, rfl, rfl, rfl, rfl, rfl, trivial⟩, (PH.le_refl _), rfl, hs4⟩ ?_ ?_
      · rintro _ _ _ ⟨_, _, _, _, _, _, h0⟩; cases h0
      intro k2
      rintro φ4 D7 As6 ⟨s3, a7, cp15, hI4, hD4, hA6, hs5⟩
      subst As6
      replace f0_h1 := f0_h1.mono hD4
      refine c_frame _ hI4 ?_
      obtain ⟨y2, hx5, hs5⟩ := iter_some hs5
      replace hx5 := (congrFun hbody2 s3).trans hx5
      refine c_seq ?_
      refine c_seq ?_
      refine c_quiet ?_
      refine ql_q rfl (qs_ldpt encV fitv82 rfl 0 rfl (.slice a7 s3.1.length cp15) (Nat.le_of_ble_eq_true rfl) rfl) ?_
      refine ql_s (.int .i64 (s3.1.length : Int)) (by kernel_rfl) ?_
      refine ql_s (.bool (decide ((s3.1.length : Int) > 0))) (by kernel_rfl) ?_
      refine ql_nil ?_
      refine e_then ?_
      refine c_cond (decide ((s3.1.length : Int) > 0)) rfl (fun ht4 => ?_) (fun ht4 => ?_)
      · skip
        replace hx5 := if_t ht4 hx5
        refine c_skip ?_
        refine e_then ?_
        refine c_block ?_
        refine c_seq ?_
        obtain ⟨r3, hr3, hx5⟩ := bnd_some hx5
        refine c_region ?_
        refine l_q rfl (qs_mkI Tryd.underlying87 rfl rfl) ?_
        refine l_call rfl rfl Tryd.call44 (vs := [.iface 87 (.pointer (some ⟨b18, 0, none⟩))]) rfl (fun v D9 As8 => ∃ (a9 : Option Addr) (cp17 : Nat), PH.le D7 D9 ∧ v = .iface 85 (.agg #[.float .f32 r3.1.v, .int .i64 r3.1.k]) ∧ As8 = pt b18 [.slice a9 r3.2.length cp17] 82 :: OwnS D9 encS_water_spill 85 (.slice a9 r3.2.length cp17) r3.2 :: pt b16 [.slice (some ⟨b15, 0, none⟩) l3.length cp6] 80 :: OwnS D7 encB 4 (.slice (some ⟨b15, 0, none⟩) l3.length cp6) s3.2.1 :: pt b12 [.slice (some ⟨b11, 0, none⟩) l2.length cp4] 80 :: OwnS D7 encB 4 (.slice (some ⟨b11, 0, none⟩) l2.length cp4) s3.2.2.1 :: pt b8 [.slice (some ⟨b7, 0, none⟩) l1.length cp2] 43 :: OwnS D7 (encF .f32) 48 (.slice (some ⟨b7, 0, none⟩) l1.length cp2) s3.2.2.2 :: pt b4 [.float .f32 slope0] 48 :: pt b3 [.int .i64 f0.Region.X, .int .i64 f0.Region.Y, .int .i64 f0.Region.W, .int .i64 f0.Region.H, .slice f0_v1a f0.V.length f0_v1c] 45 :: F) (fun w hS => (container_heap_Pop_s b18 s3.1 a7 cp15 _  _ _ hr3 w (hS)).mono fun e w' ⟨D9, a9, cp17, hle4, he, hS2⟩ => ⟨_, D9, _, he, ⟨a9, cp17, hle4, rfl, rfl⟩, hS2⟩) ?_
        rintro _ D9 As8 ⟨a9, cp17, hle4, rfl, hA8⟩
        subst As8
        replace f0_h1 := f0_h1.mono hle4
        refine l_q rfl (qs_tyAs Tryd.underlying85 rfl rfl) ?_
        refine l_alloc (zs := [.float .f32 0, .int .i64 0]) rfl (by kernel_rfl) (fun b26 => ?_)
        refine l_store (dd := none) (vs := [.float .f32 r3.1.v, .int .i64 r3.1.k]) (cs' := [.float .f32 r3.1.v, .int .i64 r3.1.k]) rfl (by kernel_rfl) (by kernel_rfl) rfl rfl (Nat.le_of_ble_eq_true rfl) rfl rfl ?_
        refine l_nil ?_
        refine e_then ?_
        refine c_seq ?_
        refine c_seq ?_
        obtain ⟨x6, hx6, hx5⟩ := bnd_some hx5
        refine c_perm (fr1_perm 6 _) ?_
        refine c_adr (fun b27 hb5 hl10 hbd4 hcap4 => ?_)
        refine c_quiet ?_
        refine ql_q rfl (qs_ldpt encV fitv80 rfl 6 rfl (.slice (some ⟨b11, 0, none⟩) l2.length cp4) (Nat.le_of_ble_eq_true rfl) rfl) ?_
        refine ql_s (.pointer (some ⟨b26, 1, none⟩)) (by kernel_rfl) ?_
        refine ql_q rfl (qs_ldpt encV fitv3 rfl 1 rfl (.int .i64 r3.1.k) (Nat.le_of_ble_eq_true rfl) rfl) ?_
        refine ql_q rfl (qs_idx (IsIdx.beg (e := encB) hb5 hl10 hx6) Tryd.underlying80 fit4 rfl rfl) ?_
        refine ql_q rfl (qs_ldS fit4 hb5 rfl rfl 0 rfl (idx_some hx6).2.2 (v := .bool x6) valB) ?_
        refine ql_nil ?_
        refine e_then ?_
        refine c_cond (x6) rfl (fun ht5 => ?_) (fun ht5 => ?_)
        · skip
          replace hx5 := if_t ht5 hx5
          refine c_exit ?_
          refine e_then_exit ?_
          refine e_blk_exit ?_
          refine e_perm (fr1_perm 1 _) ?_
          refine e_drop ?_
          refine e_perm (show List.Perm _ (OwnS D7 (encF .f32) 48 (.slice (some ⟨b7, 0, none⟩) l1.length cp2) s3.2.2.2 :: pt b4 [.float .f32 slope0] 48 :: pt b3 [.int .i64 f0.Region.X, .int .i64 f0.Region.Y, .int .i64 f0.Region.W, .int .i64 f0.Region.H, .slice f0_v1a f0.V.length f0_v1c] 45 :: OwnS D7 encB 4 (.slice (some ⟨b11, 0, none⟩) l2.length cp4) s3.2.2.1 :: pt b18 [.slice a9 r3.2.length cp17] 82 :: OwnS D9 encS_water_spill 85 (.slice a9 r3.2.length cp17) r3.2 :: pt b16 [.slice (some ⟨b15, 0, none⟩) l3.length cp6] 80 :: OwnS D7 encB 4 (.slice (some ⟨b15, 0, none⟩) l3.length cp6) s3.2.1 :: pt b12 [.slice (some ⟨b11, 0, none⟩) l2.length cp4] 80 :: pt b8 [.slice (some ⟨b7, 0, none⟩) l1.length cp2] 43 :: F) from pick_perm [7, 8, 9, 0, 1, 2, 3, 4, 5, 6] rfl rfl) ?_
          refine e_imp (OwnS.mono hle4) ?_
          refine e_perm (show List.Perm _ (OwnS D7 encB 4 (.slice (some ⟨b11, 0, none⟩) l2.length cp4) s3.2.2.1 :: pt b8 [.slice (some ⟨b7, 0, none⟩) l1.length cp2] 43 :: OwnS D9 (encF .f32) 48 (.slice (some ⟨b7, 0, none⟩) l1.length cp2) s3.2.2.2 :: pt b4 [.float .f32 slope0] 48 :: pt b3 [.int .i64 f0.Region.X, .int .i64 f0.Region.Y, .int .i64 f0.Region.W, .int .i64 f0.Region.H, .slice f0_v1a f0.V.length f0_v1c] 45 :: pt b18 [.slice a9 r3.2.length cp17] 82 :: OwnS D9 encS_water_spill 85 (.slice a9 r3.2.length cp17) r3.2 :: pt b16 [.slice (some ⟨b15, 0, none⟩) l3.length cp6] 80 :: OwnS D7 encB 4 (.slice (some ⟨b15, 0, none⟩) l3.length cp6) s3.2.1 :: pt b12 [.slice (some ⟨b11, 0, none⟩) l2.length cp4] 80 :: F) from pick_perm [3, 9, 0, 1, 2, 4, 5, 6, 7, 8] rfl rfl) ?_
          refine e_imp (OwnS.mono hle4) ?_
          refine e_perm (show List.Perm _ (OwnS D7 encB 4 (.slice (some ⟨b15, 0, none⟩) l3.length cp6) s3.2.1 :: pt b12 [.slice (some ⟨b11, 0, none⟩) l2.length cp4] 80 :: OwnS D9 encB 4 (.slice (some ⟨b11, 0, none⟩) l2.length cp4) s3.2.2.1 :: pt b8 [.slice (some ⟨b7, 0, none⟩) l1.length cp2] 43 :: OwnS D9 (encF .f32) 48 (.slice (some ⟨b7, 0, none⟩) l1.length cp2) s3.2.2.2 :: pt b4 [.float .f32 slope0] 48 :: pt b3 [.int .i64 f0.Region.X, .int .i64 f0.Region.Y, .int .i64 f0.Region.W, .int .i64 f0.Region.H, .slice f0_v1a f0.V.length f0_v1c] 45 :: pt b18 [.slice a9 r3.2.length cp17] 82 :: OwnS D9 encS_water_spill 85 (.slice a9 r3.2.length cp17) r3.2 :: pt b16 [.slice (some ⟨b15, 0, none⟩) l3.length cp6] 80 :: F) from pick_perm [8, 9, 0, 1, 2, 3, 4, 5, 6, 7] rfl rfl) ?_
          refine e_imp (OwnS.mono hle4) ?_
          refine e_perm (show List.Perm _ (pt b18 [.slice a9 r3.2.length cp17] 82 :: OwnS D9 encS_water_spill 85 (.slice a9 r3.2.length cp17) r3.2 :: pt b16 [.slice (some ⟨b15, 0, none⟩) l3.length cp6] 80 :: OwnS D9 encB 4 (.slice (some ⟨b15, 0, none⟩) l3.length cp6) s3.2.1 :: pt b12 [.slice (some ⟨b11, 0, none⟩) l2.length cp4] 80 :: OwnS D9 encB 4 (.slice (some ⟨b11, 0, none⟩) l2.length cp4) s3.2.2.1 :: pt b8 [.slice (some ⟨b7, 0, none⟩) l1.length cp2] 43 :: OwnS D9 (encF .f32) 48 (.slice (some ⟨b7, 0, none⟩) l1.length cp2) s3.2.2.2 :: pt b4 [.float .f32 slope0] 48 :: pt b3 [.int .i64 f0.Region.X, .int .i64 f0.Region.Y, .int .i64 f0.Region.W, .int .i64 f0.Region.H, .slice f0_v1a f0.V.length f0_v1c] 45 :: F) from pick_perm [7, 8, 9, 0, 1, 2, 3, 4, 5, 6] rfl rfl) ?_
          obtain rfl := Option.some.inj hx5
          exact e_cut ⟨(r3.2, s3.2.1, s3.2.2.1, s3.2.2.2), a9, cp17, ⟨rfl, rfl, rfl, rfl, rfl, rfl, trivial⟩, (PH.le_trans hD4 hle4), rfl, hs5⟩
        · skip
          replace hx5 := if_f ht5 hx5
          refine c_skip ?_
          refine e_then ?_
          refine c_seq ?_
          obtain ⟨x7, hx7, hx5⟩ := bnd_some hx5
          obtain ⟨l7, hl11, hx5⟩ := bnd_some hx5
          replace hl11 := Option.some.inj hl11
          refine c_region ?_
          refine l_q rfl (qs_ldpt encV fitv80 rfl 6 rfl (.slice (some ⟨b11, 0, none⟩) l2.length cp4) (Nat.le_of_ble_eq_true rfl) rfl) ?_
          refine l_s (.pointer (some ⟨b26, 1, none⟩)) (by kernel_rfl) ?_
          refine l_q rfl (qs_ldpt encV fitv3 rfl 1 rfl (.int .i64 r3.1.k) (Nat.le_of_ble_eq_true rfl) rfl) ?_
          refine l_q rfl (qs_idx (IsIdx.beg (e := encB) hb5 hl10 hx7) Tryd.underlying80 fit4 rfl rfl) ?_
          refine l_stS (vs := [.bool true]) hb5 hl10 hl11 rfl fit4 rfl rfl rfl rfl (idx_some hx7).2.1 ?_
          refine l_nil ?_
          refine e_then ?_
          obtain ⟨r4, hr4, hx5⟩ := bnd_some hx5
          refine c_perm (fr1_perm 5 _) ?_
          refine c_adr (fun b28 hb6 hl12 hbd5 hcap5 => ?_)
          refine c_perm (fr1_perm 8 _) ?_
          refine c_adr (fun b29 hb7 hl13 hbd6 hcap6 => ?_)
          refine c_region ?_
          refine l_s (.pointer (some ⟨b3, 0, none⟩)) (by kernel_rfl) ?_
          refine l_q rfl (qs_ldpt (encW 4 (by decide)) fitv42 rfl 10 rfl (.agg #[.int .i64 f0.Region.X, .int .i64 f0.Region.Y, .int .i64 f0.Region.W, .int .i64 f0.Region.H]) (Nat.le_of_ble_eq_true rfl) rfl) ?_
          refine l_s (.pointer (some ⟨b26, 1, none⟩)) (by kernel_rfl) ?_
          refine l_q rfl (qs_ldpt encV fitv3 rfl 3 rfl (.int .i64 r3.1.k) (Nat.le_of_ble_eq_true rfl) rfl) ?_
          refine l_s (.func (.func 46) #[] #[.pointer (some ⟨b3, 0, none⟩), .pointer (some ⟨b26, 0, none⟩), .pointer (some ⟨b4, 0, none⟩), .pointer (some ⟨b12, 0, none⟩), .pointer (some ⟨b16, 0, none⟩), .pointer (some ⟨b8, 0, none⟩), .pointer (some ⟨b18, 0, none⟩)]) (by kernel_rfl) ?_
          refine l_perm (fr1_perm 2 _) ?_
          refine l_imp (OwnS.mono hle4) ?_
          refine l_perm (fr1_perm 2 _) ?_
          refine l_imp (OwnS.mono hle4) ?_
          refine l_perm (fr1_perm 2 _) ?_
          refine l_imp (OwnS.mono hle4) ?_
          refine l_call rfl rfl Tryd.call45 (vs := [.agg #[.int .i64 f0.Region.X, .int .i64 f0.Region.Y, .int .i64 f0.Region.W, .int .i64 f0.Region.H], .int .i64 r3.1.k, .func (.func 46) #[] #[.pointer (some ⟨b3, 0, none⟩), .pointer (some ⟨b26, 0, none⟩), .pointer (some ⟨b4, 0, none⟩), .pointer (some ⟨b12, 0, none⟩), .pointer (some ⟨b16, 0, none⟩), .pointer (some ⟨b8, 0, none⟩), .pointer (some ⟨b18, 0, none⟩)]]) rfl (fun v D11 As10 => ∃ (a11 : Option Addr) (cp19 : Nat), PH.le D9 D11 ∧ v = .tuple #[] ∧ As10 = pt b3 [.int .i64 f0.Region.X, .int .i64 f0.Region.Y, .int .i64 f0.Region.W, .int .i64 f0.Region.H, .slice f0_v1a f0.V.length f0_v1c] 45 :: pt b26 [.float .f32 r3.1.v, .int .i64 r3.1.k] 85 :: pt b4 [.float .f32 slope0] 48 :: pt b12 [.slice (some ⟨b11, 0, none⟩) l2.length cp4] 80 :: OwnS D11 encB 4 (.slice (some ⟨b11, 0, none⟩) l2.length cp4) l7 :: pt b16 [.slice (some ⟨b15, 0, none⟩) l3.length cp6] 80 :: OwnS D11 encB 4 (.slice (some ⟨b15, 0, none⟩) l3.length cp6) r4.1 :: pt b8 [.slice (some ⟨b7, 0, none⟩) l1.length cp2] 43 :: OwnS D11 (encF .f32) 48 (.slice (some ⟨b7, 0, none⟩) l1.length cp2) r4.2.1 :: pt b18 [.slice a11 r4.2.2.length cp19] 82 :: OwnS D11 encS_water_spill 85 (.slice a11 r4.2.2.length cp19) r4.2.2 :: F) (fun w hS => (show Calls Tryd.prog 45 #[.agg #[.int .i64 f0.Region.X, .int .i64 f0.Region.Y, .int .i64 f0.Region.W, .int .i64 f0.Region.H], .int .i64 r3.1.k, .func (.func 46) #[] #[.pointer (some ⟨b3, 0, none⟩), .pointer (some ⟨b26, 0, none⟩), .pointer (some ⟨b4, 0, none⟩), .pointer (some ⟨b12, 0, none⟩), .pointer (some ⟨b16, 0, none⟩), .pointer (some ⟨b8, 0, none⟩), .pointer (some ⟨b18, 0, none⟩)]] w (fun e w' => ∃ (D11 : PH) (a11 : Option Addr) (cp19 : Nat), PH.le D9 D11 ∧ e = .returned (.tuple #[]) ∧ SInv D11 (pt b3 [.int .i64 f0.Region.X, .int .i64 f0.Region.Y, .int .i64 f0.Region.W, .int .i64 f0.Region.H, .slice f0_v1a f0.V.length f0_v1c] 45 :: pt b26 [.float .f32 r3.1.v, .int .i64 r3.1.k] 85 :: pt b4 [.float .f32 slope0] 48 :: pt b12 [.slice (some ⟨b11, 0, none⟩) l2.length cp4] 80 :: OwnS D11 encB 4 (.slice (some ⟨b11, 0, none⟩) l2.length cp4) l7 :: pt b16 [.slice (some ⟨b15, 0, none⟩) l3.length cp6] 80 :: OwnS D11 encB 4 (.slice (some ⟨b15, 0, none⟩) l3.length cp6) r4.1 :: pt b8 [.slice (some ⟨b7, 0, none⟩) l1.length cp2] 43 :: OwnS D11 (encF .f32) 48 (.slice (some ⟨b7, 0, none⟩) l1.length cp2) r4.2.1 :: pt b18 [.slice a11 r4.2.2.length cp19] 82 :: OwnS D11 encS_water_spill 85 (.slice a11 r4.2.2.length cp19) r4.2.2 :: F) w') from by have hq := water_Neighbours_s f0.Region r3.1.k b3 f0 f0_v1a f0_v1c b26 r3.1 b4 slope0 b12 l7 (some ⟨b11, 0, none⟩) cp4 b16 s3.2.1 (some ⟨b15, 0, none⟩) cp6 b8 s3.2.2.2 (some ⟨b7, 0, none⟩) cp2 b18 r3.2 a9 cp17 _ f0_h1 _ _ hr4 w (show SInv D9 (pt b3 [.int .i64 f0.Region.X, .int .i64 f0.Region.Y, .int .i64 f0.Region.W, .int .i64 f0.Region.H, .slice f0_v1a f0.V.length f0_v1c] 45 :: pt b26 [.float .f32 r3.1.v, .int .i64 r3.1.k] 85 :: pt b4 [.float .f32 slope0] 48 :: pt b12 [.slice (some ⟨b11, 0, none⟩) l7.length cp4] 80 :: OwnS D9 encB 4 (.slice (some ⟨b11, 0, none⟩) l7.length cp4) l7 :: pt b16 [.slice (some ⟨b15, 0, none⟩) s3.2.1.length cp6] 80 :: OwnS D9 encB 4 (.slice (some ⟨b15, 0, none⟩) s3.2.1.length cp6) s3.2.1 :: pt b8 [.slice (some ⟨b7, 0, none⟩) s3.2.2.2.length cp2] 43 :: OwnS D9 (encF .f32) 48 (.slice (some ⟨b7, 0, none⟩) s3.2.2.2.length cp2) s3.2.2.2 :: pt b18 [.slice a9 r3.2.length cp17] 82 :: OwnS D9 encS_water_spill 85 (.slice a9 r3.2.length cp17) r3.2 :: F) w from by have h2 : SInv D9 (pt b3 [.int .i64 f0.Region.X, .int .i64 f0.Region.Y, .int .i64 f0.Region.W, .int .i64 f0.Region.H, .slice f0_v1a f0.V.length f0_v1c] 45 :: pt b26 [.float .f32 r3.1.v, .int .i64 r3.1.k] 85 :: pt b4 [.float .f32 slope0] 48 :: pt b12 [.slice (some ⟨b11, 0, none⟩) l2.length cp4] 80 :: OwnS D9 encB 4 (.slice (some ⟨b11, 0, none⟩) l2.length cp4) l7 :: pt b16 [.slice (some ⟨b15, 0, none⟩) l3.length cp6] 80 :: OwnS D9 encB 4 (.slice (some ⟨b15, 0, none⟩) l3.length cp6) s3.2.1 :: pt b8 [.slice (some ⟨b7, 0, none⟩) l1.length cp2] 43 :: OwnS D9 (encF .f32) 48 (.slice (some ⟨b7, 0, none⟩) l1.length cp2) s3.2.2.2 :: pt b18 [.slice a9 r3.2.length cp17] 82 :: OwnS D9 encS_water_spill 85 (.slice a9 r3.2.length cp17) r3.2 :: F) w := hS.perm (pick_perm [10, 3, 9, 7, 2, 6, 1, 8, 0, 4, 5] rfl rfl); rw [← (len_set hl11 hl10), ← hl12, ← hl13] at h2; exact h2); (try simp only [(len_set hl11 hl10), hl12, hl13] at hq); exact hq).mono fun e w' ⟨D11, a11, cp19, hle6, he, hS2⟩ => ⟨_, D11, _, he, ⟨a11, cp19, hle6, rfl, rfl⟩, hS2⟩) ?_
          rintro _ D11 As10 ⟨a11, cp19, hle6, rfl, hA10⟩
          subst As10
          replace f0_h1 := f0_h1.mono hle6
          refine l_nil ?_
          refine e_perm (fr1_perm 1 _) ?_
          refine e_drop ?_
          refine e_blk ?_
          refine e_perm (show List.Perm _ (pt b18 [.slice a11 r4.2.2.length cp19] 82 :: OwnS D11 encS_water_spill 85 (.slice a11 r4.2.2.length cp19) r4.2.2 :: pt b16 [.slice (some ⟨b15, 0, none⟩) l3.length cp6] 80 :: OwnS D11 encB 4 (.slice (some ⟨b15, 0, none⟩) l3.length cp6) r4.1 :: pt b12 [.slice (some ⟨b11, 0, none⟩) l2.length cp4] 80 :: OwnS D11 encB 4 (.slice (some ⟨b11, 0, none⟩) l2.length cp4) l7 :: pt b8 [.slice (some ⟨b7, 0, none⟩) l1.length cp2] 43 :: OwnS D11 (encF .f32) 48 (.slice (some ⟨b7, 0, none⟩) l1.length cp2) r4.2.1 :: pt b4 [.float .f32 slope0] 48 :: pt b3 [.int .i64 f0.Region.X, .int .i64 f0.Region.Y, .int .i64 f0.Region.W, .int .i64 f0.Region.H, .slice f0_v1a f0.V.length f0_v1c] 45 :: F) from pick_perm [8, 9, 4, 5, 2, 3, 6, 7, 1, 0] rfl rfl) ?_
          obtain rfl := Option.some.inj hx5
          exact e_cut ⟨(r4.2.2, r4.1, l7, r4.2.1), a11, cp19, ⟨rfl, rfl, rfl, rfl, rfl, rfl, trivial⟩, (PH.le_trans (PH.le_trans hD4 hle4) hle6), rfl, hs5⟩
      · skip
        replace hx5 := if_f ht4 hx5
        refine c_exit ?_
        refine e_then_exit ?_
        refine e_then_exit ?_
        obtain rfl := Option.some.inj hx5
        obtain rfl := hs5
        refine e_blk_exit ?_
        exact e_cut ⟨a7, cp15, ⟨rfl, trivial⟩, hD4, rfl⟩
    · skip
      rintro φ5 D6 As11 ⟨a6, cp14, hI5, hD5, hA11⟩
      subst As11
      replace f0_h1 := f0_h1.mono hD5
      refine e_frame _ hI5 ?_
      refine e_then ?_
      refine c_seq ?_
      refine c_quiet ?_
      refine ql_q rfl (qs_ldpt encV fitv43 rfl 6 rfl (.slice (some ⟨b7, 0, none⟩) l1.length cp2) (Nat.le_of_ble_eq_true rfl) rfl) ?_
      refine ql_s (.slice (some ⟨b7, 0, none⟩) l1.length cp2) (by kernel_rfl) ?_
      refine ql_nil ?_
      refine e_drop ?_
      refine e_drop ?_
      refine e_drop ?_
      refine e_drop ?_
      refine e_drop ?_
      refine e_drop ?_
      refine e_drop ?_
      refine e_perm (fr1_perm 1 _) ?_
      refine e_drop ?_
      refine e_perm (fr1_perm 1 _) ?_
      refine e_drop ?_
      refine e_then ?_
      refine c_ret ?_
      refine e_adr (fun b30 hb8 hl14 hbd7 hcap7 => ?_)
      refine e_layS (PH.le_refl _) (fun D12 hle7 h2 => ?_)
      replace f0_h1 := f0_h1.mono hle7
      obtain rfl := Option.some.inj hp
      exact post_all (vs := [.slice (some ⟨b7, 0, none⟩) l1.length cp2]) (.slice (some ⟨b7, 0, none⟩) l1.length cp2) ⟨rfl, trivial⟩ rfl (.inl rfl) (fun w hS => ⟨D12, some ⟨b7, 0, none⟩, cp2, (PH.le_trans (PH.le_trans (PH.le_trans hD3 hle2) hD5) hle7), (by simp only [hl14]), (by rw [hl14]; exact h2), (by have h2 : SInv D12 (F) w := hS; simpa only [hl14] using h2)⟩)

-- tarnfell/field.Result
set_option maxRecDepth 100000 in
set_option maxHeartbeats 3000000 in
theorem field_Result_s (f0 : S_api_Field) (f0_v1a : Option Addr) (f0_v1c : Nat) (D : PH) (f0_h1 : RO (encF .f32) D (.slice f0_v1a f0.V.length f0_v1c) f0.V) (F : List Assert) (r : S_api_Field × Int) (hp : field_Result_p f0 = some r) : ∀ w : World, SInv D (F) w → Calls Tryd.prog 28 #[.agg #[.int .i64 f0.Region.X, .int .i64 f0.Region.Y, .int .i64 f0.Region.W, .int .i64 f0.Region.H, .slice f0_v1a f0.V.length f0_v1c]] w (fun e w' => ∃ (D1 : PH) (q_a1 : Option Addr) (q_cp1 : Nat), PH.le D D1 ∧ e = .returned (.tuple #[.agg #[.int .i64 r.1.Region.X, .int .i64 r.1.Region.Y, .int .i64 r.1.Region.W, .int .i64 r.1.Region.H, .slice q_a1 r.1.V.length q_cp1], .int .i64 r.2]) ∧ RO (encF .f32) D1 (.slice q_a1 r.1.V.length q_cp1) r.1.V ∧ SInv D1 (F) w') := by
  intro w hS
  refine call_intro Tryd.func28 rfl Tryd.ntmps28 (Nat.le_of_ble_eq_true rfl) hS ?_
  clear hS w
  unfold field_Result_p at hp
  refine c_seq ?_
  refine c_region ?_
  refine l_box (cs := [.int .i64 f0.Region.X, .int .i64 f0.Region.Y, .int .i64 f0.Region.W, .int .i64 f0.Region.H, .slice f0_v1a f0.V.length f0_v1c]) rfl rfl (fun b3 => ?_)
  refine l_alloc (zs := [.int .i64 0, .int .i64 0, .int .i64 0, .int .i64 0, .slice none 0 0]) rfl (by kernel_rfl) (fun b4 => ?_)
  refine l_s (.int .i64 0) (by kernel_rfl) ?_
  refine l_nil ?_
  refine e_then ?_
  refine c_seq ?_
  refine c_seq ?_
  refine c_quiet ?_
  refine ql_s (.pointer (some ⟨b3, 4, none⟩)) (by kernel_rfl) ?_
  refine ql_q rfl (qs_ldpt encV fitv43 rfl 1 rfl (.slice f0_v1a f0.V.length f0_v1c) (Nat.le_of_ble_eq_true rfl) rfl) ?_
  refine ql_s (.int .i64 (f0.V.length : Int)) (by kernel_rfl) ?_
  refine ql_s (.int .i64 0) (by kernel_rfl) ?_
  refine ql_nil ?_
  refine e_then ?_
  have hb0 : (f0.V.length : Int) ≤ 4611686018427387904 := by have := RO.bound f0_h1; omega
  have hm0 : f0.V.length = (f0.V.length : Int).toNat := by omega
  have hm1 := hm0; have hb1 := hb0; clear hm0 hb0
  obtain ⟨x1, hs1, hp⟩ := bnd_some hp
  obtain ⟨body1, hbody1, hs1⟩ := forI_gen hs1
  refine c_cut_end (fun φ1 D1 As1 => ∃ (s1 : Unit), x1 = .go s1 ∧ Is φ1 [(1, .pointer (some ⟨b3, 0, none⟩)), (2, .pointer (some ⟨b4, 0, none⟩))] ∧ PH.le D D1 ∧ As1 = pt b4 [.int .i64 0, .int .i64 0, .int .i64 0, .int .i64 0, .slice none 0 0] 45 :: pt b3 [.int .i64 f0.Region.X, .int .i64 f0.Region.Y, .int .i64 f0.Region.W, .int .i64 f0.Region.H, .slice f0_v1a f0.V.length f0_v1c] 45 :: F) ?_ ?_
  · skip
    refine c_block ?_
    refine c_loop (fun k φ1 D2 As1 => ∃ (j1 i1 : Nat) (s2 : Unit), k = j1 + 1 ∧ i1 + j1 = f0.V.length ∧ Is φ1 [(1, .pointer (some ⟨b3, 0, none⟩)), (2, .pointer (some ⟨b4, 0, none⟩)), (7, .slice f0_v1a f0.V.length f0_v1c), (8, .int .i64 (f0.V.length : Int)), (9, .int .i64 (i1 : Int))] ∧ PH.le D D2 ∧ As1 = pt b4 [.int .i64 0, .int .i64 0, .int .i64 0, .int .i64 0, .slice none 0 0] 45 :: pt b3 [.int .i64 f0.Region.X, .int .i64 f0.Region.Y, .int .i64 f0.Region.W, .int .i64 f0.Region.H, .slice f0_v1a f0.V.length f0_v1c] 45 :: F ∧ forI body1 j1 i1 s2 = some x1) ⟨f0.V.length + 1, f0.V.length, 0, (), rfl, Nat.zero_add _, ⟨rfl, rfl, rfl, rfl, rfl, trivial⟩, (PH.le_refl _), rfl, hs1⟩ ?_ ?_
    · rintro _ _ _ ⟨_, _, _, h0, _⟩; omega
    intro k1
    rintro φ1 D2 As1 ⟨j1, i1, s2, hk1, hij1, hI1, hD1, hA1, hs2⟩
    subst As1
    replace f0_h1 := f0_h1.mono hD1
    refine c_frame _ hI1 ?_
    obtain rfl : k1 = j1 := by omega
    clear hk1
    rcases k1 with _ | j1
    · skip
      refine c_seq ?_
      refine c_quiet ?_
      refine ql_s (.bool (decide ((i1 : Int) < (f0.V.length : Int)))) (by kernel_rfl) ?_
      refine ql_nil ?_
      refine e_then ?_
      refine c_seq ?_
      refine c_cond (decide ((i1 : Int) < (f0.V.length : Int))) rfl (fun ht1 => absurd ((dec_lt_f hm1 (by omega)).symm.trans ht1) (by simp)) (fun _ => ?_)
      refine c_exit ?_
      refine e_then_exit ?_
      refine e_then_exit ?_
      obtain rfl := Option.some.inj hs2
      refine e_blk_exit ?_
      exact e_cut ⟨(), rfl, ⟨rfl, rfl, trivial⟩, hD1, rfl⟩
    · skip
      obtain ⟨y1, hx1, hs2⟩ := forI_some hs2
      replace hx1 := (congrFun (congrFun hbody1 i1) s2).trans hx1
      refine c_seq ?_
      refine c_quiet ?_
      refine ql_s (.bool (decide ((i1 : Int) < (f0.V.length : Int)))) (by kernel_rfl) ?_
      refine ql_nil ?_
      refine e_then ?_
      refine c_seq ?_
      refine c_cond (decide ((i1 : Int) < (f0.V.length : Int))) rfl (fun _ => ?_) (fun ht2 => absurd ((dec_lt_t hm1 (by omega)).symm.trans ht2) (by simp))
      refine c_skip ?_
      refine e_then ?_
      refine c_seq ?_
      refine c_block ?_
      refine c_seq ?_
      obtain ⟨x2, hx2, hx1⟩ := bnd_some hx1
      obtain ⟨b5, o1, h1, hq1⟩ := RO.at f0_h1 hx2
      refine c_quiet ?_
      refine ql_q rfl (qs_idx hq1 Tryd.underlying43 fit48 rfl rfl) ?_
      refine ql_q rfl (qs_ldAtV fit48 rfl h1 valF) ?_
      refine ql_s (.float .f32 x2) (by kernel_rfl) ?_
      refine ql_nil ?_
      refine e_then ?_
      refine c_seq ?_
      obtain ⟨r1, hr1, hx1⟩ := bnd_some hx1
      refine c_quiet ?_
      refine ql_s (.float .f32 x2) (by kernel_rfl) ?_
      refine ql_call (v := .bool r1) rfl (run_call (vs := [.float .f32 x2]) rfl Tryd.call41 rfl) (fun w hS => (field_height_s x2 _  _ _ hr1 w (hS)).mono fun e w' h => ⟨h.1, h.2⟩) ?_
      refine ql_s (.bool (!r1)) (by kernel_rfl) ?_
      refine ql_nil ?_
      refine e_then ?_
      refine c_cond (!r1) rfl (fun ht3 => ?_) (fun ht3 => ?_)
      · skip
        replace hx1 := if_t ht3 hx1
        refine c_seq ?_
        refine c_region ?_
        refine l_s (.agg #[.int .i64 0, .int .i64 0, .int .i64 0, .int .i64 0, .slice none 0 0]) (by kernel_rfl) ?_
        refine l_store (dd := none) (vs := [.int .i64 0, .int .i64 0, .int .i64 0, .int .i64 0, .slice none 0 0]) (cs' := [.int .i64 0, .int .i64 0, .int .i64 0, .int .i64 0, .slice none 0 0]) rfl (by kernel_rfl) (by kernel_rfl) rfl rfl (Nat.le_of_ble_eq_true rfl) rfl rfl ?_
        refine l_s (.int .i64 3) (by kernel_rfl) ?_
        refine l_nil ?_
        refine e_perm (fr1_perm 1 _) ?_
        refine e_drop ?_
        refine e_then ?_
        refine c_ret ?_
        refine e_blk_ret ?_
        refine e_then_ret ?_
        refine e_then_ret ?_
        obtain rfl := Option.some.inj hx1
        obtain rfl := hs2
        refine e_blk_ret ?_
        refine e_then_ret ?_
        dsimp only at hp
        refine e_then_ret ?_
        obtain rfl := Option.some.inj hp
        exact post_all (vs := [.agg #[.int .i64 0, .int .i64 0, .int .i64 0, .int .i64 0, .slice none 0 0], .int .i64 3]) (.tuple #[.agg #[.int .i64 0, .int .i64 0, .int .i64 0, .int .i64 0, .slice none 0 0], .int .i64 3]) ⟨⟨_, 0, _, _, 5, by decide, rfl, rfl, .inr ⟨fitv45, rfl, rfl⟩⟩, rfl, trivial⟩ rfl (.inl rfl) (fun w hS => ⟨D2, none, 0, hD1, rfl, (RO.nil _ _), hS.tail⟩)
      · skip
        replace hx1 := if_f ht3 hx1
        refine c_skip ?_
        refine e_blk ?_
        refine e_then ?_
        refine c_quiet ?_
        refine ql_s (.int .i64 (addI (i1 : Int) 1)) (by kernel_rfl) ?_
        refine ql_s (.int .i64 (addI (i1 : Int) 1)) (by kernel_rfl) ?_
        refine ql_nil ?_
        obtain rfl := Option.some.inj hx1
        exact e_cut ⟨j1, i1 + 1, (), by omega, by omega, ⟨rfl, rfl, rfl, rfl, (congrArg (Value.int .i64) (addI_succ (by omega))), trivial⟩, hD1, rfl, hs2⟩
  · skip
    rintro φ2 D1 As2 ⟨s1, rfl, hI2, hD2, hA2⟩
    subst As2
    replace f0_h1 := f0_h1.mono hD2
    dsimp only at hp
    refine e_frame _ hI2 ?_
    refine e_then ?_
    refine c_seq ?_
    refine c_region ?_
    refine l_q rfl (qs_ldpt (encW 5 (by decide)) fitv45 rfl 1 rfl (.agg #[.int .i64 f0.Region.X, .int .i64 f0.Region.Y, .int .i64 f0.Region.W, .int .i64 f0.Region.H, .slice f0_v1a f0.V.length f0_v1c]) (Nat.le_of_ble_eq_true rfl) rfl) ?_
    refine l_store (dd := none) (vs := [.int .i64 f0.Region.X, .int .i64 f0.Region.Y, .int .i64 f0.Region.W, .int .i64 f0.Region.H, .slice f0_v1a f0.V.length f0_v1c]) (cs' := [.int .i64 f0.Region.X, .int .i64 f0.Region.Y, .int .i64 f0.Region.W, .int .i64 f0.Region.H, .slice f0_v1a f0.V.length f0_v1c]) rfl (by kernel_rfl) (by kernel_rfl) rfl rfl (Nat.le_of_ble_eq_true rfl) rfl rfl ?_
    refine l_s (.int .i64 0) (by kernel_rfl) ?_
    refine l_nil ?_
    refine e_perm (fr1_perm 1 _) ?_
    refine e_drop ?_
    refine e_then ?_
    refine c_ret ?_
    obtain rfl := Option.some.inj hp
    exact post_all (vs := [.agg #[.int .i64 f0.Region.X, .int .i64 f0.Region.Y, .int .i64 f0.Region.W, .int .i64 f0.Region.H, .slice f0_v1a f0.V.length f0_v1c], .int .i64 0]) (.tuple #[.agg #[.int .i64 f0.Region.X, .int .i64 f0.Region.Y, .int .i64 f0.Region.W, .int .i64 f0.Region.H, .slice f0_v1a f0.V.length f0_v1c], .int .i64 0]) ⟨⟨_, 0, _, _, 5, by decide, rfl, rfl, .inr ⟨fitv45, rfl, rfl⟩⟩, rfl, trivial⟩ rfl (.inl rfl) (fun w hS => ⟨D1, f0_v1a, f0_v1c, hD2, rfl, f0_h1, hS.tail⟩)

-- tarnfell/water.Filled
set_option maxRecDepth 100000 in
set_option maxHeartbeats 3000000 in
theorem water_Filled_s (f0 : S_api_Field) (f0_v1a : Option Addr) (f0_v1c : Nat) (slope0 : Nat) (D : PH) (f0_h1 : RO (encF .f32) D (.slice f0_v1a f0.V.length f0_v1c) f0.V) (F : List Assert) (r : S_api_Field × Int) (hp : water_Filled_p f0 slope0 = some r) : ∀ w : World, SInv D (F) w → Calls Tryd.prog 14 #[.agg #[.int .i64 f0.Region.X, .int .i64 f0.Region.Y, .int .i64 f0.Region.W, .int .i64 f0.Region.H, .slice f0_v1a f0.V.length f0_v1c], .float .f32 slope0] w (fun e w' => ∃ (D1 : PH) (q_a1 : Option Addr) (q_cp1 : Nat), PH.le D D1 ∧ e = .returned (.tuple #[.agg #[.int .i64 r.1.Region.X, .int .i64 r.1.Region.Y, .int .i64 r.1.Region.W, .int .i64 r.1.Region.H, .slice q_a1 r.1.V.length q_cp1], .int .i64 r.2]) ∧ RO (encF .f32) D1 (.slice q_a1 r.1.V.length q_cp1) r.1.V ∧ SInv D1 (F) w') := by
  intro w hS
  refine call_intro Tryd.func14 rfl Tryd.ntmps14 (Nat.le_of_ble_eq_true rfl) hS ?_
  clear hS w
  unfold water_Filled_p at hp
  refine c_seq ?_
  refine c_region ?_
  refine l_box (cs := [.int .i64 f0.Region.X, .int .i64 f0.Region.Y, .int .i64 f0.Region.W, .int .i64 f0.Region.H, .slice f0_v1a f0.V.length f0_v1c]) rfl rfl (fun b3 => ?_)
  refine l_alloc (zs := [.int .i64 0, .int .i64 0, .int .i64 0, .int .i64 0, .slice none 0 0]) rfl (by kernel_rfl) (fun b4 => ?_)
  refine l_s (.int .i64 0) (by kernel_rfl) ?_
  refine l_nil ?_
  refine e_then ?_
  refine c_seq ?_
  refine c_seq ?_
  obtain ⟨r1, hr1, hp⟩ := bnd_some hp
  refine c_quiet ?_
  refine ql_q rfl (qs_ldpt (encW 5 (by decide)) fitv45 rfl 1 rfl (.agg #[.int .i64 f0.Region.X, .int .i64 f0.Region.Y, .int .i64 f0.Region.W, .int .i64 f0.Region.H, .slice f0_v1a f0.V.length f0_v1c]) (Nat.le_of_ble_eq_true rfl) rfl) ?_
  refine ql_call (v := .int .i64 r1) rfl (run_call (vs := [.agg #[.int .i64 f0.Region.X, .int .i64 f0.Region.Y, .int .i64 f0.Region.W, .int .i64 f0.Region.H, .slice f0_v1a f0.V.length f0_v1c]]) rfl Tryd.call26 rfl) (fun w hS => (field_Check_s f0 f0_v1a f0_v1c _ f0_h1 _ _ hr1 w (hS)).mono fun e w' h => ⟨h.1, h.2⟩) ?_
  refine ql_s (.int .i64 r1) (by kernel_rfl) ?_
  refine ql_nil ?_
  refine e_then ?_
  refine c_seq ?_
  refine c_quiet ?_
  refine ql_s (.int .i64 r1) (by kernel_rfl) ?_
  refine ql_s (.bool (r1 != 0)) (by kernel_rfl) ?_
  refine ql_nil ?_
  refine e_then ?_
  refine c_cond ((r1 != 0)) rfl (fun ht1 => ?_) (fun ht1 => ?_)
  · skip
    replace hp := if_t ht1 hp
    refine c_seq ?_
    refine c_region ?_
    refine l_s (.agg #[.int .i64 0, .int .i64 0, .int .i64 0, .int .i64 0, .slice none 0 0]) (by kernel_rfl) ?_
    refine l_s (.int .i64 r1) (by kernel_rfl) ?_
    refine l_store (dd := none) (vs := [.int .i64 0, .int .i64 0, .int .i64 0, .int .i64 0, .slice none 0 0]) (cs' := [.int .i64 0, .int .i64 0, .int .i64 0, .int .i64 0, .slice none 0 0]) rfl (by kernel_rfl) (by kernel_rfl) rfl rfl (Nat.le_of_ble_eq_true rfl) rfl rfl ?_
    refine l_s (.int .i64 r1) (by kernel_rfl) ?_
    refine l_nil ?_
    refine e_perm (fr1_perm 1 _) ?_
    refine e_drop ?_
    refine e_then ?_
    refine c_ret ?_
    refine e_then_ret ?_
    obtain rfl := Option.some.inj hp
    exact post_all (vs := [.agg #[.int .i64 0, .int .i64 0, .int .i64 0, .int .i64 0, .slice none 0 0], .int .i64 r1]) (.tuple #[.agg #[.int .i64 0, .int .i64 0, .int .i64 0, .int .i64 0, .slice none 0 0], .int .i64 r1]) ⟨⟨_, 0, _, _, 5, by decide, rfl, rfl, .inr ⟨fitv45, rfl, rfl⟩⟩, rfl, trivial⟩ rfl (.inl rfl) (fun w hS => ⟨D, none, 0, (PH.le_refl _), rfl, (RO.nil _ _), hS.tail⟩)
  · skip
    replace hp := if_f ht1 hp
    refine c_skip ?_
    refine e_then ?_
    refine c_seq ?_
    refine c_seq ?_
    obtain ⟨r2, hr2, hp⟩ := bnd_some hp
    refine c_region ?_
    refine l_s (.float .f32 slope0) (by kernel_rfl) ?_
    refine l_bslS (cs := [.float .f32 slope0]) (E := 48) (e := encF .f32) ([slope0] : List Nat) rfl (by kernel_rfl) rfl rfl (Nat.le_of_ble_eq_true rfl) ⟨rfl, trivial⟩ (fun b6 cp2 => ?_)
    refine l_callq (v := .int .i64 r2) rfl rfl Tryd.call27 (vs := [.slice (some ⟨b6, 0, none⟩) ([slope0] : List Nat).length cp2]) rfl (fun w hS => (calls_thaw (PH.le_refl _) (hS) (fun D0' hLl0 hLr0 hS => (field_Heights_s ([slope0] : List Nat) (some ⟨b6, 0, none⟩) cp2 _ hLr0 _ _ hr2 w (hS)).mono fun e w' h => ⟨h.1, h.2⟩)).mono fun e w' h => ⟨h.1, h.2⟩) ?_
    refine l_s (.int .i64 r2) (by kernel_rfl) ?_
    refine l_nil ?_
    refine e_drop ?_
    refine e_then ?_
    refine c_seq ?_
    refine c_quiet ?_
    refine ql_s (.int .i64 r2) (by kernel_rfl) ?_
    refine ql_s (.bool (r2 != 0)) (by kernel_rfl) ?_
    refine ql_nil ?_
    refine e_then ?_
    refine c_cond ((r2 != 0)) rfl (fun ht2 => ?_) (fun ht2 => ?_)
    · skip
      replace hp := if_t ht2 hp
      refine c_seq ?_
      refine c_region ?_
      refine l_s (.agg #[.int .i64 0, .int .i64 0, .int .i64 0, .int .i64 0, .slice none 0 0]) (by kernel_rfl) ?_
      refine l_s (.int .i64 r2) (by kernel_rfl) ?_
      refine l_store (dd := none) (vs := [.int .i64 0, .int .i64 0, .int .i64 0, .int .i64 0, .slice none 0 0]) (cs' := [.int .i64 0, .int .i64 0, .int .i64 0, .int .i64 0, .slice none 0 0]) rfl (by kernel_rfl) (by kernel_rfl) rfl rfl (Nat.le_of_ble_eq_true rfl) rfl rfl ?_
      refine l_s (.int .i64 r2) (by kernel_rfl) ?_
      refine l_nil ?_
      refine e_perm (fr1_perm 1 _) ?_
      refine e_drop ?_
      refine e_then ?_
      refine c_ret ?_
      refine e_then_ret ?_
      obtain rfl := Option.some.inj hp
      exact post_all (vs := [.agg #[.int .i64 0, .int .i64 0, .int .i64 0, .int .i64 0, .slice none 0 0], .int .i64 r2]) (.tuple #[.agg #[.int .i64 0, .int .i64 0, .int .i64 0, .int .i64 0, .slice none 0 0], .int .i64 r2]) ⟨⟨_, 0, _, _, 5, by decide, rfl, rfl, .inr ⟨fitv45, rfl, rfl⟩⟩, rfl, trivial⟩ rfl (.inl rfl) (fun w hS => ⟨D, none, 0, (PH.le_refl _), rfl, (RO.nil _ _), hS.tail⟩)
    · skip
      replace hp := if_f ht2 hp
      refine c_skip ?_
      refine e_then ?_
      refine c_seq ?_
      refine c_seq ?_
      refine c_cutq_end [(1, .float .f32 slope0), (2, .pointer (some ⟨b3, 0, none⟩)), (4, .pointer (some ⟨b4, 0, none⟩)), (26, .bool ((flt .f32 slope0 0) || (fgt .f32 slope0 1149239296)))] ?_ ?_
      · skip
        refine c_quiet ?_
        refine ql_s (.float .f32 slope0) (by kernel_rfl) ?_
        refine ql_s (.bool (flt .f32 slope0 0)) (by kernel_rfl) ?_
        refine ql_s (.bool (flt .f32 slope0 0)) (by kernel_rfl) ?_
        refine ql_case 23 (flt .f32 slope0 0) rfl (fun hg1 => ?_) (fun hg1 => ?_)
        · skip
          refine ql_s undef (by kernel_rfl) ?_
          refine ql_s undef (by kernel_rfl) ?_
          refine ql_s (.bool true) (by kernel_rfl) ?_
          refine ql_nil (e_cutq ?_)
          exact ⟨rfl, rfl, rfl, (congrArg Value.bool (by first | rfl | (rw [hg1]; rfl) | simp [hg1])), trivial⟩
        · skip
          refine ql_s (.float .f32 slope0) (by kernel_rfl) ?_
          refine ql_s (.bool (fgt .f32 slope0 1149239296)) (by kernel_rfl) ?_
          refine ql_s (.bool (fgt .f32 slope0 1149239296)) (by kernel_rfl) ?_
          refine ql_nil (e_cutq ?_)
          exact ⟨rfl, rfl, rfl, (congrArg Value.bool (by first | rfl | (rw [hg1]; rfl) | simp [hg1])), trivial⟩
      intro _
      refine e_then ?_
      refine c_cond (((flt .f32 slope0 0) || (fgt .f32 slope0 1149239296))) rfl (fun ht3 => ?_) (fun ht3 => ?_)
      · skip
        replace hp := if_t ht3 hp
        refine c_seq ?_
        refine c_region ?_
        refine l_s (.agg #[.int .i64 0, .int .i64 0, .int .i64 0, .int .i64 0, .slice none 0 0]) (by kernel_rfl) ?_
        refine l_store (dd := none) (vs := [.int .i64 0, .int .i64 0, .int .i64 0, .int .i64 0, .slice none 0 0]) (cs' := [.int .i64 0, .int .i64 0, .int .i64 0, .int .i64 0, .slice none 0 0]) rfl (by kernel_rfl) (by kernel_rfl) rfl rfl (Nat.le_of_ble_eq_true rfl) rfl rfl ?_
        refine l_s (.int .i64 3) (by kernel_rfl) ?_
        refine l_nil ?_
        refine e_perm (fr1_perm 1 _) ?_
        refine e_drop ?_
        refine e_then ?_
        refine c_ret ?_
        refine e_then_ret ?_
        obtain rfl := Option.some.inj hp
        exact post_all (vs := [.agg #[.int .i64 0, .int .i64 0, .int .i64 0, .int .i64 0, .slice none 0 0], .int .i64 3]) (.tuple #[.agg #[.int .i64 0, .int .i64 0, .int .i64 0, .int .i64 0, .slice none 0 0], .int .i64 3]) ⟨⟨_, 0, _, _, 5, by decide, rfl, rfl, .inr ⟨fitv45, rfl, rfl⟩⟩, rfl, trivial⟩ rfl (.inl rfl) (fun w hS => ⟨D, none, 0, (PH.le_refl _), rfl, (RO.nil _ _), hS.tail⟩)
      · skip
        replace hp := if_f ht3 hp
        refine c_skip ?_
        refine e_then ?_
        refine c_seq ?_
        obtain ⟨r3, hr3, hp⟩ := bnd_some hp
        obtain ⟨r4, hr4, hp⟩ := bnd_some hp
        refine c_perm (fr1_perm 1 _) ?_
        refine c_order (B := [pt b3 [.int .i64 f0.Region.X, .int .i64 f0.Region.Y, .int .i64 f0.Region.W, .int .i64 f0.Region.H, .slice f0_v1a f0.V.length f0_v1c] 45]) (.q 0 (.q 1 (.q 2 (.q 3 (.e 4 (.q 5 (.e 6 (.q 7 (.q 8 (.e 9 (.q 10 .nil))))))))))) hmix (by kernel_rfl) (NoPanic.then NoPanic.post) ?_
        refine o_s (.pointer (some ⟨b3, 0, none⟩)) rfl (by kernel_rfl) ?_
        refine o_qs rfl rfl (qs_ldpt (encW 4 (by decide)) fitv42 rfl 0 rfl (.agg #[.int .i64 f0.Region.X, .int .i64 f0.Region.Y, .int .i64 f0.Region.W, .int .i64 f0.Region.H]) (Nat.le_of_ble_eq_true rfl) rfl) ?_
        refine o_qs rfl rfl (qs_ldpt (encW 5 (by decide)) fitv45 rfl 0 rfl (.agg #[.int .i64 f0.Region.X, .int .i64 f0.Region.Y, .int .i64 f0.Region.W, .int .i64 f0.Region.H, .slice f0_v1a f0.V.length f0_v1c]) (Nat.le_of_ble_eq_true rfl) rfl) ?_
        refine o_s (.float .f32 slope0) rfl (by kernel_rfl) ?_
        refine o_calle rfl rfl rfl Tryd.call29 (vs := [.agg #[.int .i64 f0.Region.X, .int .i64 f0.Region.Y, .int .i64 f0.Region.W, .int .i64 f0.Region.H, .slice f0_v1a f0.V.length f0_v1c], .float .f32 slope0]) rfl (fun v D3 As3 => ∃ (a3 : Option Addr) (cp5 : Nat), PH.le D D3 ∧ v = .slice a3 r3.length cp5 ∧ RO (encF .f32) D3 (.slice a3 r3.length cp5) r3 ∧ As3 = pt b4 [.int .i64 0, .int .i64 0, .int .i64 0, .int .i64 0, .slice none 0 0] 45 :: F) (fun w hS => (water_filled_s f0 f0_v1a f0_v1c slope0 _ f0_h1 _ _ hr3 w (hS)).mono fun e w' ⟨D3, a3, cp5, hle3, he, h3, hS2⟩ => ⟨_, D3, _, he, ⟨a3, cp5, hle3, rfl, h3, rfl⟩, hS2⟩) ?_
        rintro _ D3 As3 ⟨a3, cp5, hle3, rfl, h3, hA3⟩
        subst As3
        refine ⟨PH.le_trans (PH.le_refl _) hle3, ?_⟩
        replace f0_h1 := f0_h1.mono hle3
        refine o_s (.agg #[.int .i64 f0.Region.X, .int .i64 f0.Region.Y, .int .i64 f0.Region.W, .int .i64 f0.Region.H, .slice a3 r3.length cp5]) rfl (by kernel_rfl) ?_
        refine o_calle rfl rfl rfl Tryd.call28 (vs := [.agg #[.int .i64 f0.Region.X, .int .i64 f0.Region.Y, .int .i64 f0.Region.W, .int .i64 f0.Region.H, .slice a3 r3.length cp5]]) rfl (fun v D4 As4 => ∃ (a4 : Option Addr) (cp6 : Nat), PH.le D3 D4 ∧ v = .tuple #[.agg #[.int .i64 r4.1.Region.X, .int .i64 r4.1.Region.Y, .int .i64 r4.1.Region.W, .int .i64 r4.1.Region.H, .slice a4 r4.1.V.length cp6], .int .i64 r4.2] ∧ RO (encF .f32) D4 (.slice a4 r4.1.V.length cp6) r4.1.V ∧ As4 = pt b4 [.int .i64 0, .int .i64 0, .int .i64 0, .int .i64 0, .slice none 0 0] 45 :: F) (fun w hS => (field_Result_s (⟨f0.Region, r3⟩ : S_api_Field) a3 cp5 _ h3 _ _ hr4 w (hS)).mono fun e w' ⟨D4, a4, cp6, hle4, he, h4, hS2⟩ => ⟨_, D4, _, he, ⟨a4, cp6, hle4, rfl, h4, rfl⟩, hS2⟩) ?_
        rintro _ D4 As4 ⟨a4, cp6, hle4, rfl, h4, hA4⟩
        subst As4
        refine ⟨PH.le_trans hle3 hle4, ?_⟩
        replace f0_h1 := f0_h1.mono hle4
        replace h3 := h3.mono hle4
        refine o_s (.agg #[.int .i64 r4.1.Region.X, .int .i64 r4.1.Region.Y, .int .i64 r4.1.Region.W, .int .i64 r4.1.Region.H, .slice a4 r4.1.V.length cp6]) rfl (by kernel_rfl) ?_
        refine o_s (.int .i64 r4.2) rfl (by kernel_rfl) ?_
        refine o_store (vs := [.int .i64 r4.1.Region.X, .int .i64 r4.1.Region.Y, .int .i64 r4.1.Region.W, .int .i64 r4.1.Region.H, .slice a4 r4.1.V.length cp6]) (cs' := [.int .i64 r4.1.Region.X, .int .i64 r4.1.Region.Y, .int .i64 r4.1.Region.W, .int .i64 r4.1.Region.H, .slice a4 r4.1.V.length cp6]) rfl rfl (PH.le_trans hle3 hle4) (by kernel_rfl) (by kernel_rfl) rfl rfl (Nat.le_of_ble_eq_true rfl) rfl rfl ?_
        refine o_s (.int .i64 r4.2) rfl (by kernel_rfl) ?_
        refine o_nil ?_
        refine e_drop ?_
        refine e_then ?_
        refine c_ret ?_
        obtain rfl := Option.some.inj hp
        exact post_all (vs := [.agg #[.int .i64 r4.1.Region.X, .int .i64 r4.1.Region.Y, .int .i64 r4.1.Region.W, .int .i64 r4.1.Region.H, .slice a4 r4.1.V.length cp6], .int .i64 r4.2]) (.tuple #[.agg #[.int .i64 r4.1.Region.X, .int .i64 r4.1.Region.Y, .int .i64 r4.1.Region.W, .int .i64 r4.1.Region.H, .slice a4 r4.1.V.length cp6], .int .i64 r4.2]) ⟨⟨_, 0, _, _, 5, by decide, rfl, rfl, .inr ⟨fitv45, rfl, rfl⟩⟩, rfl, trivial⟩ rfl (.inl rfl) (fun w hS => ⟨D4, a4, cp6, (PH.le_trans hle3 hle4), rfl, h4, hS.tail⟩)

-- tarnfell/tarnlaw2.flows
set_option maxRecDepth 100000 in
set_option maxHeartbeats 3000000 in
theorem tarnlaw2_flows_s  (D : PH)  (F : List Assert) (r : Bool) (hp : tarnlaw2_flows_p  = some r) : ∀ w : World, SInv D (F) w → Calls Tryd.prog 5 #[] w (fun e w' => e = .returned (.bool r) ∧ SInv D (F) w') := by
  intro w hS
  refine call_intro Tryd.func5 rfl Tryd.ntmps5 (Nat.le_of_ble_eq_true rfl) hS ?_
  clear hS w
  unfold tarnlaw2_flows_p at hp
  refine c_seq ?_
  refine c_quiet ?_
  refine ql_s (.bool false) (by kernel_rfl) ?_
  refine ql_nil ?_
  refine e_then ?_
  refine c_seq ?_
  obtain ⟨r1, hr1, hp⟩ := bnd_some hp
  refine c_region ?_
  refine l_s (.agg #[.int .i64 0, .int .i64 0, .int .i64 3, .int .i64 3]) (by kernel_rfl) ?_
  refine l_bslS (cs := [.float .f32 1084227584, .float .f32 1084227584, .float .f32 1084227584, .float .f32 1084227584, .float .f32 0, .float .f32 1084227584, .float .f32 1084227584, .float .f32 1084227584, .float .f32 1084227584]) (E := 48) (e := encF .f32) ([1084227584, 1084227584, 1084227584, 1084227584, 0, 1084227584, 1084227584, 1084227584, 1084227584] : List Nat) rfl (by kernel_rfl) rfl rfl (Nat.le_of_ble_eq_true rfl) ⟨rfl, rfl, rfl, rfl, rfl, rfl, rfl, rfl, rfl, trivial⟩ (fun b3 cp3 => ?_)
  refine l_s (.agg #[.int .i64 0, .int .i64 0, .int .i64 3, .int .i64 3, .slice (some ⟨b3, 0, none⟩) (([1084227584, 1084227584, 1084227584, 1084227584, 0, 1084227584, 1084227584, 1084227584, 1084227584] : List Nat).length) cp3]) (by kernel_rfl) ?_
  refine l_layS (PH.le_refl _) (fun D3 hle3 h3 => ?_)
  refine l_call rfl rfl Tryd.call14 (vs := [.agg #[.int .i64 0, .int .i64 0, .int .i64 3, .int .i64 3, .slice (some ⟨b3, 0, none⟩) ([1084227584, 1084227584, 1084227584, 1084227584, 0, 1084227584, 1084227584, 1084227584, 1084227584] : List Nat).length cp3], .float .f32 0]) rfl (fun v D4 As2 => ∃ (a2 : Option Addr) (cp4 : Nat), PH.le D3 D4 ∧ v = .tuple #[.agg #[.int .i64 r1.1.Region.X, .int .i64 r1.1.Region.Y, .int .i64 r1.1.Region.W, .int .i64 r1.1.Region.H, .slice a2 r1.1.V.length cp4], .int .i64 r1.2] ∧ RO (encF .f32) D4 (.slice a2 r1.1.V.length cp4) r1.1.V ∧ As2 = F) (fun w hS => (water_Filled_s (⟨(⟨0, 0, 3, 3⟩ : S_api_Region), ([1084227584, 1084227584, 1084227584, 1084227584, 0, 1084227584, 1084227584, 1084227584, 1084227584] : List Nat)⟩ : S_api_Field) (some ⟨b3, 0, none⟩) cp3 0 _ h3 _ _ hr1 w (hS)).mono fun e w' ⟨D4, a2, cp4, hle4, he, h4, hS2⟩ => ⟨_, D4, _, he, ⟨a2, cp4, hle4, rfl, h4, rfl⟩, hS2⟩) ?_
  rintro _ D4 As2 ⟨a2, cp4, hle4, rfl, h4, hA2⟩
  subst As2
  replace h3 := h3.mono hle4
  refine l_s (.tuple #[.agg #[.int .i64 r1.1.Region.X, .int .i64 r1.1.Region.Y, .int .i64 r1.1.Region.W, .int .i64 r1.1.Region.H, .slice a2 r1.1.V.length cp4], .int .i64 r1.2]) (by kernel_rfl) ?_
  refine l_s (.agg #[.int .i64 r1.1.Region.X, .int .i64 r1.1.Region.Y, .int .i64 r1.1.Region.W, .int .i64 r1.1.Region.H, .slice a2 r1.1.V.length cp4]) (by kernel_rfl) ?_
  refine l_s (.int .i64 r1.2) (by kernel_rfl) ?_
  refine l_alloc (zs := [.int .i64 0, .int .i64 0, .int .i64 0, .int .i64 0, .slice none 0 0]) rfl (by kernel_rfl) (fun b4 => ?_)
  refine l_store (dd := none) (vs := [.int .i64 r1.1.Region.X, .int .i64 r1.1.Region.Y, .int .i64 r1.1.Region.W, .int .i64 r1.1.Region.H, .slice a2 r1.1.V.length cp4]) (cs' := [.int .i64 r1.1.Region.X, .int .i64 r1.1.Region.Y, .int .i64 r1.1.Region.W, .int .i64 r1.1.Region.H, .slice a2 r1.1.V.length cp4]) rfl (by kernel_rfl) (by kernel_rfl) rfl rfl (Nat.le_of_ble_eq_true rfl) rfl rfl ?_
  refine l_s (.int .i64 r1.2) (by kernel_rfl) ?_
  refine l_nil ?_
  refine e_then ?_
  refine c_seq ?_
  obtain ⟨c1, hc1, hp⟩ := bnd_some hp
  refine c_cutq_end [(0, .bool c1)] ?_ ?_
  · skip
    refine c_quiet ?_
    refine ql_s (.int .i64 r1.2) (by kernel_rfl) ?_
    refine ql_s (.bool (r1.2 == 0)) (by kernel_rfl) ?_
    refine ql_s (.bool (r1.2 == 0)) (by kernel_rfl) ?_
    refine ql_case 12 ((r1.2 == 0)) rfl (fun hg1 => ?_) (fun hg1 => ?_)
    · skip
      replace hc1 := if_t hg1 hc1
      refine ql_s (.pointer (some ⟨b4, 4, none⟩)) (by kernel_rfl) ?_
      refine ql_q rfl (qs_ldpt encV fitv43 rfl 0 rfl (.slice a2 r1.1.V.length cp4) (Nat.le_of_ble_eq_true rfl) rfl) ?_
      refine ql_s (.int .i64 (r1.1.V.length : Int)) (by kernel_rfl) ?_
      refine ql_s (.bool ((r1.1.V.length : Int) == 9)) (by kernel_rfl) ?_
      refine ql_s (.bool ((r1.1.V.length : Int) == 9)) (by kernel_rfl) ?_
      refine ql_s (.bool ((r1.1.V.length : Int) == 9)) (by kernel_rfl) ?_
      refine ql_case 18 (((r1.1.V.length : Int) == 9)) rfl (fun hg2 => ?_) (fun hg2 => ?_)
      · skip
        replace hc1 := if_t hg2 hc1
        refine ql_s (.pointer (some ⟨b4, 4, none⟩)) (by kernel_rfl) ?_
        refine ql_q rfl (qs_ldpt encV fitv43 rfl 0 rfl (.slice a2 r1.1.V.length cp4) (Nat.le_of_ble_eq_true rfl) rfl) ?_
        obtain ⟨x1, hx1, hc1⟩ := bnd_some hc1
        obtain ⟨b5, o1, h5, hq1⟩ := RO.at h4 hx1
        refine ql_q rfl (qs_idx hq1 Tryd.underlying43 fit48 rfl rfl) ?_
        refine ql_q rfl (qs_ldAtV fit48 rfl h5 valF) ?_
        refine ql_s (.bool (feq .f32 x1 1084227584)) (by kernel_rfl) ?_
        refine ql_s (.bool (feq .f32 x1 1084227584)) (by kernel_rfl) ?_
        refine ql_s (.bool (feq .f32 x1 1084227584)) (by kernel_rfl) ?_
        refine ql_nil (e_cutq ?_)
        obtain rfl := Option.some.inj hc1
        exact ⟨rfl, trivial⟩
      · skip
        replace hc1 := if_f hg2 hc1
        refine ql_s undef (by kernel_rfl) ?_
        refine ql_s undef (by kernel_rfl) ?_
        refine ql_s undef (by kernel_rfl) ?_
        refine ql_s undef (by kernel_rfl) ?_
        refine ql_s undef (by kernel_rfl) ?_
        refine ql_s (.bool false) (by kernel_rfl) ?_
        refine ql_s (.bool false) (by kernel_rfl) ?_
        refine ql_nil (e_cutq ?_)
        obtain rfl := Option.some.inj hc1
        exact ⟨rfl, trivial⟩
    · skip
      replace hc1 := if_f hg1 hc1
      refine ql_s undef (by kernel_rfl) ?_
      refine ql_s undef (by kernel_rfl) ?_
      refine ql_s undef (by kernel_rfl) ?_
      refine ql_s undef (by kernel_rfl) ?_
      refine ql_s (.bool false) (by kernel_rfl) ?_
      refine ql_s (.bool false) (by kernel_rfl) ?_
      refine ql_s undef (by kernel_rfl) ?_
      refine ql_s undef (by kernel_rfl) ?_
      refine ql_s undef (by kernel_rfl) ?_
      refine ql_s undef (by kernel_rfl) ?_
      refine ql_s undef (by kernel_rfl) ?_
      refine ql_s (.bool false) (by kernel_rfl) ?_
      refine ql_s (.bool false) (by kernel_rfl) ?_
      refine ql_nil (e_cutq ?_)
      obtain rfl := Option.some.inj hc1
      exact ⟨rfl, trivial⟩
  intro _
  refine e_then ?_
  refine c_ret ?_
  obtain rfl := Option.some.inj hp
  exact post_all (vs := [.bool c1]) (.bool c1) ⟨rfl, trivial⟩ rfl (.inl rfl) (fun w hS => ⟨rfl, (hS.tail.lower (PH.le_trans hle3 hle4))⟩)

-- tarnfell/tarnref2.Step
set_option maxRecDepth 100000 in
set_option maxHeartbeats 3000000 in
theorem tarnref2_Step_s (d0 : Int) (D : PH)  (F : List Assert) (r : Int × Int) (hp : tarnref2_Step_p d0 = some r) : ∀ w : World, SInv D (F) w → Calls Tryd.prog 30 #[.int .i64 d0] w (fun e w' => e = .returned (.tuple #[.int .i64 r.1, .int .i64 r.2]) ∧ SInv D (F) w') := by
  intro w hS
  refine call_intro Tryd.func30 rfl Tryd.ntmps30 (Nat.le_of_ble_eq_true rfl) hS ?_
  clear hS w
  unfold tarnref2_Step_p at hp
  refine c_seq ?_
  refine c_quiet ?_
  refine ql_s (.int .i64 0) (by kernel_rfl) ?_
  refine ql_s (.int .i64 0) (by kernel_rfl) ?_
  refine ql_nil ?_
  refine e_then ?_
  refine c_seq ?_
  refine c_region ?_
  refine l_bslS (cs := [.int .i64 1, .int .i64 1, .int .i64 0, .int .i64 (-1), .int .i64 (-1), .int .i64 (-1), .int .i64 0, .int .i64 1]) (E := 3) (e := encI .i64) ([1, 1, 0, (-1), (-1), (-1), 0, 1] : List Int) rfl (by kernel_rfl) rfl rfl (Nat.le_of_ble_eq_true rfl) ⟨rfl, rfl, rfl, rfl, rfl, rfl, rfl, rfl, trivial⟩ (fun b2 cp2 => ?_)
  refine l_s (.slice (some ⟨b2, 0, none⟩) (([1, 1, 0, (-1), (-1), (-1), 0, 1] : List Int).length) cp2) (by kernel_rfl) ?_
  refine l_nil ?_
  refine e_then ?_
  refine c_seq ?_
  refine c_region ?_
  refine l_bslS (cs := [.int .i64 0, .int .i64 1, .int .i64 1, .int .i64 1, .int .i64 0, .int .i64 (-1), .int .i64 (-1), .int .i64 (-1)]) (E := 3) (e := encI .i64) ([0, 1, 1, 1, 0, (-1), (-1), (-1)] : List Int) rfl (by kernel_rfl) rfl rfl (Nat.le_of_ble_eq_true rfl) ⟨rfl, rfl, rfl, rfl, rfl, rfl, rfl, rfl, trivial⟩ (fun b4 cp4 => ?_)
  refine l_s (.slice (some ⟨b4, 0, none⟩) (([0, 1, 1, 1, 0, (-1), (-1), (-1)] : List Int).length) cp4) (by kernel_rfl) ?_
  refine l_nil ?_
  refine e_then ?_
  refine c_seq ?_
  obtain ⟨x1, hx1, hp⟩ := bnd_some hp
  obtain ⟨x2, hx2, hp⟩ := bnd_some hp
  refine c_quiet_draw hmix (by kernel_rfl) ?_
  refine ql_s (.slice (some ⟨b2, 0, none⟩) (([1, 1, 0, (-1), (-1), (-1), 0, 1] : List Int).length) cp2) (by kernel_rfl) ?_
  refine ql_s (.int .i64 d0) (by kernel_rfl) ?_
  refine ql_q rfl (qs_idx (IsIdx.beg (e := encI .i64) (Beg.of b2 _) rfl hx1) Tryd.underlying92 fit3 rfl rfl) ?_
  refine ql_q rfl (qs_ldS fit3 (Beg.of b2 _) rfl rfl 1 rfl (idx_some hx1).2.2 (v := .int .i64 x1) valI) ?_
  refine ql_s (.slice (some ⟨b4, 0, none⟩) (([0, 1, 1, 1, 0, (-1), (-1), (-1)] : List Int).length) cp4) (by kernel_rfl) ?_
  refine ql_s (.int .i64 d0) (by kernel_rfl) ?_
  refine ql_q rfl (qs_idx (IsIdx.beg (e := encI .i64) (Beg.of b4 _) rfl hx2) Tryd.underlying92 fit3 rfl rfl) ?_
  refine ql_q rfl (qs_ldS fit3 (Beg.of b4 _) rfl rfl 0 rfl (idx_some hx2).2.2 (v := .int .i64 x2) valI) ?_
  refine ql_s (.int .i64 x1) (by kernel_rfl) ?_
  refine ql_s (.int .i64 x2) (by kernel_rfl) ?_
  refine ql_nil ?_
  refine e_drop ?_
  refine e_drop ?_
  refine e_then ?_
  refine c_ret ?_
  obtain rfl := Option.some.inj hp
  exact post_all (vs := [.int .i64 x1, .int .i64 x2]) (.tuple #[.int .i64 x1, .int .i64 x2]) ⟨rfl, rfl, trivial⟩ rfl (.inl rfl) (fun w hS => ⟨rfl, hS⟩)

-- tarnfell/tarnref2.Direction
set_option maxRecDepth 100000 in
set_option maxHeartbeats 3000000 in
theorem tarnref2_Direction_s (a0 : S_api_Point) (b0 : S_api_Point) (D : PH)  (F : List Assert) (r : Int) (hp : tarnref2_Direction_p a0 b0 = some r) : ∀ w : World, SInv D (F) w → Calls Tryd.prog 15 #[.agg #[.int .i64 a0.X, .int .i64 a0.Y], .agg #[.int .i64 b0.X, .int .i64 b0.Y]] w (fun e w' => e = .returned (.int .i64 r) ∧ SInv D (F) w') := by
  intro w hS
  refine call_intro Tryd.func15 rfl Tryd.ntmps15 (Nat.le_of_ble_eq_true rfl) hS ?_
  clear hS w
  unfold tarnref2_Direction_p at hp
  refine c_seq ?_
  refine c_region ?_
  refine l_box (cs := [.int .i64 a0.X, .int .i64 a0.Y]) rfl rfl (fun b3 => ?_)
  refine l_box (cs := [.int .i64 b0.X, .int .i64 b0.Y]) rfl rfl (fun b4 => ?_)
  refine l_s (.int .i64 0) (by kernel_rfl) ?_
  refine l_nil ?_
  refine e_then ?_
  refine c_seq ?_
  refine c_seq ?_
  refine c_quiet ?_
  refine ql_s (.int .i64 0) (by kernel_rfl) ?_
  refine ql_nil ?_
  refine e_then ?_
  have hm0 : (8 : Nat) = ((8 : Int)).toNat := rfl
  have hb0 : ((8 : Int)) ≤ 4611686018427387904 := by decide
  have hm1 := hm0; have hb1 := hb0; clear hm0 hb0
  obtain ⟨x1, hs1, hp⟩ := bnd_some hp
  obtain ⟨body1, hbody1, hs1⟩ := forI_gen hs1
  refine c_cut_end (fun φ1 D1 As1 => ∃ (s1 : Unit), x1 = .go s1 ∧ Is φ1 [] ∧ PH.le D D1 ∧ As1 = pt b4 [.int .i64 b0.X, .int .i64 b0.Y] 50 :: pt b3 [.int .i64 a0.X, .int .i64 a0.Y] 50 :: F) ?_ ?_
  · skip
    refine c_block ?_
    refine c_loop (fun k φ1 D2 As1 => ∃ (j1 i1 : Nat) (s2 : Unit), k = j1 + 1 ∧ i1 + j1 = 8 ∧ Is φ1 [(2, .pointer (some ⟨b3, 0, none⟩)), (3, .pointer (some ⟨b4, 0, none⟩)), (8, .int .i64 (i1 : Int))] ∧ PH.le D D2 ∧ As1 = pt b4 [.int .i64 b0.X, .int .i64 b0.Y] 50 :: pt b3 [.int .i64 a0.X, .int .i64 a0.Y] 50 :: F ∧ forI body1 j1 i1 s2 = some x1) ⟨8 + 1, 8, 0, (), rfl, Nat.zero_add _, ⟨rfl, rfl, rfl, trivial⟩, (PH.le_refl _), rfl, hs1⟩ ?_ ?_
    · rintro _ _ _ ⟨_, _, _, h0, _⟩; omega
    intro k1
    rintro φ1 D2 As1 ⟨j1, i1, s2, hk1, hij1, hI1, hD1, hA1, hs2⟩
    subst As1
    refine c_frame _ hI1 ?_
    obtain rfl : k1 = j1 := by omega
    clear hk1
    rcases k1 with _ | j1
    · skip
      refine c_seq ?_
      refine c_quiet ?_
      refine ql_s (.bool (decide ((i1 : Int) < 8))) (by kernel_rfl) ?_
      refine ql_nil ?_
      refine e_then ?_
      refine c_seq ?_
      refine c_cond (decide ((i1 : Int) < 8)) rfl (fun ht1 => absurd ((dec_lt_f hm1 (by omega)).symm.trans ht1) (by simp)) (fun _ => ?_)
      refine c_exit ?_
      refine e_then_exit ?_
      refine e_then_exit ?_
      obtain rfl := Option.some.inj hs2
      refine e_blk_exit ?_
      exact e_cut ⟨(), rfl, trivial, hD1, rfl⟩
    · skip
      obtain ⟨y1, hx1, hs2⟩ := forI_some hs2
      replace hx1 := (congrFun (congrFun hbody1 i1) s2).trans hx1
      refine c_seq ?_
      refine c_quiet ?_
      refine ql_s (.bool (decide ((i1 : Int) < 8))) (by kernel_rfl) ?_
      refine ql_nil ?_
      refine e_then ?_
      refine c_seq ?_
      refine c_cond (decide ((i1 : Int) < 8)) rfl (fun _ => ?_) (fun ht2 => absurd ((dec_lt_t hm1 (by omega)).symm.trans ht2) (by simp))
      refine c_skip ?_
      refine e_then ?_
      refine c_seq ?_
      refine c_block ?_
      refine c_seq ?_
      refine c_quiet ?_
      refine ql_s (.int .i64 (i1 : Int)) (by kernel_rfl) ?_
      refine ql_s (.int .i64 (i1 : Int)) (by kernel_rfl) ?_
      refine ql_nil ?_
      refine e_then ?_
      refine c_seq ?_
      obtain ⟨r1, hr1, hx1⟩ := bnd_some hx1
      refine c_quiet ?_
      refine ql_s (.int .i64 (i1 : Int)) (by kernel_rfl) ?_
      refine ql_call (v := .tuple #[.int .i64 r1.1, .int .i64 r1.2]) rfl (run_call (vs := [.int .i64 (i1 : Int)]) rfl Tryd.call30 rfl) (fun w hS => (tarnref2_Step_s (i1 : Int) _  _ _ hr1 w (hS)).mono fun e w' h => ⟨h.1, h.2⟩) ?_
      refine ql_s (.tuple #[.int .i64 r1.1, .int .i64 r1.2]) (by kernel_rfl) ?_
      refine ql_s (.int .i64 r1.1) (by kernel_rfl) ?_
      refine ql_s (.int .i64 r1.2) (by kernel_rfl) ?_
      refine ql_s (.int .i64 r1.1) (by kernel_rfl) ?_
      refine ql_s (.int .i64 r1.2) (by kernel_rfl) ?_
      refine ql_nil ?_
      refine e_then ?_
      refine c_seq ?_
      refine c_cutq_end [(2, .pointer (some ⟨b3, 0, none⟩)), (3, .pointer (some ⟨b4, 0, none⟩)), (5, .int .i64 (i1 : Int)), (8, .int .i64 (i1 : Int)), (31, .bool (((subI b0.X a0.X) == r1.1) && ((subI b0.Y a0.Y) == r1.2)))] ?_ ?_
      · skip
        refine c_quiet ?_
        refine ql_s (.pointer (some ⟨b4, 0, none⟩)) (by kernel_rfl) ?_
        refine ql_q rfl (qs_ldpt encV fitv3 rfl 0 rfl (.int .i64 b0.X) (Nat.le_of_ble_eq_true rfl) rfl) ?_
        refine ql_s (.pointer (some ⟨b3, 0, none⟩)) (by kernel_rfl) ?_
        refine ql_q rfl (qs_ldpt encV fitv3 rfl 1 rfl (.int .i64 a0.X) (Nat.le_of_ble_eq_true rfl) rfl) ?_
        refine ql_s (.int .i64 (subI b0.X a0.X)) (by kernel_rfl) ?_
        refine ql_s (.int .i64 r1.1) (by kernel_rfl) ?_
        refine ql_s (.bool ((subI b0.X a0.X) == r1.1)) (by kernel_rfl) ?_
        refine ql_s (.bool ((subI b0.X a0.X) == r1.1)) (by kernel_rfl) ?_
        refine ql_case 23 (((subI b0.X a0.X) == r1.1)) rfl (fun hg1 => ?_) (fun hg1 => ?_)
        · skip
          refine ql_s (.pointer (some ⟨b4, 1, none⟩)) (by kernel_rfl) ?_
          refine ql_q rfl (qs_ldpt encV fitv3 rfl 0 rfl (.int .i64 b0.Y) (Nat.le_of_ble_eq_true rfl) rfl) ?_
          refine ql_s (.pointer (some ⟨b3, 1, none⟩)) (by kernel_rfl) ?_
          refine ql_q rfl (qs_ldpt encV fitv3 rfl 1 rfl (.int .i64 a0.Y) (Nat.le_of_ble_eq_true rfl) rfl) ?_
          refine ql_s (.int .i64 (subI b0.Y a0.Y)) (by kernel_rfl) ?_
          refine ql_s (.int .i64 r1.2) (by kernel_rfl) ?_
          refine ql_s (.bool ((subI b0.Y a0.Y) == r1.2)) (by kernel_rfl) ?_
          refine ql_s (.bool ((subI b0.Y a0.Y) == r1.2)) (by kernel_rfl) ?_
          refine ql_nil (e_cutq ?_)
          exact ⟨rfl, rfl, rfl, rfl, (congrArg Value.bool (by first | rfl | (rw [hg1]; rfl) | simp [hg1])), trivial⟩
        · skip
          refine ql_s undef (by kernel_rfl) ?_
          refine ql_s undef (by kernel_rfl) ?_
          refine ql_s undef (by kernel_rfl) ?_
          refine ql_s undef (by kernel_rfl) ?_
          refine ql_s undef (by kernel_rfl) ?_
          refine ql_s undef (by kernel_rfl) ?_
          refine ql_s undef (by kernel_rfl) ?_
          refine ql_s (.bool false) (by kernel_rfl) ?_
          refine ql_nil (e_cutq ?_)
          exact ⟨rfl, rfl, rfl, rfl, (congrArg Value.bool (by first | rfl | (rw [hg1]; rfl) | simp [hg1])), trivial⟩
      intro _
      refine e_then ?_
      refine c_cond ((((subI b0.X a0.X) == r1.1) && ((subI b0.Y a0.Y) == r1.2))) rfl (fun ht3 => ?_) (fun ht3 => ?_)
      · skip
        replace hx1 := if_t ht3 hx1
        refine c_seq ?_
        refine c_quiet ?_
        refine ql_s (.int .i64 (i1 : Int)) (by kernel_rfl) ?_
        refine ql_s (.int .i64 (i1 : Int)) (by kernel_rfl) ?_
        refine ql_nil ?_
        refine e_drop ?_
        refine e_drop ?_
        refine e_then ?_
        refine c_ret ?_
        refine e_blk_ret ?_
        refine e_then_ret ?_
        refine e_then_ret ?_
        obtain rfl := Option.some.inj hx1
        obtain rfl := hs2
        refine e_blk_ret ?_
        refine e_then_ret ?_
        dsimp only at hp
        refine e_then_ret ?_
        obtain rfl := Option.some.inj hp
        exact post_all (vs := [.int .i64 (i1 : Int)]) (.int .i64 (i1 : Int)) ⟨rfl, trivial⟩ rfl (.inl rfl) (fun w hS => ⟨rfl, (hS.lower hD1)⟩)
      · skip
        replace hx1 := if_f ht3 hx1
        refine c_skip ?_
        refine e_blk ?_
        refine e_then ?_
        refine c_quiet ?_
        refine ql_s (.int .i64 (addI (i1 : Int) 1)) (by kernel_rfl) ?_
        refine ql_s (.int .i64 (addI (i1 : Int) 1)) (by kernel_rfl) ?_
        refine ql_nil ?_
        obtain rfl := Option.some.inj hx1
        exact e_cut ⟨j1, i1 + 1, (), by omega, by omega, ⟨rfl, rfl, (congrArg (Value.int .i64) (addI_succ (by omega))), trivial⟩, hD1, rfl, hs2⟩
  · skip
    rintro φ2 D1 As2 ⟨s1, rfl, hI2, hD2, hA2⟩
    subst As2
    dsimp only at hp
    refine e_frame _ hI2 ?_
    refine e_then ?_
    refine c_seq ?_
    refine c_quiet ?_
    refine ql_s (.int .i64 (-1)) (by kernel_rfl) ?_
    refine ql_nil ?_
    refine e_drop ?_
    refine e_drop ?_
    refine e_then ?_
    refine c_ret ?_
    obtain rfl := Option.some.inj hp
    exact post_all (vs := [.int .i64 (-1)]) (.int .i64 (-1)) ⟨rfl, trivial⟩ rfl (.inl rfl) (fun w hS => ⟨rfl, (hS.lower hD2)⟩)

-- tarnfell/tarnref2.RiverError
set_option maxRecDepth 100000 in
set_option maxHeartbeats 3000000 in
theorem tarnref2_RiverError_s (l0 : List S_api_River) (l0_v1a : Option Addr) (l0_v1c : Nat) (D : PH) (l0_h1 : RO encS_api_River D (.slice l0_v1a l0.length l0_v1c) l0) (F : List Assert) (r : Int) (hp : tarnref2_RiverError_p l0 = some r) : ∀ w : World, SInv D (F) w → Calls Tryd.prog 6 #[.slice l0_v1a l0.length l0_v1c] w (fun e w' => e = .returned (.int .i64 r) ∧ SInv D (F) w') := by
  intro w hS
  refine call_intro Tryd.func6 rfl Tryd.ntmps6 (Nat.le_of_ble_eq_true rfl) hS ?_
  clear hS w
  unfold tarnref2_RiverError_p at hp
  refine c_seq ?_
  refine c_quiet ?_
  refine ql_s (.int .i64 0) (by kernel_rfl) ?_
  refine ql_nil ?_
  refine e_then ?_
  refine c_seq ?_
  refine c_seq ?_
  refine c_quiet ?_
  refine ql_s (.slice l0_v1a l0.length l0_v1c) (by kernel_rfl) ?_
  refine ql_s (.int .i64 (l0.length : Int)) (by kernel_rfl) ?_
  refine ql_s (.bool (decide ((l0.length : Int) > 65536))) (by kernel_rfl) ?_
  refine ql_nil ?_
  refine e_then ?_
  refine c_cond (decide ((l0.length : Int) > 65536)) rfl (fun ht1 => ?_) (fun ht1 => ?_)
  · skip
    replace hp := if_t ht1 hp
    refine c_seq ?_
    refine c_quiet ?_
    refine ql_s (.int .i64 4) (by kernel_rfl) ?_
    refine ql_nil ?_
    refine e_then ?_
    refine c_ret ?_
    refine e_then_ret ?_
    obtain rfl := Option.some.inj hp
    exact post_all (vs := [.int .i64 4]) (.int .i64 4) ⟨rfl, trivial⟩ rfl (.inl rfl) (fun w hS => ⟨rfl, hS⟩)
  · skip
    replace hp := if_f ht1 hp
    refine c_skip ?_
    refine e_then ?_
    refine c_seq ?_
    refine c_seq ?_
    refine c_quiet ?_
    refine ql_s (.slice l0_v1a l0.length l0_v1c) (by kernel_rfl) ?_
    refine ql_s (.int .i64 (l0.length : Int)) (by kernel_rfl) ?_
    refine ql_s (.int .i64 0) (by kernel_rfl) ?_
    refine ql_nil ?_
    refine e_then ?_
    have hb0 : (l0.length : Int) ≤ 4611686018427387904 := by have := RO.bound l0_h1; omega
    have hm0 : l0.length = (l0.length : Int).toNat := by omega
    have hm1 := hm0; have hb1 := hb0; clear hm0 hb0
    obtain ⟨x1, hs1, hp⟩ := bnd_some hp
    obtain ⟨body1, hbody1, hs1⟩ := forI_gen hs1
    refine c_cut_end (fun φ1 D1 As1 => ∃ (s1 : Unit), x1 = .go s1 ∧ Is φ1 [] ∧ PH.le D D1 ∧ As1 = F) ?_ ?_
    · skip
      refine c_block ?_
      refine c_loop (fun k φ1 D2 As1 => ∃ (j1 i1 : Nat) (s2 : Unit), k = j1 + 1 ∧ i1 + j1 = l0.length ∧ Is φ1 [(0, .slice l0_v1a l0.length l0_v1c), (12, .slice l0_v1a l0.length l0_v1c), (13, .int .i64 (l0.length : Int)), (14, .int .i64 (i1 : Int))] ∧ PH.le D D2 ∧ As1 = F ∧ forI body1 j1 i1 s2 = some x1) ⟨l0.length + 1, l0.length, 0, (), rfl, Nat.zero_add _, ⟨rfl, rfl, rfl, rfl, trivial⟩, (PH.le_refl _), rfl, hs1⟩ ?_ ?_
      · rintro _ _ _ ⟨_, _, _, h0, _⟩; omega
      intro k1
      rintro φ1 D2 As1 ⟨j1, i1, s2, hk1, hij1, hI1, hD1, hA1, hs2⟩
      subst As1
      replace l0_h1 := l0_h1.mono hD1
      refine c_frame _ hI1 ?_
      obtain rfl : k1 = j1 := by omega
      clear hk1
      rcases k1 with _ | j1
      · skip
        refine c_seq ?_
        refine c_quiet ?_
        refine ql_s (.bool (decide ((i1 : Int) < (l0.length : Int)))) (by kernel_rfl) ?_
        refine ql_nil ?_
        refine e_then ?_
        refine c_seq ?_
        refine c_cond (decide ((i1 : Int) < (l0.length : Int))) rfl (fun ht2 => absurd ((dec_lt_f hm1 (by omega)).symm.trans ht2) (by simp)) (fun _ => ?_)
        refine c_exit ?_
        refine e_then_exit ?_
        refine e_then_exit ?_
        obtain rfl := Option.some.inj hs2
        refine e_blk_exit ?_
        exact e_cut ⟨(), rfl, trivial, hD1, rfl⟩
      · skip
        obtain ⟨y1, hx1, hs2⟩ := forI_some hs2
        replace hx1 := (congrFun (congrFun hbody1 i1) s2).trans hx1
        refine c_seq ?_
        refine c_quiet ?_
        refine ql_s (.bool (decide ((i1 : Int) < (l0.length : Int)))) (by kernel_rfl) ?_
        refine ql_nil ?_
        refine e_then ?_
        refine c_seq ?_
        refine c_cond (decide ((i1 : Int) < (l0.length : Int))) rfl (fun _ => ?_) (fun ht3 => absurd ((dec_lt_t hm1 (by omega)).symm.trans ht3) (by simp))
        refine c_skip ?_
        refine e_then ?_
        refine c_seq ?_
        refine c_block ?_
        refine c_seq ?_
        obtain ⟨x2, hx2, hx1⟩ := bnd_some hx1
        obtain ⟨b1, o1, h1, hq1⟩ := RO.at l0_h1 hx2
        obtain ⟨cs1, hc1, ha1⟩ := h1.cells
        obtain ⟨v1, rfl, h2⟩ := hc1
        obtain ⟨a1, cp1, rfl⟩ := RO.len h2
        refine c_region ?_
        refine l_q rfl (qs_idx hq1 Tryd.underlying22 fit38 rfl rfl) ?_
        refine l_q rfl (qs_ldC fit38 rfl ha1 rfl (.agg #[.slice a1 x2.Points.length cp1, .int .i64 x2.Amount, .int .i64 x2.Order, .int .i64 x2.Into]) rfl) ?_
        refine l_alloc (zs := [.slice none 0 0, .int .i64 0, .int .i64 0, .int .i64 0]) rfl (by kernel_rfl) (fun b3 => ?_)
        refine l_store (dd := none) (vs := [.slice a1 x2.Points.length cp1, .int .i64 x2.Amount, .int .i64 x2.Order, .int .i64 x2.Into]) (cs' := [.slice a1 x2.Points.length cp1, .int .i64 x2.Amount, .int .i64 x2.Order, .int .i64 x2.Into]) rfl (by kernel_rfl) (by kernel_rfl) rfl rfl (Nat.le_of_ble_eq_true rfl) rfl rfl ?_
        refine l_nil ?_
        refine e_then ?_
        refine c_seq ?_
        refine c_seq ?_
        refine c_quiet ?_
        refine ql_s (.pointer (some ⟨b3, 0, none⟩)) (by kernel_rfl) ?_
        refine ql_q rfl (qs_ldpt encV fitv36 rfl 0 rfl (.slice a1 x2.Points.length cp1) (Nat.le_of_ble_eq_true rfl) rfl) ?_
        refine ql_s (.int .i64 (x2.Points.length : Int)) (by kernel_rfl) ?_
        refine ql_s (.bool ((x2.Points.length : Int) == 0)) (by kernel_rfl) ?_
        refine ql_nil ?_
        refine e_then ?_
        refine c_cond (((x2.Points.length : Int) == 0)) rfl (fun ht4 => ?_) (fun ht4 => ?_)
        · skip
          replace hx1 := if_t ht4 hx1
          refine c_seq ?_
          refine c_quiet ?_
          refine ql_s (.int .i64 10) (by kernel_rfl) ?_
          refine ql_nil ?_
          refine e_drop ?_
          refine e_then ?_
          refine c_ret ?_
          refine e_then_ret ?_
          refine e_blk_ret ?_
          refine e_then_ret ?_
          refine e_then_ret ?_
          obtain rfl := Option.some.inj hx1
          obtain rfl := hs2
          refine e_blk_ret ?_
          refine e_then_ret ?_
          dsimp only at hp
          refine e_then_ret ?_
          obtain rfl := Option.some.inj hp
          exact post_all (vs := [.int .i64 10]) (.int .i64 10) ⟨rfl, trivial⟩ rfl (.inl rfl) (fun w hS => ⟨rfl, (hS.lower hD1)⟩)
        · skip
          replace hx1 := if_f ht4 hx1
          refine c_skip ?_
          refine e_then ?_
          refine c_seq ?_
          refine c_seq ?_
          refine c_cutq_end [(0, .slice l0_v1a l0.length l0_v1c), (4, .pointer (some ⟨b3, 0, none⟩)), (12, .slice l0_v1a l0.length l0_v1c), (13, .int .i64 (l0.length : Int)), (14, .int .i64 (i1 : Int)), (39, .bool ((decide (x2.Amount < 0)) || ((decide (x2.Amount > 1099511627776)) || ((decide (x2.Order < 1)) || (decide (x2.Order > 100))))))] ?_ ?_
          · skip
            refine c_quiet ?_
            refine ql_s (.pointer (some ⟨b3, 1, none⟩)) (by kernel_rfl) ?_
            refine ql_q rfl (qs_ldpt encV fitv3 rfl 0 rfl (.int .i64 x2.Amount) (Nat.le_of_ble_eq_true rfl) rfl) ?_
            refine ql_s (.bool (decide (x2.Amount < 0))) (by kernel_rfl) ?_
            refine ql_s (.bool (decide (x2.Amount < 0))) (by kernel_rfl) ?_
            refine ql_case 25 (decide (x2.Amount < 0)) rfl (fun hg1 => ?_) (fun hg1 => ?_)
            · skip
              refine ql_s undef (by kernel_rfl) ?_
              refine ql_s undef (by kernel_rfl) ?_
              refine ql_s undef (by kernel_rfl) ?_
              refine ql_s (.bool true) (by kernel_rfl) ?_
              refine ql_s (.bool true) (by kernel_rfl) ?_
              refine ql_s undef (by kernel_rfl) ?_
              refine ql_s undef (by kernel_rfl) ?_
              refine ql_s undef (by kernel_rfl) ?_
              refine ql_s (.bool true) (by kernel_rfl) ?_
              refine ql_s (.bool true) (by kernel_rfl) ?_
              refine ql_s undef (by kernel_rfl) ?_
              refine ql_s undef (by kernel_rfl) ?_
              refine ql_s undef (by kernel_rfl) ?_
              refine ql_s (.bool true) (by kernel_rfl) ?_
              refine ql_nil (e_cutq ?_)
              exact ⟨rfl, rfl, rfl, rfl, rfl, (congrArg Value.bool (by first | rfl | (rw [hg1]; rfl) | simp [hg1])), trivial⟩
            · skip
              refine ql_s (.pointer (some ⟨b3, 1, none⟩)) (by kernel_rfl) ?_
              refine ql_q rfl (qs_ldpt encV fitv3 rfl 0 rfl (.int .i64 x2.Amount) (Nat.le_of_ble_eq_true rfl) rfl) ?_
              refine ql_s (.bool (decide (x2.Amount > 1099511627776))) (by kernel_rfl) ?_
              refine ql_s (.bool (decide (x2.Amount > 1099511627776))) (by kernel_rfl) ?_
              refine ql_s (.bool (decide (x2.Amount > 1099511627776))) (by kernel_rfl) ?_
              refine ql_case 30 (decide (x2.Amount > 1099511627776)) rfl (fun hg2 => ?_) (fun hg2 => ?_)
              · skip
                refine ql_s undef (by kernel_rfl) ?_
                refine ql_s undef (by kernel_rfl) ?_
                refine ql_s undef (by kernel_rfl) ?_
                refine ql_s (.bool true) (by kernel_rfl) ?_
                refine ql_s (.bool true) (by kernel_rfl) ?_
                refine ql_s undef (by kernel_rfl) ?_
                refine ql_s undef (by kernel_rfl) ?_
                refine ql_s undef (by kernel_rfl) ?_
                refine ql_s (.bool true) (by kernel_rfl) ?_
                refine ql_nil (e_cutq ?_)
                exact ⟨rfl, rfl, rfl, rfl, rfl, (congrArg Value.bool (by first | rfl | (rw [hg1, hg2]; rfl) | simp [hg1, hg2])), trivial⟩
              · skip
                refine ql_s (.pointer (some ⟨b3, 2, none⟩)) (by kernel_rfl) ?_
                refine ql_q rfl (qs_ldpt encV fitv3 rfl 0 rfl (.int .i64 x2.Order) (Nat.le_of_ble_eq_true rfl) rfl) ?_
                refine ql_s (.bool (decide (x2.Order < 1))) (by kernel_rfl) ?_
                refine ql_s (.bool (decide (x2.Order < 1))) (by kernel_rfl) ?_
                refine ql_s (.bool (decide (x2.Order < 1))) (by kernel_rfl) ?_
                refine ql_case 35 (decide (x2.Order < 1)) rfl (fun hg3 => ?_) (fun hg3 => ?_)
                · skip
                  refine ql_s undef (by kernel_rfl) ?_
                  refine ql_s undef (by kernel_rfl) ?_
                  refine ql_s undef (by kernel_rfl) ?_
                  refine ql_s (.bool true) (by kernel_rfl) ?_
                  refine ql_nil (e_cutq ?_)
                  exact ⟨rfl, rfl, rfl, rfl, rfl, (congrArg Value.bool (by first | rfl | (rw [hg1, hg2, hg3]; rfl) | simp [hg1, hg2, hg3])), trivial⟩
                · skip
                  refine ql_s (.pointer (some ⟨b3, 2, none⟩)) (by kernel_rfl) ?_
                  refine ql_q rfl (qs_ldpt encV fitv3 rfl 0 rfl (.int .i64 x2.Order) (Nat.le_of_ble_eq_true rfl) rfl) ?_
                  refine ql_s (.bool (decide (x2.Order > 100))) (by kernel_rfl) ?_
                  refine ql_s (.bool (decide (x2.Order > 100))) (by kernel_rfl) ?_
                  refine ql_nil (e_cutq ?_)
                  exact ⟨rfl, rfl, rfl, rfl, rfl, (congrArg Value.bool (by first | rfl | (rw [hg1, hg2, hg3]; rfl) | simp [hg1, hg2, hg3])), trivial⟩
          intro _
          refine e_then ?_
          refine c_cond (((decide (x2.Amount < 0)) || ((decide (x2.Amount > 1099511627776)) || ((decide (x2.Order < 1)) || (decide (x2.Order > 100)))))) rfl (fun ht5 => ?_) (fun ht5 => ?_)
          · skip
            replace hx1 := if_t ht5 hx1
            refine c_seq ?_
            refine c_quiet ?_
            refine ql_s (.int .i64 3) (by kernel_rfl) ?_
            refine ql_nil ?_
            refine e_drop ?_
            refine e_then ?_
            refine c_ret ?_
            refine e_then_ret ?_
            refine e_blk_ret ?_
            refine e_then_ret ?_
            refine e_then_ret ?_
            obtain rfl := Option.some.inj hx1
            obtain rfl := hs2
            refine e_blk_ret ?_
            refine e_then_ret ?_
            dsimp only at hp
            refine e_then_ret ?_
            obtain rfl := Option.some.inj hp
            exact post_all (vs := [.int .i64 3]) (.int .i64 3) ⟨rfl, trivial⟩ rfl (.inl rfl) (fun w hS => ⟨rfl, (hS.lower hD1)⟩)
          · skip
            replace hx1 := if_f ht5 hx1
            refine c_skip ?_
            refine e_then ?_
            refine c_seq ?_
            refine c_seq ?_
            refine c_cutq_end [(0, .slice l0_v1a l0.length l0_v1c), (4, .pointer (some ⟨b3, 0, none⟩)), (12, .slice l0_v1a l0.length l0_v1c), (13, .int .i64 (l0.length : Int)), (14, .int .i64 (i1 : Int)), (49, .bool ((decide (x2.Into < (-1))) || (decide (x2.Into ≥ (l0.length : Int)))))] ?_ ?_
            · skip
              refine c_quiet ?_
              refine ql_s (.pointer (some ⟨b3, 3, none⟩)) (by kernel_rfl) ?_
              refine ql_q rfl (qs_ldpt encV fitv3 rfl 0 rfl (.int .i64 x2.Into) (Nat.le_of_ble_eq_true rfl) rfl) ?_
              refine ql_s (.bool (decide (x2.Into < (-1)))) (by kernel_rfl) ?_
              refine ql_s (.bool (decide (x2.Into < (-1)))) (by kernel_rfl) ?_
              refine ql_case 43 (decide (x2.Into < (-1))) rfl (fun hg4 => ?_) (fun hg4 => ?_)
              · skip
                refine ql_s undef (by kernel_rfl) ?_
                refine ql_s undef (by kernel_rfl) ?_
                refine ql_s undef (by kernel_rfl) ?_
                refine ql_s undef (by kernel_rfl) ?_
                refine ql_s undef (by kernel_rfl) ?_
                refine ql_s (.bool true) (by kernel_rfl) ?_
                refine ql_nil (e_cutq ?_)
                exact ⟨rfl, rfl, rfl, rfl, rfl, (congrArg Value.bool (by first | rfl | (rw [hg4]; rfl) | simp [hg4])), trivial⟩
              · skip
                refine ql_s (.pointer (some ⟨b3, 3, none⟩)) (by kernel_rfl) ?_
                refine ql_q rfl (qs_ldpt encV fitv3 rfl 0 rfl (.int .i64 x2.Into) (Nat.le_of_ble_eq_true rfl) rfl) ?_
                refine ql_s (.slice l0_v1a l0.length l0_v1c) (by kernel_rfl) ?_
                refine ql_s (.int .i64 (l0.length : Int)) (by kernel_rfl) ?_
                refine ql_s (.bool (decide (x2.Into ≥ (l0.length : Int)))) (by kernel_rfl) ?_
                refine ql_s (.bool (decide (x2.Into ≥ (l0.length : Int)))) (by kernel_rfl) ?_
                refine ql_nil (e_cutq ?_)
                exact ⟨rfl, rfl, rfl, rfl, rfl, (congrArg Value.bool (by first | rfl | (rw [hg4]; rfl) | simp [hg4])), trivial⟩
            intro _
            refine e_then ?_
            refine c_cond (((decide (x2.Into < (-1))) || (decide (x2.Into ≥ (l0.length : Int))))) rfl (fun ht6 => ?_) (fun ht6 => ?_)
            · skip
              replace hx1 := if_t ht6 hx1
              refine c_seq ?_
              refine c_quiet ?_
              refine ql_s (.int .i64 11) (by kernel_rfl) ?_
              refine ql_nil ?_
              refine e_drop ?_
              refine e_then ?_
              refine c_ret ?_
              refine e_then_ret ?_
              refine e_blk_ret ?_
              refine e_then_ret ?_
              refine e_then_ret ?_
              obtain rfl := Option.some.inj hx1
              obtain rfl := hs2
              refine e_blk_ret ?_
              refine e_then_ret ?_
              dsimp only at hp
              refine e_then_ret ?_
              obtain rfl := Option.some.inj hp
              exact post_all (vs := [.int .i64 11]) (.int .i64 11) ⟨rfl, trivial⟩ rfl (.inl rfl) (fun w hS => ⟨rfl, (hS.lower hD1)⟩)
            · skip
              replace hx1 := if_f ht6 hx1
              refine c_skip ?_
              refine e_then ?_
              refine c_seq ?_
              refine c_seq ?_
              refine c_quiet ?_
              refine ql_s (.pointer (some ⟨b3, 0, none⟩)) (by kernel_rfl) ?_
              refine ql_q rfl (qs_ldpt encV fitv36 rfl 0 rfl (.slice a1 x2.Points.length cp1) (Nat.le_of_ble_eq_true rfl) rfl) ?_
              refine ql_s (.int .i64 (x2.Points.length : Int)) (by kernel_rfl) ?_
              refine ql_s (.int .i64 0) (by kernel_rfl) ?_
              refine ql_nil ?_
              refine e_then ?_
              have hb0 : (x2.Points.length : Int) ≤ 4611686018427387904 := by have := RO.bound h2; omega
              have hm0 : x2.Points.length = (x2.Points.length : Int).toNat := by omega
              have hm2 := hm0; have hb2 := hb0; clear hm0 hb0
              obtain ⟨x3, hs3, hx1⟩ := bnd_some hx1
              obtain ⟨body2, hbody2, hs3⟩ := forI_gen hs3
              refine c_cut_end (fun φ1 D3 As1 => ∃ (s3 : Unit), x3 = .go s3 ∧ Is φ1 [(0, .slice l0_v1a l0.length l0_v1c), (4, .pointer (some ⟨b3, 0, none⟩)), (12, .slice l0_v1a l0.length l0_v1c), (13, .int .i64 (l0.length : Int)), (14, .int .i64 (i1 : Int))] ∧ PH.le D2 D3 ∧ As1 = pt b3 [.slice a1 x2.Points.length cp1, .int .i64 x2.Amount, .int .i64 x2.Order, .int .i64 x2.Into] 38 :: F) ?_ ?_
              · skip
                refine c_block ?_
                refine c_loop (fun k φ1 D4 As1 => ∃ (j2 i2 : Nat) (s4 : Unit), k = j2 + 1 ∧ i2 + j2 = x2.Points.length ∧ Is φ1 [(0, .slice l0_v1a l0.length l0_v1c), (4, .pointer (some ⟨b3, 0, none⟩)), (12, .slice l0_v1a l0.length l0_v1c), (13, .int .i64 (l0.length : Int)), (14, .int .i64 (i1 : Int)), (51, .slice a1 x2.Points.length cp1), (52, .int .i64 (x2.Points.length : Int)), (53, .int .i64 (i2 : Int))] ∧ PH.le D2 D4 ∧ As1 = pt b3 [.slice a1 x2.Points.length cp1, .int .i64 x2.Amount, .int .i64 x2.Order, .int .i64 x2.Into] 38 :: F ∧ forI body2 j2 i2 s4 = some x3) ⟨x2.Points.length + 1, x2.Points.length, 0, (), rfl, Nat.zero_add _, ⟨rfl, rfl, rfl, rfl, rfl, rfl, rfl, rfl, trivial⟩, (PH.le_refl _), rfl, hs3⟩ ?_ ?_
                · rintro _ _ _ ⟨_, _, _, h0, _⟩; omega
                intro k2
                rintro φ2 D4 As2 ⟨j2, i2, s4, hk2, hij2, hI2, hD2, hA2, hs4⟩
                subst As2
                replace l0_h1 := l0_h1.mono hD2
                replace h2 := h2.mono hD2
                refine c_frame _ hI2 ?_
                obtain rfl : k2 = j2 := by omega
                clear hk2
                rcases k2 with _ | j2
                · skip
                  refine c_seq ?_
                  refine c_quiet ?_
                  refine ql_s (.bool (decide ((i2 : Int) < (x2.Points.length : Int)))) (by kernel_rfl) ?_
                  refine ql_nil ?_
                  refine e_then ?_
                  refine c_seq ?_
                  refine c_cond (decide ((i2 : Int) < (x2.Points.length : Int))) rfl (fun ht7 => absurd ((dec_lt_f hm2 (by omega)).symm.trans ht7) (by simp)) (fun _ => ?_)
                  refine c_exit ?_
                  refine e_then_exit ?_
                  refine e_then_exit ?_
                  obtain rfl := Option.some.inj hs4
                  refine e_blk_exit ?_
                  exact e_cut ⟨(), rfl, ⟨rfl, rfl, rfl, rfl, rfl, trivial⟩, hD2, rfl⟩
                · skip
                  obtain ⟨y2, hx3, hs4⟩ := forI_some hs4
                  replace hx3 := (congrFun (congrFun hbody2 i2) s4).trans hx3
                  refine c_seq ?_
                  refine c_quiet ?_
                  refine ql_s (.bool (decide ((i2 : Int) < (x2.Points.length : Int)))) (by kernel_rfl) ?_
                  refine ql_nil ?_
                  refine e_then ?_
                  refine c_seq ?_
                  refine c_cond (decide ((i2 : Int) < (x2.Points.length : Int))) rfl (fun _ => ?_) (fun ht8 => absurd ((dec_lt_t hm2 (by omega)).symm.trans ht8) (by simp))
                  refine c_skip ?_
                  refine e_then ?_
                  refine c_seq ?_
                  refine c_block ?_
                  refine c_seq ?_
                  obtain ⟨x4, hx4, hx3⟩ := bnd_some hx3
                  obtain ⟨b4, o2, h3, hq2⟩ := RO.at h2 hx4
                  obtain ⟨cs2, hc2, ha2⟩ := h3.cells
                  obtain rfl := hc2
                  refine c_region ?_
                  refine l_q rfl (qs_idx hq2 Tryd.underlying36 fit50 rfl rfl) ?_
                  refine l_q rfl (qs_ldC fit50 rfl ha2 rfl (.agg #[.int .i64 x4.X, .int .i64 x4.Y]) rfl) ?_
                  refine l_alloc (zs := [.int .i64 0, .int .i64 0]) rfl (by kernel_rfl) (fun b6 => ?_)
                  refine l_store (dd := none) (vs := [.int .i64 x4.X, .int .i64 x4.Y]) (cs' := [.int .i64 x4.X, .int .i64 x4.Y]) rfl (by kernel_rfl) (by kernel_rfl) rfl rfl (Nat.le_of_ble_eq_true rfl) rfl rfl ?_
                  refine l_nil ?_
                  refine e_then ?_
                  refine c_seq ?_
                  refine c_cutq_end [(0, .slice l0_v1a l0.length l0_v1c), (4, .pointer (some ⟨b3, 0, none⟩)), (12, .slice l0_v1a l0.length l0_v1c), (13, .int .i64 (l0.length : Int)), (14, .int .i64 (i1 : Int)), (51, .slice a1 x2.Points.length cp1), (52, .int .i64 (x2.Points.length : Int)), (53, .int .i64 (i2 : Int)), (74, .bool ((decide (x4.X < (-4194304))) || ((decide (x4.X > 4194304)) || ((decide (x4.Y < (-4194304))) || (decide (x4.Y > 4194304))))))] ?_ ?_
                  · skip
                    refine c_quiet ?_
                    refine ql_s (.pointer (some ⟨b6, 0, none⟩)) (by kernel_rfl) ?_
                    refine ql_q rfl (qs_ldpt encV fitv3 rfl 0 rfl (.int .i64 x4.X) (Nat.le_of_ble_eq_true rfl) rfl) ?_
                    refine ql_s (.bool (decide (x4.X < (-4194304)))) (by kernel_rfl) ?_
                    refine ql_s (.bool (decide (x4.X < (-4194304)))) (by kernel_rfl) ?_
                    refine ql_case 60 (decide (x4.X < (-4194304))) rfl (fun hg5 => ?_) (fun hg5 => ?_)
                    · skip
                      refine ql_s undef (by kernel_rfl) ?_
                      refine ql_s undef (by kernel_rfl) ?_
                      refine ql_s undef (by kernel_rfl) ?_
                      refine ql_s (.bool true) (by kernel_rfl) ?_
                      refine ql_s (.bool true) (by kernel_rfl) ?_
                      refine ql_s undef (by kernel_rfl) ?_
                      refine ql_s undef (by kernel_rfl) ?_
                      refine ql_s undef (by kernel_rfl) ?_
                      refine ql_s (.bool true) (by kernel_rfl) ?_
                      refine ql_s (.bool true) (by kernel_rfl) ?_
                      refine ql_s undef (by kernel_rfl) ?_
                      refine ql_s undef (by kernel_rfl) ?_
                      refine ql_s undef (by kernel_rfl) ?_
                      refine ql_s (.bool true) (by kernel_rfl) ?_
                      refine ql_nil (e_cutq ?_)
                      exact ⟨rfl, rfl, rfl, rfl, rfl, rfl, rfl, rfl, (congrArg Value.bool (by first | rfl | (rw [hg5]; rfl) | simp [hg5])), trivial⟩
                    · skip
                      refine ql_s (.pointer (some ⟨b6, 0, none⟩)) (by kernel_rfl) ?_
                      refine ql_q rfl (qs_ldpt encV fitv3 rfl 0 rfl (.int .i64 x4.X) (Nat.le_of_ble_eq_true rfl) rfl) ?_
                      refine ql_s (.bool (decide (x4.X > 4194304))) (by kernel_rfl) ?_
                      refine ql_s (.bool (decide (x4.X > 4194304))) (by kernel_rfl) ?_
                      refine ql_s (.bool (decide (x4.X > 4194304))) (by kernel_rfl) ?_
                      refine ql_case 65 (decide (x4.X > 4194304)) rfl (fun hg6 => ?_) (fun hg6 => ?_)
                      · skip
                        refine ql_s undef (by kernel_rfl) ?_
                        refine ql_s undef (by kernel_rfl) ?_
                        refine ql_s undef (by kernel_rfl) ?_
                        refine ql_s (.bool true) (by kernel_rfl) ?_
                        refine ql_s (.bool true) (by kernel_rfl) ?_
                        refine ql_s undef (by kernel_rfl) ?_
                        refine ql_s undef (by kernel_rfl) ?_
                        refine ql_s undef (by kernel_rfl) ?_
                        refine ql_s (.bool true) (by kernel_rfl) ?_
                        refine ql_nil (e_cutq ?_)
                        exact ⟨rfl, rfl, rfl, rfl, rfl, rfl, rfl, rfl, (congrArg Value.bool (by first | rfl | (rw [hg5, hg6]; rfl) | simp [hg5, hg6])), trivial⟩
                      · skip
                        refine ql_s (.pointer (some ⟨b6, 1, none⟩)) (by kernel_rfl) ?_
                        refine ql_q rfl (qs_ldpt encV fitv3 rfl 0 rfl (.int .i64 x4.Y) (Nat.le_of_ble_eq_true rfl) rfl) ?_
                        refine ql_s (.bool (decide (x4.Y < (-4194304)))) (by kernel_rfl) ?_
                        refine ql_s (.bool (decide (x4.Y < (-4194304)))) (by kernel_rfl) ?_
                        refine ql_s (.bool (decide (x4.Y < (-4194304)))) (by kernel_rfl) ?_
                        refine ql_case 70 (decide (x4.Y < (-4194304))) rfl (fun hg7 => ?_) (fun hg7 => ?_)
                        · skip
                          refine ql_s undef (by kernel_rfl) ?_
                          refine ql_s undef (by kernel_rfl) ?_
                          refine ql_s undef (by kernel_rfl) ?_
                          refine ql_s (.bool true) (by kernel_rfl) ?_
                          refine ql_nil (e_cutq ?_)
                          exact ⟨rfl, rfl, rfl, rfl, rfl, rfl, rfl, rfl, (congrArg Value.bool (by first | rfl | (rw [hg5, hg6, hg7]; rfl) | simp [hg5, hg6, hg7])), trivial⟩
                        · skip
                          refine ql_s (.pointer (some ⟨b6, 1, none⟩)) (by kernel_rfl) ?_
                          refine ql_q rfl (qs_ldpt encV fitv3 rfl 0 rfl (.int .i64 x4.Y) (Nat.le_of_ble_eq_true rfl) rfl) ?_
                          refine ql_s (.bool (decide (x4.Y > 4194304))) (by kernel_rfl) ?_
                          refine ql_s (.bool (decide (x4.Y > 4194304))) (by kernel_rfl) ?_
                          refine ql_nil (e_cutq ?_)
                          exact ⟨rfl, rfl, rfl, rfl, rfl, rfl, rfl, rfl, (congrArg Value.bool (by first | rfl | (rw [hg5, hg6, hg7]; rfl) | simp [hg5, hg6, hg7])), trivial⟩
                  intro _
                  refine e_then ?_
                  refine c_cond (((decide (x4.X < (-4194304))) || ((decide (x4.X > 4194304)) || ((decide (x4.Y < (-4194304))) || (decide (x4.Y > 4194304)))))) rfl (fun ht9 => ?_) (fun ht9 => ?_)
                  · skip
                    replace hx3 := if_t ht9 hx3
                    refine c_seq ?_
                    refine c_quiet ?_
                    refine ql_s (.int .i64 5) (by kernel_rfl) ?_
                    refine ql_nil ?_
                    refine e_drop ?_
                    refine e_drop ?_
                    refine e_then ?_
                    refine c_ret ?_
                    refine e_blk_ret ?_
                    refine e_then_ret ?_
                    refine e_then_ret ?_
                    obtain rfl := Option.some.inj hx3
                    obtain rfl := hs4
                    refine e_blk_ret ?_
                    refine e_then_ret ?_
                    dsimp only at hx1
                    refine e_then_ret ?_
                    refine e_blk_ret ?_
                    refine e_then_ret ?_
                    refine e_then_ret ?_
                    obtain rfl := Option.some.inj hx1
                    obtain rfl := hs2
                    refine e_blk_ret ?_
                    refine e_then_ret ?_
                    dsimp only at hp
                    refine e_then_ret ?_
                    obtain rfl := Option.some.inj hp
                    exact post_all (vs := [.int .i64 5]) (.int .i64 5) ⟨rfl, trivial⟩ rfl (.inl rfl) (fun w hS => ⟨rfl, (hS.lower (PH.le_trans hD1 hD2))⟩)
                  · skip
                    replace hx3 := if_f ht9 hx3
                    refine c_skip ?_
                    refine e_blk ?_
                    refine e_then ?_
                    refine c_quiet ?_
                    refine ql_s (.int .i64 (addI (i2 : Int) 1)) (by kernel_rfl) ?_
                    refine ql_s (.int .i64 (addI (i2 : Int) 1)) (by kernel_rfl) ?_
                    refine ql_nil ?_
                    refine e_drop ?_
                    obtain rfl := Option.some.inj hx3
                    exact e_cut ⟨j2, i2 + 1, (), by omega, by omega, ⟨rfl, rfl, rfl, rfl, rfl, rfl, rfl, (congrArg (Value.int .i64) (addI_succ (by omega))), trivial⟩, hD2, rfl, hs4⟩
              · skip
                rintro φ3 D3 As3 ⟨s3, rfl, hI3, hD3, hA3⟩
                subst As3
                replace l0_h1 := l0_h1.mono hD3
                replace h2 := h2.mono hD3
                dsimp only at hx1
                refine e_frame _ hI3 ?_
                refine e_then ?_
                refine c_seq ?_
                refine c_quiet ?_
                refine ql_s (.pointer (some ⟨b3, 0, none⟩)) (by kernel_rfl) ?_
                refine ql_q rfl (qs_ldpt encV fitv36 rfl 0 rfl (.slice a1 x2.Points.length cp1) (Nat.le_of_ble_eq_true rfl) rfl) ?_
                refine ql_s (.int .i64 (x2.Points.length : Int)) (by kernel_rfl) ?_
                refine ql_s (.int .i64 0) (by kernel_rfl) ?_
                refine ql_nil ?_
                refine e_then ?_
                have hb0 : (x2.Points.length : Int) ≤ 4611686018427387904 := by have := RO.bound h2; omega
                have hm0 : x2.Points.length = (x2.Points.length : Int).toNat := by omega
                have hm3 := hm0; have hb3 := hb0; clear hm0 hb0
                obtain ⟨x5, hs5, hx1⟩ := bnd_some hx1
                obtain ⟨body3, hbody3, hs5⟩ := forI_gen hs5
                refine c_cut_end (fun φ1 D5 As1 => ∃ (s5 : Unit), x5 = .go s5 ∧ Is φ1 [(0, .slice l0_v1a l0.length l0_v1c), (12, .slice l0_v1a l0.length l0_v1c), (13, .int .i64 (l0.length : Int)), (14, .int .i64 (i1 : Int))] ∧ PH.le D3 D5 ∧ As1 = pt b3 [.slice a1 x2.Points.length cp1, .int .i64 x2.Amount, .int .i64 x2.Order, .int .i64 x2.Into] 38 :: F) ?_ ?_
                · skip
                  refine c_block ?_
                  refine c_loop (fun k φ1 D6 As1 => ∃ (j3 i3 : Nat) (s6 : Unit), k = j3 + 1 ∧ i3 + j3 = x2.Points.length ∧ Is φ1 [(0, .slice l0_v1a l0.length l0_v1c), (4, .pointer (some ⟨b3, 0, none⟩)), (12, .slice l0_v1a l0.length l0_v1c), (13, .int .i64 (l0.length : Int)), (14, .int .i64 (i1 : Int)), (77, .slice a1 x2.Points.length cp1), (78, .int .i64 (x2.Points.length : Int)), (79, .int .i64 (i3 : Int))] ∧ PH.le D3 D6 ∧ As1 = pt b3 [.slice a1 x2.Points.length cp1, .int .i64 x2.Amount, .int .i64 x2.Order, .int .i64 x2.Into] 38 :: F ∧ forI body3 j3 i3 s6 = some x5) ⟨x2.Points.length + 1, x2.Points.length, 0, (), rfl, Nat.zero_add _, ⟨rfl, rfl, rfl, rfl, rfl, rfl, rfl, rfl, trivial⟩, (PH.le_refl _), rfl, hs5⟩ ?_ ?_
                  · rintro _ _ _ ⟨_, _, _, h0, _⟩; omega
                  intro k3
                  rintro φ4 D6 As4 ⟨j3, i3, s6, hk3, hij3, hI4, hD4, hA4, hs6⟩
                  subst As4
                  replace l0_h1 := l0_h1.mono hD4
                  replace h2 := h2.mono hD4
                  refine c_frame _ hI4 ?_
                  obtain rfl : k3 = j3 := by omega
                  clear hk3
                  rcases k3 with _ | j3
                  · skip
                    refine c_seq ?_
                    refine c_quiet ?_
                    refine ql_s (.bool (decide ((i3 : Int) < (x2.Points.length : Int)))) (by kernel_rfl) ?_
                    refine ql_nil ?_
                    refine e_then ?_
                    refine c_seq ?_
                    refine c_cond (decide ((i3 : Int) < (x2.Points.length : Int))) rfl (fun ht10 => absurd ((dec_lt_f hm3 (by omega)).symm.trans ht10) (by simp)) (fun _ => ?_)
                    refine c_exit ?_
                    refine e_then_exit ?_
                    refine e_then_exit ?_
                    obtain rfl := Option.some.inj hs6
                    refine e_blk_exit ?_
                    exact e_cut ⟨(), rfl, ⟨rfl, rfl, rfl, rfl, trivial⟩, hD4, rfl⟩
                  · skip
                    obtain ⟨y3, hx5, hs6⟩ := forI_some hs6
                    replace hx5 := (congrFun (congrFun hbody3 i3) s6).trans hx5
                    refine c_seq ?_
                    refine c_quiet ?_
                    refine ql_s (.bool (decide ((i3 : Int) < (x2.Points.length : Int)))) (by kernel_rfl) ?_
                    refine ql_nil ?_
                    refine e_then ?_
                    refine c_seq ?_
                    refine c_cond (decide ((i3 : Int) < (x2.Points.length : Int))) rfl (fun _ => ?_) (fun ht11 => absurd ((dec_lt_t hm3 (by omega)).symm.trans ht11) (by simp))
                    refine c_skip ?_
                    refine e_then ?_
                    refine c_seq ?_
                    refine c_block ?_
                    refine c_seq ?_
                    obtain ⟨x6, hx6, hx5⟩ := bnd_some hx5
                    obtain ⟨b7, o3, h4, hq3⟩ := RO.at h2 hx6
                    obtain ⟨cs3, hc3, ha3⟩ := h4.cells
                    obtain rfl := hc3
                    refine c_region ?_
                    refine l_s (.int .i64 (i3 : Int)) (by kernel_rfl) ?_
                    refine l_q rfl (qs_idx hq3 Tryd.underlying36 fit50 rfl rfl) ?_
                    refine l_q rfl (qs_ldC fit50 rfl ha3 rfl (.agg #[.int .i64 x6.X, .int .i64 x6.Y]) rfl) ?_
                    refine l_alloc (zs := [.int .i64 0, .int .i64 0]) rfl (by kernel_rfl) (fun b9 => ?_)
                    refine l_s (.int .i64 (i3 : Int)) (by kernel_rfl) ?_
                    refine l_store (dd := none) (vs := [.int .i64 x6.X, .int .i64 x6.Y]) (cs' := [.int .i64 x6.X, .int .i64 x6.Y]) rfl (by kernel_rfl) (by kernel_rfl) rfl rfl (Nat.le_of_ble_eq_true rfl) rfl rfl ?_
                    refine l_nil ?_
                    refine e_then ?_
                    refine c_seq ?_
                    obtain ⟨c1, hc4, hx5⟩ := bnd_some hx5
                    refine c_cutq_end [(0, .slice l0_v1a l0.length l0_v1c), (4, .pointer (some ⟨b3, 0, none⟩)), (12, .slice l0_v1a l0.length l0_v1c), (13, .int .i64 (l0.length : Int)), (14, .int .i64 (i1 : Int)), (77, .slice a1 x2.Points.length cp1), (78, .int .i64 (x2.Points.length : Int)), (79, .int .i64 (i3 : Int)), (96, .bool c1)] ?_ ?_
                    · skip
                      refine c_quiet_draw hmix (by kernel_rfl) ?_
                      refine ql_s (.int .i64 (i3 : Int)) (by kernel_rfl) ?_
                      refine ql_s (.bool (decide ((i3 : Int) > 0))) (by kernel_rfl) ?_
                      refine ql_s (.bool (decide ((i3 : Int) > 0))) (by kernel_rfl) ?_
                      refine ql_case 86 (decide ((i3 : Int) > 0)) rfl (fun hg8 => ?_) (fun hg8 => ?_)
                      · skip
                        replace hc4 := if_t hg8 hc4
                        refine ql_s (.pointer (some ⟨b3, 0, none⟩)) (by kernel_rfl) ?_
                        refine ql_q rfl (qs_ldpt encV fitv36 rfl 1 rfl (.slice a1 x2.Points.length cp1) (Nat.le_of_ble_eq_true rfl) rfl) ?_
                        refine ql_s (.int .i64 (i3 : Int)) (by kernel_rfl) ?_
                        refine ql_s (.int .i64 (subI (i3 : Int) 1)) (by kernel_rfl) ?_
                        obtain ⟨x7, hx7, hc4⟩ := bnd_some hc4
                        obtain ⟨b10, o4, h5, hq4⟩ := RO.at h2 hx7
                        refine ql_q rfl (qs_idx hq4 Tryd.underlying36 fit50 rfl rfl) ?_
                        obtain ⟨cs4, hc5, ha4⟩ := h5.cells
                        obtain rfl := hc5
                        refine ql_q rfl (qs_ldC fit50 rfl ha4 rfl (.agg #[.int .i64 x7.X, .int .i64 x7.Y]) rfl) ?_
                        refine ql_q rfl (qs_ldpt (encW 2 (by decide)) fitv50 rfl 0 rfl (.agg #[.int .i64 x6.X, .int .i64 x6.Y]) (Nat.le_of_ble_eq_true rfl) rfl) ?_
                        obtain ⟨r1, hr1, hc4⟩ := bnd_some hc4
                        refine ql_call (v := .int .i64 r1) rfl (run_call (vs := [.agg #[.int .i64 x7.X, .int .i64 x7.Y], .agg #[.int .i64 x6.X, .int .i64 x6.Y]]) rfl Tryd.call15 rfl) (fun w hS => (tarnref2_Direction_s x7 x6 _  _ _ hr1 w (hS)).mono fun e w' h => ⟨h.1, h.2⟩) ?_
                        refine ql_s (.bool (decide (r1 < 0))) (by kernel_rfl) ?_
                        refine ql_s (.bool (decide (r1 < 0))) (by kernel_rfl) ?_
                        refine ql_nil (e_cutq ?_)
                        obtain rfl := Option.some.inj hc4
                        exact ⟨rfl, rfl, rfl, rfl, rfl, rfl, rfl, rfl, rfl, trivial⟩
                      · skip
                        replace hc4 := if_f hg8 hc4
                        refine ql_s undef (by kernel_rfl) ?_
                        refine ql_s undef (by kernel_rfl) ?_
                        refine ql_s undef (by kernel_rfl) ?_
                        refine ql_s undef (by kernel_rfl) ?_
                        refine ql_s undef (by kernel_rfl) ?_
                        refine ql_s undef (by kernel_rfl) ?_
                        refine ql_s undef (by kernel_rfl) ?_
                        refine ql_s undef (by kernel_rfl) ?_
                        refine ql_s undef (by kernel_rfl) ?_
                        refine ql_s (.bool false) (by kernel_rfl) ?_
                        refine ql_nil (e_cutq ?_)
                        obtain rfl := Option.some.inj hc4
                        exact ⟨rfl, rfl, rfl, rfl, rfl, rfl, rfl, rfl, rfl, trivial⟩
                    intro _
                    refine e_then ?_
                    refine c_cond (c1) rfl (fun ht12 => ?_) (fun ht12 => ?_)
                    · skip
                      replace hx5 := if_t ht12 hx5
                      refine c_seq ?_
                      refine c_quiet ?_
                      refine ql_s (.int .i64 2) (by kernel_rfl) ?_
                      refine ql_nil ?_
                      refine e_drop ?_
                      refine e_drop ?_
                      refine e_then ?_
                      refine c_ret ?_
                      refine e_blk_ret ?_
                      refine e_then_ret ?_
                      refine e_then_ret ?_
                      obtain rfl := Option.some.inj hx5
                      obtain rfl := hs6
                      refine e_blk_ret ?_
                      refine e_then_ret ?_
                      dsimp only at hx1
                      refine e_blk_ret ?_
                      refine e_then_ret ?_
                      refine e_then_ret ?_
                      obtain rfl := Option.some.inj hx1
                      obtain rfl := hs2
                      refine e_blk_ret ?_
                      refine e_then_ret ?_
                      dsimp only at hp
                      refine e_then_ret ?_
                      obtain rfl := Option.some.inj hp
                      exact post_all (vs := [.int .i64 2]) (.int .i64 2) ⟨rfl, trivial⟩ rfl (.inl rfl) (fun w hS => ⟨rfl, (hS.lower (PH.le_trans (PH.le_trans hD1 hD3) hD4))⟩)
                    · skip
                      replace hx5 := if_f ht12 hx5
                      refine c_skip ?_
                      refine e_blk ?_
                      refine e_then ?_
                      refine c_quiet ?_
                      refine ql_s (.int .i64 (addI (i3 : Int) 1)) (by kernel_rfl) ?_
                      refine ql_s (.int .i64 (addI (i3 : Int) 1)) (by kernel_rfl) ?_
                      refine ql_nil ?_
                      refine e_drop ?_
                      obtain rfl := Option.some.inj hx5
                      exact e_cut ⟨j3, i3 + 1, (), by omega, by omega, ⟨rfl, rfl, rfl, rfl, rfl, rfl, rfl, (congrArg (Value.int .i64) (addI_succ (by omega))), trivial⟩, hD4, rfl, hs6⟩
                · skip
                  rintro φ5 D5 As5 ⟨s5, rfl, hI5, hD5, hA5⟩
                  subst As5
                  replace l0_h1 := l0_h1.mono hD5
                  replace h2 := h2.mono hD5
                  dsimp only at hx1
                  refine e_frame _ hI5 ?_
                  refine e_blk ?_
                  refine e_then ?_
                  refine c_quiet ?_
                  refine ql_s (.int .i64 (addI (i1 : Int) 1)) (by kernel_rfl) ?_
                  refine ql_s (.int .i64 (addI (i1 : Int) 1)) (by kernel_rfl) ?_
                  refine ql_nil ?_
                  refine e_drop ?_
                  obtain rfl := Option.some.inj hx1
                  exact e_cut ⟨j1, i1 + 1, (), by omega, by omega, ⟨rfl, rfl, rfl, (congrArg (Value.int .i64) (addI_succ (by omega))), trivial⟩, (PH.le_trans (PH.le_trans hD1 hD3) hD5), rfl, hs2⟩
    · skip
      rintro φ6 D1 As6 ⟨s1, rfl, hI6, hD6, hA6⟩
      subst As6
      dsimp only at hp
      refine e_frame _ hI6 ?_
      refine e_then ?_
      refine c_seq ?_
      refine c_quiet ?_
      refine ql_s (.int .i64 0) (by kernel_rfl) ?_
      refine ql_nil ?_
      refine e_then ?_
      refine c_ret ?_
      obtain rfl := Option.some.inj hp
      exact post_all (vs := [.int .i64 0]) (.int .i64 0) ⟨rfl, trivial⟩ rfl (.inl rfl) (fun w hS => ⟨rfl, (hS.lower hD6)⟩)

-- strconv.Itoa
set_option maxRecDepth 100000 in
set_option maxHeartbeats 3000000 in
theorem strconv_Itoa_s (i0 : Int) (D : PH)  (F : List Assert) (r : ByteArray) (hp : itoaP i0 = some r) : ∀ w : World, SInv D (F) w → Calls Tryd.prog 16 #[.int .i64 i0] w (fun e w' => e = .returned (.string r) ∧ SInv D (F) w') := by
  exact given_itoa (P := Tryd.prog) (fun h => GV.pow10 h) (fun n h0 h1 w ht => Tryd.strconv_Itoa n h0 h1 w ht) hp

-- tarnfell/tarnlaw2.riverText
set_option maxRecDepth 100000 in
set_option maxHeartbeats 3000000 in
theorem tarnlaw2_riverText_s (l0 : List S_api_River) (l0_v1a : Option Addr) (l0_v1c : Nat) (D : PH) (l0_h1 : RO encS_api_River D (.slice l0_v1a l0.length l0_v1c) l0) (F : List Assert) (r : ByteArray) (hp : tarnlaw2_riverText_p l0 = some r) : ∀ w : World, SInv D (F) w → Calls Tryd.prog 7 #[.slice l0_v1a l0.length l0_v1c] w (fun e w' => e = .returned (.string r) ∧ SInv D (F) w') := by
  intro w hS
  refine call_intro Tryd.func7 rfl Tryd.ntmps7 (Nat.le_of_ble_eq_true rfl) hS ?_
  clear hS w
  unfold tarnlaw2_riverText_p at hp
  refine c_seq ?_
  refine c_quiet ?_
  refine ql_s (.string (⟨#[]⟩ : ByteArray)) (by kernel_rfl) ?_
  refine ql_nil ?_
  refine e_then ?_
  refine c_seq ?_
  refine c_quiet ?_
  refine ql_s (.string (⟨#[]⟩ : ByteArray)) (by kernel_rfl) ?_
  refine ql_nil ?_
  refine e_then ?_
  refine c_seq ?_
  refine c_seq ?_
  refine c_quiet ?_
  refine ql_s (.slice l0_v1a l0.length l0_v1c) (by kernel_rfl) ?_
  refine ql_s (.int .i64 (l0.length : Int)) (by kernel_rfl) ?_
  refine ql_s (.int .i64 0) (by kernel_rfl) ?_
  refine ql_nil ?_
  refine e_then ?_
  have hb0 : (l0.length : Int) ≤ 4611686018427387904 := by have := RO.bound l0_h1; omega
  have hm0 : l0.length = (l0.length : Int).toNat := by omega
  have hm1 := hm0; have hb1 := hb0; clear hm0 hb0
  obtain ⟨x1, hs1, hp⟩ := bnd_some hp
  obtain ⟨body1, hbody1, hs1⟩ := forS_gen hs1
  refine c_cut_end (fun φ1 D1 As1 => Is φ1 [(3, .string x1)] ∧ PH.le D D1 ∧ As1 = F) ?_ ?_
  · skip
    refine c_block ?_
    refine c_loop (fun k φ1 D2 As1 => ∃ (j1 i1 : Nat) (s1 : ByteArray), k = j1 + 1 ∧ i1 + j1 = l0.length ∧ Is φ1 [(3, .string s1), (8, .slice l0_v1a l0.length l0_v1c), (9, .int .i64 (l0.length : Int)), (10, .int .i64 (i1 : Int))] ∧ PH.le D D2 ∧ As1 = F ∧ forS body1 j1 i1 s1 = some x1) ⟨l0.length + 1, l0.length, 0, (⟨#[]⟩ : ByteArray), rfl, Nat.zero_add _, ⟨rfl, rfl, rfl, rfl, trivial⟩, (PH.le_refl _), rfl, hs1⟩ ?_ ?_
    · rintro _ _ _ ⟨_, _, _, h0, _⟩; omega
    intro k1
    rintro φ1 D2 As1 ⟨j1, i1, s1, hk1, hij1, hI1, hD1, hA1, hs2⟩
    subst As1
    replace l0_h1 := l0_h1.mono hD1
    refine c_frame _ hI1 ?_
    obtain rfl : k1 = j1 := by omega
    clear hk1
    rcases k1 with _ | j1
    · skip
      refine c_seq ?_
      refine c_quiet ?_
      refine ql_s (.bool (decide ((i1 : Int) < (l0.length : Int)))) (by kernel_rfl) ?_
      refine ql_nil ?_
      refine e_then ?_
      refine c_seq ?_
      refine c_cond (decide ((i1 : Int) < (l0.length : Int))) rfl (fun ht1 => absurd ((dec_lt_f hm1 (by omega)).symm.trans ht1) (by simp)) (fun _ => ?_)
      refine c_exit ?_
      refine e_then_exit ?_
      refine e_then_exit ?_
      obtain rfl := Option.some.inj hs2
      refine e_blk_exit ?_
      exact e_cut ⟨⟨rfl, trivial⟩, hD1, rfl⟩
    · skip
      obtain ⟨y1, hx1, hs2⟩ := forS_some hs2
      replace hx1 := (congrFun (congrFun hbody1 i1) s1).trans hx1
      refine c_seq ?_
      refine c_quiet ?_
      refine ql_s (.bool (decide ((i1 : Int) < (l0.length : Int)))) (by kernel_rfl) ?_
      refine ql_nil ?_
      refine e_then ?_
      refine c_seq ?_
      refine c_cond (decide ((i1 : Int) < (l0.length : Int))) rfl (fun _ => ?_) (fun ht2 => absurd ((dec_lt_t hm1 (by omega)).symm.trans ht2) (by simp))
      refine c_skip ?_
      refine e_then ?_
      refine c_seq ?_
      refine c_block ?_
      refine c_seq ?_
      obtain ⟨x2, hx2, hx1⟩ := bnd_some hx1
      obtain ⟨b1, o1, h1, hq1⟩ := RO.at l0_h1 hx2
      obtain ⟨cs1, hc1, ha1⟩ := h1.cells
      obtain ⟨v1, rfl, h2⟩ := hc1
      obtain ⟨a1, cp1, rfl⟩ := RO.len h2
      refine c_region ?_
      refine l_q rfl (qs_idx hq1 Tryd.underlying22 fit38 rfl rfl) ?_
      refine l_q rfl (qs_ldC fit38 rfl ha1 rfl (.agg #[.slice a1 x2.Points.length cp1, .int .i64 x2.Amount, .int .i64 x2.Order, .int .i64 x2.Into]) rfl) ?_
      refine l_alloc (zs := [.slice none 0 0, .int .i64 0, .int .i64 0, .int .i64 0]) rfl (by kernel_rfl) (fun b3 => ?_)
      refine l_store (dd := none) (vs := [.slice a1 x2.Points.length cp1, .int .i64 x2.Amount, .int .i64 x2.Order, .int .i64 x2.Into]) (cs' := [.slice a1 x2.Points.length cp1, .int .i64 x2.Amount, .int .i64 x2.Order, .int .i64 x2.Into]) rfl (by kernel_rfl) (by kernel_rfl) rfl rfl (Nat.le_of_ble_eq_true rfl) rfl rfl ?_
      refine l_nil ?_
      refine e_then ?_
      refine c_seq ?_
      obtain ⟨x3, hx3, hx1⟩ := bnd_some hx1
      obtain ⟨b4, o2, h3, hq2⟩ := RO.at h2 hx3
      obtain ⟨cs2, hc2, ha2⟩ := h3.cells
      obtain rfl := hc2
      refine c_region ?_
      refine l_s (.pointer (some ⟨b3, 0, none⟩)) (by kernel_rfl) ?_
      refine l_q rfl (qs_ldpt encV fitv36 rfl 0 rfl (.slice a1 x2.Points.length cp1) (Nat.le_of_ble_eq_true rfl) rfl) ?_
      refine l_q rfl (qs_idx hq2 Tryd.underlying36 fit50 rfl rfl) ?_
      refine l_q rfl (qs_ldC fit50 rfl ha2 rfl (.agg #[.int .i64 x3.X, .int .i64 x3.Y]) rfl) ?_
      refine l_alloc (zs := [.int .i64 0, .int .i64 0]) rfl (by kernel_rfl) (fun b6 => ?_)
      refine l_store (dd := none) (vs := [.int .i64 x3.X, .int .i64 x3.Y]) (cs' := [.int .i64 x3.X, .int .i64 x3.Y]) rfl (by kernel_rfl) (by kernel_rfl) rfl rfl (Nat.le_of_ble_eq_true rfl) rfl rfl ?_
      refine l_nil ?_
      refine e_then ?_
      refine c_seq ?_
      obtain ⟨r1, hr1, hx1⟩ := bnd_some hx1
      obtain ⟨r2, hr2, hx1⟩ := bnd_some hx1
      obtain ⟨r3, hr3, hx1⟩ := bnd_some hx1
      obtain ⟨r4, hr4, hx1⟩ := bnd_some hx1
      obtain ⟨r5, hr5, hx1⟩ := bnd_some hx1
      obtain ⟨r6, hr6, hx1⟩ := bnd_some hx1
      obtain ⟨r7, hr7, hx1⟩ := bnd_some hx1
      obtain ⟨r8, hr8, hx1⟩ := bnd_some hx1
      obtain ⟨r9, hr9, hx1⟩ := bnd_some hx1
      obtain ⟨r10, hr10, hx1⟩ := bnd_some hx1
      obtain ⟨r11, hr11, hx1⟩ := bnd_some hx1
      obtain ⟨r12, hr12, hx1⟩ := bnd_some hx1
      obtain ⟨r13, hr13, hx1⟩ := bnd_some hx1
      obtain ⟨r14, hr14, hx1⟩ := bnd_some hx1
      obtain ⟨r15, hr15, hx1⟩ := bnd_some hx1
      obtain ⟨r16, hr16, hx1⟩ := bnd_some hx1
      refine c_quiet_draw hmix (by kernel_rfl) ?_
      refine ql_s (.string s1) (by kernel_rfl) ?_
      refine ql_s (.pointer (some ⟨b3, 1, none⟩)) (by kernel_rfl) ?_
      refine ql_q rfl (qs_ldpt encV fitv3 rfl 1 rfl (.int .i64 x2.Amount) (Nat.le_of_ble_eq_true rfl) rfl) ?_
      refine ql_call (v := .string r1) rfl (run_call (vs := [.int .i64 x2.Amount]) rfl Tryd.call16 rfl) (fun w hS => (strconv_Itoa_s x2.Amount _  _ _ hr1 w (hS)).mono fun e w' h => ⟨h.1, h.2⟩) ?_
      refine ql_q rfl (qs_strAdd rfl rfl hr2) ?_
      refine ql_q rfl (qs_strAdd rfl rfl hr3) ?_
      refine ql_s (.pointer (some ⟨b3, 2, none⟩)) (by kernel_rfl) ?_
      refine ql_q rfl (qs_ldpt encV fitv3 rfl 1 rfl (.int .i64 x2.Order) (Nat.le_of_ble_eq_true rfl) rfl) ?_
      refine ql_call (v := .string r4) rfl (run_call (vs := [.int .i64 x2.Order]) rfl Tryd.call16 rfl) (fun w hS => (strconv_Itoa_s x2.Order _  _ _ hr4 w (hS)).mono fun e w' h => ⟨h.1, h.2⟩) ?_
      refine ql_q rfl (qs_strAdd rfl rfl hr5) ?_
      refine ql_q rfl (qs_strAdd rfl rfl hr6) ?_
      refine ql_s (.pointer (some ⟨b3, 3, none⟩)) (by kernel_rfl) ?_
      refine ql_q rfl (qs_ldpt encV fitv3 rfl 1 rfl (.int .i64 x2.Into) (Nat.le_of_ble_eq_true rfl) rfl) ?_
      refine ql_call (v := .string r7) rfl (run_call (vs := [.int .i64 x2.Into]) rfl Tryd.call16 rfl) (fun w hS => (strconv_Itoa_s x2.Into _  _ _ hr7 w (hS)).mono fun e w' h => ⟨h.1, h.2⟩) ?_
      refine ql_q rfl (qs_strAdd rfl rfl hr8) ?_
      refine ql_q rfl (qs_strAdd rfl rfl hr9) ?_
      refine ql_s (.pointer (some ⟨b6, 0, none⟩)) (by kernel_rfl) ?_
      refine ql_q rfl (qs_ldpt encV fitv3 rfl 0 rfl (.int .i64 x3.X) (Nat.le_of_ble_eq_true rfl) rfl) ?_
      refine ql_call (v := .string r10) rfl (run_call (vs := [.int .i64 x3.X]) rfl Tryd.call16 rfl) (fun w hS => (strconv_Itoa_s x3.X _  _ _ hr10 w (hS)).mono fun e w' h => ⟨h.1, h.2⟩) ?_
      refine ql_q rfl (qs_strAdd rfl rfl hr11) ?_
      refine ql_q rfl (qs_strAdd rfl rfl hr12) ?_
      refine ql_s (.pointer (some ⟨b6, 1, none⟩)) (by kernel_rfl) ?_
      refine ql_q rfl (qs_ldpt encV fitv3 rfl 0 rfl (.int .i64 x3.Y) (Nat.le_of_ble_eq_true rfl) rfl) ?_
      refine ql_call (v := .string r13) rfl (run_call (vs := [.int .i64 x3.Y]) rfl Tryd.call16 rfl) (fun w hS => (strconv_Itoa_s x3.Y _  _ _ hr13 w (hS)).mono fun e w' h => ⟨h.1, h.2⟩) ?_
      refine ql_q rfl (qs_strAdd rfl rfl hr14) ?_
      refine ql_q rfl (qs_strAdd rfl rfl hr15) ?_
      refine ql_q rfl (qs_strAdd rfl rfl hr16) ?_
      refine ql_s (.string r16) (by kernel_rfl) ?_
      refine ql_nil ?_
      refine e_drop ?_
      refine e_then ?_
      refine c_seq ?_
      refine c_seq ?_
      obtain ⟨l1, hl1, hx1⟩ := bnd_some hx1
      obtain ⟨a2, cp2, hv1, h4⟩ := RO.slc h2 hl1
      refine c_quiet ?_
      refine ql_s (.pointer (some ⟨b3, 0, none⟩)) (by kernel_rfl) ?_
      refine ql_q rfl (qs_ldpt encV fitv36 rfl 0 rfl (.slice a1 x2.Points.length cp1) (Nat.le_of_ble_eq_true rfl) rfl) ?_
      refine ql_q rfl (qs_slice (e := encS_api_Point) Tryd.underlying36 fit50 rfl (RO.cap h2).1 (RO.cap h2).2 ⟨_, rfl⟩ rfl hl1 hv1) ?_
      refine ql_s (.int .i64 (l1.length : Int)) (by kernel_rfl) ?_
      refine ql_s (.int .i64 0) (by kernel_rfl) ?_
      refine ql_nil ?_
      refine e_then ?_
      have hb0 : (l1.length : Int) ≤ 4611686018427387904 := by have := (slc_bound hl1 (RO.bound h2)); omega
      have hm0 : l1.length = (l1.length : Int).toNat := by omega
      have hm2 := hm0; have hb2 := hb0; clear hm0 hb0
      obtain ⟨x4, hs3, hx1⟩ := bnd_some hx1
      obtain ⟨body2, hbody2, hs3⟩ := forS_gen hs3
      refine c_cut_end (fun φ1 D3 As1 => Is φ1 [(3, .string x4), (5, .pointer (some ⟨b3, 0, none⟩)), (8, .slice l0_v1a l0.length l0_v1c), (9, .int .i64 (l0.length : Int)), (10, .int .i64 (i1 : Int))] ∧ PH.le D2 D3 ∧ As1 = pt b3 [.slice a1 x2.Points.length cp1, .int .i64 x2.Amount, .int .i64 x2.Order, .int .i64 x2.Into] 38 :: F) ?_ ?_
      · skip
        refine c_block ?_
        refine c_loop (fun k φ1 D4 As1 => ∃ (j2 i2 : Nat) (s2 : ByteArray), k = j2 + 1 ∧ i2 + j2 = l1.length ∧ Is φ1 [(3, .string s2), (5, .pointer (some ⟨b3, 0, none⟩)), (8, .slice l0_v1a l0.length l0_v1c), (9, .int .i64 (l0.length : Int)), (10, .int .i64 (i1 : Int)), (48, .int .i64 (l1.length : Int)), (49, .int .i64 (i2 : Int))] ∧ PH.le D2 D4 ∧ As1 = pt b3 [.slice a1 x2.Points.length cp1, .int .i64 x2.Amount, .int .i64 x2.Order, .int .i64 x2.Into] 38 :: F ∧ forS body2 j2 i2 s2 = some x4) ⟨l1.length + 1, l1.length, 0, r16, rfl, Nat.zero_add _, ⟨rfl, rfl, rfl, rfl, rfl, rfl, rfl, trivial⟩, (PH.le_refl _), rfl, hs3⟩ ?_ ?_
        · rintro _ _ _ ⟨_, _, _, h0, _⟩; omega
        intro k2
        rintro φ2 D4 As2 ⟨j2, i2, s2, hk2, hij2, hI2, hD2, hA2, hs4⟩
        subst As2
        replace l0_h1 := l0_h1.mono hD2
        replace h2 := h2.mono hD2
        refine c_frame _ hI2 ?_
        obtain rfl : k2 = j2 := by omega
        clear hk2
        rcases k2 with _ | j2
        · skip
          refine c_seq ?_
          refine c_quiet ?_
          refine ql_s (.bool (decide ((i2 : Int) < (l1.length : Int)))) (by kernel_rfl) ?_
          refine ql_nil ?_
          refine e_then ?_
          refine c_seq ?_
          refine c_cond (decide ((i2 : Int) < (l1.length : Int))) rfl (fun ht3 => absurd ((dec_lt_f hm2 (by omega)).symm.trans ht3) (by simp)) (fun _ => ?_)
          refine c_exit ?_
          refine e_then_exit ?_
          refine e_then_exit ?_
          obtain rfl := Option.some.inj hs4
          refine e_blk_exit ?_
          exact e_cut ⟨⟨rfl, rfl, rfl, rfl, rfl, trivial⟩, hD2, rfl⟩
        · skip
          obtain ⟨y2, hx4, hs4⟩ := forS_some hs4
          replace hx4 := (congrFun (congrFun hbody2 i2) s2).trans hx4
          refine c_seq ?_
          refine c_quiet ?_
          refine ql_s (.bool (decide ((i2 : Int) < (l1.length : Int)))) (by kernel_rfl) ?_
          refine ql_nil ?_
          refine e_then ?_
          refine c_seq ?_
          refine c_cond (decide ((i2 : Int) < (l1.length : Int))) rfl (fun _ => ?_) (fun ht4 => absurd ((dec_lt_t hm2 (by omega)).symm.trans ht4) (by simp))
          refine c_skip ?_
          refine e_then ?_
          refine c_seq ?_
          refine c_block ?_
          refine c_seq ?_
          refine c_quiet ?_
          refine ql_s (.int .i64 (i2 : Int)) (by kernel_rfl) ?_
          refine ql_s (.int .i64 (i2 : Int)) (by kernel_rfl) ?_
          refine ql_nil ?_
          refine e_then ?_
          obtain ⟨x5, hx5, hx4⟩ := bnd_some hx4
          obtain ⟨b7, o3, h5, hq3⟩ := RO.at h2 hx5
          obtain ⟨cs3, hc3, ha3⟩ := h5.cells
          obtain rfl := hc3
          obtain ⟨x6, hx6, hx4⟩ := bnd_some hx4
          obtain ⟨b8, o4, h6, hq4⟩ := RO.at h2 hx6
          obtain ⟨cs4, hc4, ha4⟩ := h6.cells
          obtain rfl := hc4
          obtain ⟨r17, hr17, hx4⟩ := bnd_some hx4
          obtain ⟨r18, hr18, hx4⟩ := bnd_some hx4
          obtain ⟨r19, hr19, hx4⟩ := bnd_some hx4
          refine c_quiet_draw hmix (by kernel_rfl) ?_
          refine ql_s (.string s2) (by kernel_rfl) ?_
          refine ql_s (.pointer (some ⟨b3, 0, none⟩)) (by kernel_rfl) ?_
          refine ql_q rfl (qs_ldpt encV fitv36 rfl 0 rfl (.slice a1 x2.Points.length cp1) (Nat.le_of_ble_eq_true rfl) rfl) ?_
          refine ql_s (.int .i64 (i2 : Int)) (by kernel_rfl) ?_
          refine ql_q rfl (qs_idx hq3 Tryd.underlying36 fit50 rfl rfl) ?_
          refine ql_q rfl (qs_ldC fit50 rfl ha3 rfl (.agg #[.int .i64 x5.X, .int .i64 x5.Y]) rfl) ?_
          refine ql_s (.pointer (some ⟨b3, 0, none⟩)) (by kernel_rfl) ?_
          refine ql_q rfl (qs_ldpt encV fitv36 rfl 0 rfl (.slice a1 x2.Points.length cp1) (Nat.le_of_ble_eq_true rfl) rfl) ?_
          refine ql_s (.int .i64 (i2 : Int)) (by kernel_rfl) ?_
          refine ql_s (.int .i64 (addI (i2 : Int) 1)) (by kernel_rfl) ?_
          refine ql_q rfl (qs_idx hq4 Tryd.underlying36 fit50 rfl rfl) ?_
          refine ql_q rfl (qs_ldC fit50 rfl ha4 rfl (.agg #[.int .i64 x6.X, .int .i64 x6.Y]) rfl) ?_
          refine ql_call (v := .int .i64 r17) rfl (run_call (vs := [.agg #[.int .i64 x5.X, .int .i64 x5.Y], .agg #[.int .i64 x6.X, .int .i64 x6.Y]]) rfl Tryd.call15 rfl) (fun w hS => (tarnref2_Direction_s x5 x6 _  _ _ hr17 w (hS)).mono fun e w' h => ⟨h.1, h.2⟩) ?_
          refine ql_call (v := .string r18) rfl (run_call (vs := [.int .i64 r17]) rfl Tryd.call16 rfl) (fun w hS => (strconv_Itoa_s r17 _  _ _ hr18 w (hS)).mono fun e w' h => ⟨h.1, h.2⟩) ?_
          refine ql_q rfl (qs_strAdd rfl rfl hr19) ?_
          refine ql_s (.string r19) (by kernel_rfl) ?_
          refine ql_nil ?_
          refine e_blk ?_
          refine e_then ?_
          refine c_quiet ?_
          refine ql_s (.int .i64 (addI (i2 : Int) 1)) (by kernel_rfl) ?_
          refine ql_s (.int .i64 (addI (i2 : Int) 1)) (by kernel_rfl) ?_
          refine ql_nil ?_
          obtain rfl := Option.some.inj hx4
          exact e_cut ⟨j2, i2 + 1, r19, by omega, by omega, ⟨rfl, rfl, rfl, rfl, rfl, rfl, (congrArg (Value.int .i64) (addI_succ (by omega))), trivial⟩, hD2, rfl, hs4⟩
      · skip
        rintro φ3 D3 As3 ⟨hI3, hD3, hA3⟩
        subst As3
        replace l0_h1 := l0_h1.mono hD3
        replace h2 := h2.mono hD3
        refine e_frame _ hI3 ?_
        refine e_then ?_
        refine c_seq ?_
        refine c_seq ?_
        refine c_quiet ?_
        refine ql_s (.pointer (some ⟨b3, 0, none⟩)) (by kernel_rfl) ?_
        refine ql_q rfl (qs_ldpt encV fitv36 rfl 0 rfl (.slice a1 x2.Points.length cp1) (Nat.le_of_ble_eq_true rfl) rfl) ?_
        refine ql_s (.int .i64 (x2.Points.length : Int)) (by kernel_rfl) ?_
        refine ql_s (.bool ((x2.Points.length : Int) == 1)) (by kernel_rfl) ?_
        refine ql_nil ?_
        refine e_drop ?_
        refine e_then ?_
        obtain ⟨s3, hs5, hx1⟩ := bnd_some hx1
        refine c_cut_end (fun φ1 D5 As1 => Is φ1 [(3, .string s3), (8, .slice l0_v1a l0.length l0_v1c), (9, .int .i64 (l0.length : Int)), (10, .int .i64 (i1 : Int))] ∧ PH.le D3 D5 ∧ As1 = F) ?_ ?_
        · skip
          refine c_cond (((x2.Points.length : Int) == 1)) rfl (fun ht5 => ?_) (fun ht5 => ?_)
          · skip
            replace hs5 := if_t ht5 hs5
            obtain ⟨r20, hr20, hs5⟩ := bnd_some hs5
            refine c_quiet ?_
            refine ql_s (.string x4) (by kernel_rfl) ?_
            refine ql_q rfl (qs_strAdd rfl rfl hr20) ?_
            refine ql_s (.string r20) (by kernel_rfl) ?_
            refine ql_nil ?_
            obtain rfl := Option.some.inj hs5
            exact e_cut ⟨⟨rfl, rfl, rfl, rfl, trivial⟩, (PH.le_refl _), rfl⟩
          · skip
            replace hs5 := if_f ht5 hs5
            refine c_skip ?_
            obtain rfl := Option.some.inj hs5
            exact e_cut ⟨⟨rfl, rfl, rfl, rfl, trivial⟩, (PH.le_refl _), rfl⟩
        · skip
          rintro φ4 D5 As4 ⟨hI4, hD4, hA4⟩
          subst As4
          replace l0_h1 := l0_h1.mono hD4
          replace h2 := h2.mono hD4
          refine e_frame _ hI4 ?_
          refine e_then ?_
          obtain ⟨r21, hr21, hx1⟩ := bnd_some hx1
          refine c_quiet ?_
          refine ql_s (.string s3) (by kernel_rfl) ?_
          refine ql_q rfl (qs_strAdd rfl rfl hr21) ?_
          refine ql_s (.string r21) (by kernel_rfl) ?_
          refine ql_nil ?_
          refine e_blk ?_
          refine e_then ?_
          refine c_quiet ?_
          refine ql_s (.int .i64 (addI (i1 : Int) 1)) (by kernel_rfl) ?_
          refine ql_s (.int .i64 (addI (i1 : Int) 1)) (by kernel_rfl) ?_
          refine ql_nil ?_
          obtain rfl := Option.some.inj hx1
          exact e_cut ⟨j1, i1 + 1, r21, by omega, by omega, ⟨rfl, rfl, rfl, (congrArg (Value.int .i64) (addI_succ (by omega))), trivial⟩, (PH.le_trans (PH.le_trans hD1 hD3) hD4), rfl, hs2⟩
  · skip
    rintro φ5 D1 As5 ⟨hI5, hD5, hA5⟩
    subst As5
    refine e_frame _ hI5 ?_
    refine e_then ?_
    refine c_seq ?_
    refine c_quiet ?_
    refine ql_s (.string x1) (by kernel_rfl) ?_
    refine ql_s (.string x1) (by kernel_rfl) ?_
    refine ql_nil ?_
    refine e_then ?_
    refine c_ret ?_
    obtain rfl := Option.some.inj hp
    exact post_all (vs := [.string x1]) (.string x1) ⟨rfl, trivial⟩ rfl (.inl rfl) (fun w hS => ⟨rfl, (hS.lower hD5)⟩)

-- strings.Count
set_option maxRecDepth 100000 in
set_option maxHeartbeats 3000000 in
theorem strings_Count_s (s0 : ByteArray) (substr0 : ByteArray) (D : PH)  (F : List Assert) (r : Int) (hp : countP s0 substr0 = some r) : ∀ w : World, SInv D (F) w → Calls Tryd.prog 8 #[.string s0, .string substr0] w (fun e w' => e = .returned (.int .i64 r) ∧ SInv D (F) w') := by
  exact given_count (P := Tryd.prog) (g := 0) (by kernel_rfl) GV.maxLen (fun s sep m w hs hm h1 => Tryd.strings_Count_any s sep m w hs hm h1) hp

-- tarnfell/tarnlaw2.within
set_option maxRecDepth 100000 in
set_option maxHeartbeats 3000000 in
theorem tarnlaw2_within_s (n0 : Int) (low0 : Int) (high0 : Int) (D : PH)  (F : List Assert) (r : Bool) (hp : tarnlaw2_within_p n0 low0 high0 = some r) : ∀ w : World, SInv D (F) w → Calls Tryd.prog 9 #[.int .i64 n0, .int .i64 low0, .int .i64 high0] w (fun e w' => e = .returned (.bool r) ∧ SInv D (F) w') := by
  intro w hS
  refine call_intro Tryd.func9 rfl Tryd.ntmps9 (Nat.le_of_ble_eq_true rfl) hS ?_
  clear hS w
  unfold tarnlaw2_within_p at hp
  refine c_seq ?_
  refine c_quiet ?_
  refine ql_s (.bool false) (by kernel_rfl) ?_
  refine ql_nil ?_
  refine e_then ?_
  refine c_seq ?_
  refine c_cutq_end [(6, .bool ((decide (n0 ≥ low0)) && (decide (n0 ≤ high0))))] ?_ ?_
  · skip
    refine c_quiet ?_
    refine ql_s (.int .i64 n0) (by kernel_rfl) ?_
    refine ql_s (.int .i64 low0) (by kernel_rfl) ?_
    refine ql_s (.bool (decide (n0 ≥ low0))) (by kernel_rfl) ?_
    refine ql_s (.bool (decide (n0 ≥ low0))) (by kernel_rfl) ?_
    refine ql_case 10 (decide (n0 ≥ low0)) rfl (fun hg1 => ?_) (fun hg1 => ?_)
    · skip
      refine ql_s (.int .i64 n0) (by kernel_rfl) ?_
      refine ql_s (.int .i64 high0) (by kernel_rfl) ?_
      refine ql_s (.bool (decide (n0 ≤ high0))) (by kernel_rfl) ?_
      refine ql_s (.bool (decide (n0 ≤ high0))) (by kernel_rfl) ?_
      refine ql_s (.bool (decide (n0 ≤ high0))) (by kernel_rfl) ?_
      refine ql_nil (e_cutq ?_)
      exact ⟨(congrArg Value.bool (by first | rfl | (rw [hg1]; rfl) | simp [hg1])), trivial⟩
    · skip
      refine ql_s undef (by kernel_rfl) ?_
      refine ql_s undef (by kernel_rfl) ?_
      refine ql_s undef (by kernel_rfl) ?_
      refine ql_s (.bool false) (by kernel_rfl) ?_
      refine ql_s (.bool false) (by kernel_rfl) ?_
      refine ql_nil (e_cutq ?_)
      exact ⟨(congrArg Value.bool (by first | rfl | (rw [hg1]; rfl) | simp [hg1])), trivial⟩
  intro _
  refine e_then ?_
  refine c_ret ?_
  obtain rfl := Option.some.inj hp
  exact post_all (vs := [.bool ((decide (n0 ≥ low0)) && (decide (n0 ≤ high0)))]) (.bool ((decide (n0 ≥ low0)) && (decide (n0 ≤ high0)))) ⟨rfl, trivial⟩ rfl (.inl rfl) (fun w hS => ⟨rfl, hS⟩)

-- slices.Index[[]tarnfell/api.Errno,tarnfell/api.Errno]
set_option maxRecDepth 100000 in
set_option maxHeartbeats 3000000 in
theorem slices_Index_api_Errno_api_Errno_s (s0 : List Int) (s0_v1a : Option Addr) (s0_v1c : Nat) (v0 : Int) (D : PH) (s0_h1 : RO (encI .i64) D (.slice s0_v1a s0.length s0_v1c) s0) (F : List Assert) (r : Int) (hp : slices_Index_api_Errno_api_Errno_p s0 v0 = some r) : ∀ w : World, SInv D (F) w → Calls Tryd.prog 20 #[.slice s0_v1a s0.length s0_v1c, .int .i64 v0] w (fun e w' => e = .returned (.int .i64 r) ∧ SInv D (F) w') := by
  intro w hS
  refine call_intro Tryd.func20 rfl Tryd.ntmps20 (Nat.le_of_ble_eq_true rfl) hS ?_
  clear hS w
  unfold slices_Index_api_Errno_api_Errno_p at hp
  refine c_seq ?_
  refine c_quiet ?_
  refine ql_s (.int .i64 0) (by kernel_rfl) ?_
  refine ql_nil ?_
  refine e_then ?_
  refine c_seq ?_
  refine c_seq ?_
  refine c_quiet ?_
  refine ql_s (.slice s0_v1a s0.length s0_v1c) (by kernel_rfl) ?_
  refine ql_s (.int .i64 (s0.length : Int)) (by kernel_rfl) ?_
  refine ql_s (.int .i64 0) (by kernel_rfl) ?_
  refine ql_nil ?_
  refine e_then ?_
  have hb0 : (s0.length : Int) ≤ 4611686018427387904 := by have := RO.bound s0_h1; omega
  have hm0 : s0.length = (s0.length : Int).toNat := by omega
  have hm1 := hm0; have hb1 := hb0; clear hm0 hb0
  obtain ⟨x1, hs1, hp⟩ := bnd_some hp
  obtain ⟨body1, hbody1, hs1⟩ := forI_gen hs1
  refine c_cut_end (fun φ1 D1 As1 => ∃ (s1 : Unit), x1 = .go s1 ∧ Is φ1 [] ∧ PH.le D D1 ∧ As1 = F) ?_ ?_
  · skip
    refine c_block ?_
    refine c_loop (fun k φ1 D2 As1 => ∃ (j1 i1 : Nat) (s2 : Unit), k = j1 + 1 ∧ i1 + j1 = s0.length ∧ Is φ1 [(0, .slice s0_v1a s0.length s0_v1c), (1, .int .i64 v0), (7, .int .i64 (s0.length : Int)), (8, .int .i64 (i1 : Int))] ∧ PH.le D D2 ∧ As1 = F ∧ forI body1 j1 i1 s2 = some x1) ⟨s0.length + 1, s0.length, 0, (), rfl, Nat.zero_add _, ⟨rfl, rfl, rfl, rfl, trivial⟩, (PH.le_refl _), rfl, hs1⟩ ?_ ?_
    · rintro _ _ _ ⟨_, _, _, h0, _⟩; omega
    intro k1
    rintro φ1 D2 As1 ⟨j1, i1, s2, hk1, hij1, hI1, hD1, hA1, hs2⟩
    subst As1
    replace s0_h1 := s0_h1.mono hD1
    refine c_frame _ hI1 ?_
    obtain rfl : k1 = j1 := by omega
    clear hk1
    rcases k1 with _ | j1
    · skip
      refine c_seq ?_
      refine c_quiet ?_
      refine ql_s (.bool (decide ((i1 : Int) < (s0.length : Int)))) (by kernel_rfl) ?_
      refine ql_nil ?_
      refine e_then ?_
      refine c_seq ?_
      refine c_cond (decide ((i1 : Int) < (s0.length : Int))) rfl (fun ht1 => absurd ((dec_lt_f hm1 (by omega)).symm.trans ht1) (by simp)) (fun _ => ?_)
      refine c_exit ?_
      refine e_then_exit ?_
      refine e_then_exit ?_
      obtain rfl := Option.some.inj hs2
      refine e_blk_exit ?_
      exact e_cut ⟨(), rfl, trivial, hD1, rfl⟩
    · skip
      obtain ⟨y1, hx1, hs2⟩ := forI_some hs2
      replace hx1 := (congrFun (congrFun hbody1 i1) s2).trans hx1
      refine c_seq ?_
      refine c_quiet ?_
      refine ql_s (.bool (decide ((i1 : Int) < (s0.length : Int)))) (by kernel_rfl) ?_
      refine ql_nil ?_
      refine e_then ?_
      refine c_seq ?_
      refine c_cond (decide ((i1 : Int) < (s0.length : Int))) rfl (fun _ => ?_) (fun ht2 => absurd ((dec_lt_t hm1 (by omega)).symm.trans ht2) (by simp))
      refine c_skip ?_
      refine e_then ?_
      refine c_seq ?_
      refine c_block ?_
      refine c_seq ?_
      refine c_quiet ?_
      refine ql_s (.int .i64 (i1 : Int)) (by kernel_rfl) ?_
      refine ql_s (.int .i64 (i1 : Int)) (by kernel_rfl) ?_
      refine ql_nil ?_
      refine e_then ?_
      refine c_seq ?_
      obtain ⟨x2, hx2, hx1⟩ := bnd_some hx1
      obtain ⟨b1, o1, h1, hq1⟩ := RO.at s0_h1 hx2
      refine c_quiet ?_
      refine ql_s (.int .i64 v0) (by kernel_rfl) ?_
      refine ql_s (.slice s0_v1a s0.length s0_v1c) (by kernel_rfl) ?_
      refine ql_s (.int .i64 (i1 : Int)) (by kernel_rfl) ?_
      refine ql_q rfl (qs_idx hq1 Tryd.underlying32 fit23 rfl rfl) ?_
      refine ql_q rfl (qs_ldAtV fit23 rfl h1 valI) ?_
      refine ql_s (.bool (v0 == x2)) (by kernel_rfl) ?_
      refine ql_nil ?_
      refine e_then ?_
      refine c_cond ((v0 == x2)) rfl (fun ht3 => ?_) (fun ht3 => ?_)
      · skip
        replace hx1 := if_t ht3 hx1
        refine c_seq ?_
        refine c_quiet ?_
        refine ql_s (.int .i64 (i1 : Int)) (by kernel_rfl) ?_
        refine ql_s (.int .i64 (i1 : Int)) (by kernel_rfl) ?_
        refine ql_nil ?_
        refine e_then ?_
        refine c_ret ?_
        refine e_blk_ret ?_
        refine e_then_ret ?_
        refine e_then_ret ?_
        obtain rfl := Option.some.inj hx1
        obtain rfl := hs2
        refine e_blk_ret ?_
        refine e_then_ret ?_
        dsimp only at hp
        refine e_then_ret ?_
        obtain rfl := Option.some.inj hp
        exact post_all (vs := [.int .i64 (i1 : Int)]) (.int .i64 (i1 : Int)) ⟨rfl, trivial⟩ rfl (.inl rfl) (fun w hS => ⟨rfl, (hS.lower hD1)⟩)
      · skip
        replace hx1 := if_f ht3 hx1
        refine c_skip ?_
        refine e_blk ?_
        refine e_then ?_
        refine c_quiet ?_
        refine ql_s (.int .i64 (addI (i1 : Int) 1)) (by kernel_rfl) ?_
        refine ql_s (.int .i64 (addI (i1 : Int) 1)) (by kernel_rfl) ?_
        refine ql_nil ?_
        obtain rfl := Option.some.inj hx1
        exact e_cut ⟨j1, i1 + 1, (), by omega, by omega, ⟨rfl, rfl, rfl, (congrArg (Value.int .i64) (addI_succ (by omega))), trivial⟩, hD1, rfl, hs2⟩
  · skip
    rintro φ2 D1 As2 ⟨s1, rfl, hI2, hD2, hA2⟩
    subst As2
    dsimp only at hp
    refine e_frame _ hI2 ?_
    refine e_then ?_
    refine c_seq ?_
    refine c_quiet ?_
    refine ql_s (.int .i64 (-1)) (by kernel_rfl) ?_
    refine ql_nil ?_
    refine e_then ?_
    refine c_ret ?_
    obtain rfl := Option.some.inj hp
    exact post_all (vs := [.int .i64 (-1)]) (.int .i64 (-1)) ⟨rfl, trivial⟩ rfl (.inl rfl) (fun w hS => ⟨rfl, (hS.lower hD2)⟩)

-- slices.Contains[[]tarnfell/api.Errno,tarnfell/api.Errno]
set_option maxRecDepth 100000 in
set_option maxHeartbeats 3000000 in
theorem slices_Contains_api_Errno_api_Errno_s (s0 : List Int) (s0_v1a : Option Addr) (s0_v1c : Nat) (v0 : Int) (D : PH) (s0_h1 : RO (encI .i64) D (.slice s0_v1a s0.length s0_v1c) s0) (F : List Assert) (r : Bool) (hp : slices_Contains_api_Errno_api_Errno_p s0 v0 = some r) : ∀ w : World, SInv D (F) w → Calls Tryd.prog 10 #[.slice s0_v1a s0.length s0_v1c, .int .i64 v0] w (fun e w' => e = .returned (.bool r) ∧ SInv D (F) w') := by
  intro w hS
  refine call_intro Tryd.func10 rfl Tryd.ntmps10 (Nat.le_of_ble_eq_true rfl) hS ?_
  clear hS w
  unfold slices_Contains_api_Errno_api_Errno_p at hp
  refine c_seq ?_
  refine c_quiet ?_
  refine ql_s (.bool false) (by kernel_rfl) ?_
  refine ql_nil ?_
  refine e_then ?_
  refine c_seq ?_
  obtain ⟨r1, hr1, hp⟩ := bnd_some hp
  refine c_quiet ?_
  refine ql_s (.slice s0_v1a s0.length s0_v1c) (by kernel_rfl) ?_
  refine ql_s (.int .i64 v0) (by kernel_rfl) ?_
  refine ql_call (v := .int .i64 r1) rfl (run_call (vs := [.slice s0_v1a s0.length s0_v1c, .int .i64 v0]) rfl Tryd.call20 rfl) (fun w hS => (slices_Index_api_Errno_api_Errno_s s0 s0_v1a s0_v1c v0 _ s0_h1 _ _ hr1 w (hS)).mono fun e w' h => ⟨h.1, h.2⟩) ?_
  refine ql_s (.bool (decide (r1 ≥ 0))) (by kernel_rfl) ?_
  refine ql_s (.bool (decide (r1 ≥ 0))) (by kernel_rfl) ?_
  refine ql_nil ?_
  refine e_then ?_
  refine c_ret ?_
  obtain rfl := Option.some.inj hp
  exact post_all (vs := [.bool (decide (r1 ≥ 0))]) (.bool (decide (r1 ≥ 0))) ⟨rfl, trivial⟩ rfl (.inl rfl) (fun w hS => ⟨rfl, hS⟩)

-- tarnfell/tarnlaw2.RiversRead
set_option maxRecDepth 100000 in
set_option maxHeartbeats 3000000 in
theorem tarnlaw2_RiversRead_s (text0 : ByteArray) (D : PH)  (F : List Assert) (r : Bool) (hp : tarnlaw2_RiversRead_p text0 = some r) : ∀ w : World, SInv D (F) w → Calls Tryd.prog 3 #[.string text0] w (fun e w' => e = .returned (.bool r) ∧ SInv D (F) w') := by
  intro w hS
  refine call_intro Tryd.func3 rfl Tryd.ntmps3 (Nat.le_of_ble_eq_true rfl) hS ?_
  clear hS w
  unfold tarnlaw2_RiversRead_p at hp
  refine c_seq ?_
  refine c_quiet ?_
  refine ql_s (.bool false) (by kernel_rfl) ?_
  refine ql_nil ?_
  refine e_then ?_
  refine c_seq ?_
  obtain ⟨r1, hr1, hp⟩ := bnd_some hp
  refine c_region ?_
  refine l_s (.string text0) (by kernel_rfl) ?_
  refine l_call rfl rfl Tryd.call4 (vs := [.string text0]) rfl (fun v D2 As2 => ∃ (a2 : Option Addr) (cp2 : Nat), PH.le D D2 ∧ v = .tuple #[.slice a2 r1.1.length cp2, .int .i64 r1.2.1, .int .i64 r1.2.2] ∧ RO encS_api_River D2 (.slice a2 r1.1.length cp2) r1.1 ∧ As2 = F) (fun w hS => (water_ParseRivers_s text0 _  _ _ hr1 w (hS)).mono fun e w' ⟨D2, a2, cp2, hle2, he, h2, hS2⟩ => ⟨_, D2, _, he, ⟨a2, cp2, hle2, rfl, h2, rfl⟩, hS2⟩) ?_
  rintro _ D2 As2 ⟨a2, cp2, hle2, rfl, h2, hA2⟩
  subst As2
  refine l_s (.tuple #[.slice a2 r1.1.length cp2, .int .i64 r1.2.1, .int .i64 r1.2.2]) (by kernel_rfl) ?_
  refine l_s (.slice a2 r1.1.length cp2) (by kernel_rfl) ?_
  refine l_s (.int .i64 r1.2.1) (by kernel_rfl) ?_
  refine l_s (.int .i64 r1.2.2) (by kernel_rfl) ?_
  refine l_s (.slice a2 r1.1.length cp2) (by kernel_rfl) ?_
  refine l_s (.int .i64 r1.2.1) (by kernel_rfl) ?_
  refine l_s (.int .i64 r1.2.2) (by kernel_rfl) ?_
  refine l_nil ?_
  refine e_then ?_
  refine c_seq ?_
  refine c_seq ?_
  obtain ⟨c1, hc1, hp⟩ := bnd_some hp
  refine c_cutq_end [(0, .string text0), (3, .slice a2 r1.1.length cp2), (4, .int .i64 r1.2.1), (5, .int .i64 r1.2.2), (19, .bool c1)] ?_ ?_
  · skip
    refine c_quiet ?_
    obtain ⟨r2, hr2, hc1⟩ := bnd_some hc1
    refine ql_call (v := .bool r2) rfl (run_call (vs := []) rfl Tryd.call5 rfl) (fun w hS => (tarnlaw2_flows_s  _  _ _ hr2 w (hS)).mono fun e w' h => ⟨h.1, h.2⟩) ?_
    refine ql_s (.bool (!r2)) (by kernel_rfl) ?_
    refine ql_s (.bool (!r2)) (by kernel_rfl) ?_
    refine ql_case 15 (!r2) rfl (fun hg1 => ?_) (fun hg1 => ?_)
    · skip
      replace hc1 := if_t hg1 hc1
      refine ql_s undef (by kernel_rfl) ?_
      refine ql_s undef (by kernel_rfl) ?_
      refine ql_s undef (by kernel_rfl) ?_
      refine ql_s (.bool true) (by kernel_rfl) ?_
      refine ql_nil (e_cutq ?_)
      obtain rfl := Option.some.inj hc1
      exact ⟨rfl, rfl, rfl, rfl, rfl, trivial⟩
    · skip
      replace hc1 := if_f hg1 hc1
      refine ql_s (.string text0) (by kernel_rfl) ?_
      refine ql_q rfl (qs_strLen Tryd.underlying9 rfl) ?_
      refine ql_s (.bool (decide ((text0.size : Int) > 10000))) (by kernel_rfl) ?_
      refine ql_s (.bool (decide ((text0.size : Int) > 10000))) (by kernel_rfl) ?_
      refine ql_nil (e_cutq ?_)
      obtain rfl := Option.some.inj hc1
      exact ⟨rfl, rfl, rfl, rfl, rfl, trivial⟩
  intro _
  refine e_then ?_
  refine c_cond (c1) rfl (fun ht1 => ?_) (fun ht1 => ?_)
  · skip
    replace hp := if_t ht1 hp
    refine c_seq ?_
    obtain ⟨r3, hr3, hp⟩ := bnd_some hp
    refine c_quiet ?_
    refine ql_call (v := .bool r3) rfl (run_call (vs := []) rfl Tryd.call5 rfl) (fun w hS => (tarnlaw2_flows_s  _  _ _ hr3 w (hS)).mono fun e w' h => ⟨h.1, h.2⟩) ?_
    refine ql_s (.bool r3) (by kernel_rfl) ?_
    refine ql_nil ?_
    refine e_then ?_
    refine c_ret ?_
    refine e_then_ret ?_
    obtain rfl := Option.some.inj hp
    exact post_all (vs := [.bool r3]) (.bool r3) ⟨rfl, trivial⟩ rfl (.inl rfl) (fun w hS => ⟨rfl, (hS.lower hle2)⟩)
  · skip
    replace hp := if_f ht1 hp
    refine c_skip ?_
    refine e_then ?_
    refine c_seq ?_
    refine c_seq ?_
    refine c_quiet ?_
    refine ql_s (.int .i64 r1.2.2) (by kernel_rfl) ?_
    refine ql_s (.bool (r1.2.2 == 0)) (by kernel_rfl) ?_
    refine ql_nil ?_
    refine e_then ?_
    refine c_cond ((r1.2.2 == 0)) rfl (fun ht2 => ?_) (fun ht2 => ?_)
    · skip
      replace hp := if_t ht2 hp
      refine c_seq ?_
      obtain ⟨c2, hc2, hp⟩ := bnd_some hp
      refine c_cutq_end [(2, .bool c2)] ?_ ?_
      · skip
        refine c_quiet ?_
        refine ql_s (.int .i64 r1.2.1) (by kernel_rfl) ?_
        refine ql_s (.bool (r1.2.1 == 0)) (by kernel_rfl) ?_
        refine ql_s (.bool (r1.2.1 == 0)) (by kernel_rfl) ?_
        refine ql_case 25 ((r1.2.1 == 0)) rfl (fun hg2 => ?_) (fun hg2 => ?_)
        · skip
          replace hc2 := if_t hg2 hc2
          refine ql_s (.slice a2 r1.1.length cp2) (by kernel_rfl) ?_
          obtain ⟨r4, hr4, hc2⟩ := bnd_some hc2
          refine ql_call (v := .int .i64 r4) rfl (run_call (vs := [.slice a2 r1.1.length cp2]) rfl Tryd.call6 rfl) (fun w hS => (tarnref2_RiverError_s r1.1 a2 cp2 _ h2 _ _ hr4 w (hS)).mono fun e w' h => ⟨h.1, h.2⟩) ?_
          refine ql_s (.bool (r4 == 0)) (by kernel_rfl) ?_
          refine ql_s (.bool (r4 == 0)) (by kernel_rfl) ?_
          refine ql_s (.bool (r4 == 0)) (by kernel_rfl) ?_
          refine ql_case 30 ((r4 == 0)) rfl (fun hg3 => ?_) (fun hg3 => ?_)
          · skip
            replace hc2 := if_t hg3 hc2
            refine ql_s (.slice a2 r1.1.length cp2) (by kernel_rfl) ?_
            obtain ⟨r5, hr5, hc2⟩ := bnd_some hc2
            refine ql_call (v := .string r5) rfl (run_call (vs := [.slice a2 r1.1.length cp2]) rfl Tryd.call7 rfl) (fun w hS => (tarnlaw2_riverText_s r1.1 a2 cp2 _ h2 _ _ hr5 w (hS)).mono fun e w' h => ⟨h.1, h.2⟩) ?_
            refine ql_s (.string text0) (by kernel_rfl) ?_
            refine ql_q rfl (qs_strCmp (op := .eql) (v := strEq r5 text0) rfl rfl rfl rfl) ?_
            refine ql_s (.bool (strEq r5 text0)) (by kernel_rfl) ?_
            refine ql_s (.bool (strEq r5 text0)) (by kernel_rfl) ?_
            refine ql_nil (e_cutq ?_)
            obtain rfl := Option.some.inj hc2
            exact ⟨rfl, trivial⟩
          · skip
            replace hc2 := if_f hg3 hc2
            refine ql_s undef (by kernel_rfl) ?_
            refine ql_s undef (by kernel_rfl) ?_
            refine ql_s undef (by kernel_rfl) ?_
            refine ql_s undef (by kernel_rfl) ?_
            refine ql_s (.bool false) (by kernel_rfl) ?_
            refine ql_s (.bool false) (by kernel_rfl) ?_
            refine ql_nil (e_cutq ?_)
            obtain rfl := Option.some.inj hc2
            exact ⟨rfl, trivial⟩
        · skip
          replace hc2 := if_f hg2 hc2
          refine ql_s undef (by kernel_rfl) ?_
          refine ql_s undef (by kernel_rfl) ?_
          refine ql_s undef (by kernel_rfl) ?_
          refine ql_s (.bool false) (by kernel_rfl) ?_
          refine ql_s (.bool false) (by kernel_rfl) ?_
          refine ql_s undef (by kernel_rfl) ?_
          refine ql_s undef (by kernel_rfl) ?_
          refine ql_s undef (by kernel_rfl) ?_
          refine ql_s undef (by kernel_rfl) ?_
          refine ql_s (.bool false) (by kernel_rfl) ?_
          refine ql_s (.bool false) (by kernel_rfl) ?_
          refine ql_nil (e_cutq ?_)
          obtain rfl := Option.some.inj hc2
          exact ⟨rfl, trivial⟩
      intro _
      refine e_then ?_
      refine c_ret ?_
      refine e_then_ret ?_
      obtain rfl := Option.some.inj hp
      exact post_all (vs := [.bool c2]) (.bool c2) ⟨rfl, trivial⟩ rfl (.inl rfl) (fun w hS => ⟨rfl, (hS.lower hle2)⟩)
    · skip
      replace hp := if_f ht2 hp
      refine c_skip ?_
      refine e_then ?_
      refine c_seq ?_
      obtain ⟨r6, hr6, hp⟩ := bnd_some hp
      refine c_quiet ?_
      refine ql_s (.string text0) (by kernel_rfl) ?_
      refine ql_call (v := .int .i64 r6) rfl (run_call (vs := [.string text0, .string (⟨#[10]⟩ : ByteArray)]) rfl Tryd.call8 rfl) (fun w hS => (strings_Count_s text0 (⟨#[10]⟩ : ByteArray) _  _ _ hr6 w (hS)).mono fun e w' h => ⟨h.1, h.2⟩) ?_
      refine ql_s (.int .i64 r6) (by kernel_rfl) ?_
      refine ql_nil ?_
      refine e_then ?_
      refine c_seq ?_
      refine c_seq ?_
      refine c_quiet ?_
      refine ql_s (.int .i64 r1.2.2) (by kernel_rfl) ?_
      refine ql_s (.bool (r1.2.2 == 9)) (by kernel_rfl) ?_
      refine ql_nil ?_
      refine e_then ?_
      refine c_cond ((r1.2.2 == 9)) rfl (fun ht3 => ?_) (fun ht3 => ?_)
      · skip
        replace hp := if_t ht3 hp
        refine c_seq ?_
        obtain ⟨c3, hc3, hp⟩ := bnd_some hp
        refine c_cutq_end [(2, .bool c3)] ?_ ?_
        · skip
          refine c_quiet ?_
          refine ql_s (.slice a2 r1.1.length cp2) (by kernel_rfl) ?_
          refine ql_s (.int .i64 (r1.1.length : Int)) (by kernel_rfl) ?_
          refine ql_s (.bool ((r1.1.length : Int) == 0)) (by kernel_rfl) ?_
          refine ql_s (.bool ((r1.1.length : Int) == 0)) (by kernel_rfl) ?_
          refine ql_case 43 (((r1.1.length : Int) == 0)) rfl (fun hg4 => ?_) (fun hg4 => ?_)
          · skip
            replace hc3 := if_t hg4 hc3
            refine ql_s (.int .i64 r1.2.1) (by kernel_rfl) ?_
            refine ql_s (.int .i64 r6) (by kernel_rfl) ?_
            obtain ⟨r7, hr7, hc3⟩ := bnd_some hc3
            refine ql_call (v := .bool r7) rfl (run_call (vs := [.int .i64 r1.2.1, .int .i64 0, .int .i64 r6]) rfl Tryd.call9 rfl) (fun w hS => (tarnlaw2_within_s r1.2.1 0 r6 _  _ _ hr7 w (hS)).mono fun e w' h => ⟨h.1, h.2⟩) ?_
            refine ql_s (.bool r7) (by kernel_rfl) ?_
            refine ql_s (.bool r7) (by kernel_rfl) ?_
            refine ql_nil (e_cutq ?_)
            obtain rfl := Option.some.inj hc3
            exact ⟨rfl, trivial⟩
          · skip
            replace hc3 := if_f hg4 hc3
            refine ql_s undef (by kernel_rfl) ?_
            refine ql_s undef (by kernel_rfl) ?_
            refine ql_s undef (by kernel_rfl) ?_
            refine ql_s (.bool false) (by kernel_rfl) ?_
            refine ql_s (.bool false) (by kernel_rfl) ?_
            refine ql_nil (e_cutq ?_)
            obtain rfl := Option.some.inj hc3
            exact ⟨rfl, trivial⟩
        intro _
        refine e_then ?_
        refine c_ret ?_
        refine e_then_ret ?_
        obtain rfl := Option.some.inj hp
        exact post_all (vs := [.bool c3]) (.bool c3) ⟨rfl, trivial⟩ rfl (.inl rfl) (fun w hS => ⟨rfl, (hS.lower hle2)⟩)
      · skip
        replace hp := if_f ht3 hp
        refine c_skip ?_
        refine e_then ?_
        refine c_seq ?_
        refine c_region ?_
        refine l_s (.slice a2 r1.1.length cp2) (by kernel_rfl) ?_
        refine l_s (.int .i64 (r1.1.length : Int)) (by kernel_rfl) ?_
        refine l_s (.bool ((r1.1.length : Int) == 0)) (by kernel_rfl) ?_
        refine l_s (.bool ((r1.1.length : Int) == 0)) (by kernel_rfl) ?_
        refine l_case 51 (((r1.1.length : Int) == 0)) rfl (fun hg5 => ?_) (fun hg5 => ?_)
        · skip
          replace hp := if_t hg5 hp
          refine l_s (.int .i64 r1.2.1) (by kernel_rfl) ?_
          refine l_s (.bool (r1.2.1 == 0)) (by kernel_rfl) ?_
          refine l_s (.bool (r1.2.1 == 0)) (by kernel_rfl) ?_
          refine l_s (.bool (r1.2.1 == 0)) (by kernel_rfl) ?_
          refine l_case 55 ((r1.2.1 == 0)) rfl (fun hg6 => ?_) (fun hg6 => ?_)
          · skip
            replace hp := if_t hg6 hp
            refine l_bslS (cs := [.int .i64 3, .int .i64 11, .int .i64 5]) (E := 23) (e := encI .i64) ([3, 11, 5] : List Int) rfl (by kernel_rfl) rfl rfl (Nat.le_of_ble_eq_true rfl) ⟨rfl, rfl, rfl, trivial⟩ (fun b2 cp4 => ?_)
            refine l_s (.int .i64 r1.2.2) (by kernel_rfl) ?_
            obtain ⟨r8, hr8, hp⟩ := bnd_some hp
            refine l_callq (v := .bool r8) rfl rfl Tryd.call10 (vs := [.slice (some ⟨b2, 0, none⟩) ([3, 11, 5] : List Int).length cp4, .int .i64 r1.2.2]) rfl (fun w hS => (calls_thaw (PH.le_refl _) (hS) (fun D0' hLl0 hLr0 hS => (slices_Contains_api_Errno_api_Errno_s ([3, 11, 5] : List Int) (some ⟨b2, 0, none⟩) cp4 r1.2.2 _ hLr0 _ _ hr8 w (hS)).mono fun e w' h => ⟨h.1, h.2⟩)).mono fun e w' h => ⟨h.1, h.2⟩) ?_
            refine l_s (.bool r8) (by kernel_rfl) ?_
            refine l_s (.bool r8) (by kernel_rfl) ?_
            refine l_nil ?_
            refine e_drop ?_
            refine e_then ?_
            refine c_ret ?_
            obtain rfl := Option.some.inj hp
            exact post_all (vs := [.bool r8]) (.bool r8) ⟨rfl, trivial⟩ rfl (.inl rfl) (fun w hS => ⟨rfl, (hS.lower hle2)⟩)
          · skip
            replace hp := if_f hg6 hp
            refine l_s undef (by kernel_rfl) ?_
            refine l_s undef (by kernel_rfl) ?_
            refine l_s undef (by kernel_rfl) ?_
            refine l_s (.bool false) (by kernel_rfl) ?_
            refine l_s (.bool false) (by kernel_rfl) ?_
            refine l_nil ?_
            refine e_then ?_
            refine c_ret ?_
            obtain rfl := Option.some.inj hp
            exact post_all (vs := [.bool false]) (.bool false) ⟨rfl, trivial⟩ rfl (.inl rfl) (fun w hS => ⟨rfl, (hS.lower hle2)⟩)
        · skip
          replace hp := if_f hg5 hp
          refine l_s undef (by kernel_rfl) ?_
          refine l_s undef (by kernel_rfl) ?_
          refine l_s (.bool false) (by kernel_rfl) ?_
          refine l_s (.bool false) (by kernel_rfl) ?_
          refine l_s undef (by kernel_rfl) ?_
          refine l_s undef (by kernel_rfl) ?_
          refine l_s undef (by kernel_rfl) ?_
          refine l_s (.bool false) (by kernel_rfl) ?_
          refine l_s (.bool false) (by kernel_rfl) ?_
          refine l_nil ?_
          refine e_then ?_
          refine c_ret ?_
          obtain rfl := Option.some.inj hp
          exact post_all (vs := [.bool false]) (.bool false) ⟨rfl, trivial⟩ rfl (.inl rfl) (fun w hS => ⟨rfl, (hS.lower hle2)⟩)

end Go.Proofs.YteebpnooijknoaaDoor
