/- Own text, by program: that the code computes the pure functions. -/
import Derived.Test.YtlngccfplnbeiaaGreatDoorFn0
namespace Go.Proofs.YtlngccfplnbeiaaGreatDoor
open Sx
set_option linter.all false
variable [WB] [GV Tryz.prog]

-- (*tarnfell/road.queue).Pop
set_option maxRecDepth 100000 in
set_option maxHeartbeats 2000000 in
theorem road_queue_Pop_s (b_q0 : Nat) (q0 : List S_road_reached) (q0_a : Option Addr) (q0_c : Nat) (D : PH)  (F : List Assert) (r : S_road_reached × (List S_road_reached)) (hp : road_queue_Pop_p q0 = some r) : ∀ w : World, SInv D (pt b_q0 [.slice q0_a q0.length q0_c] 138 :: OwnS D encS_road_reached 136 (.slice q0_a q0.length q0_c) q0 :: F) w → Calls Tryz.prog 150 #[.pointer (some ⟨b_q0, 0, none⟩)] w (fun e w' => ∃ (D1 : PH) (q_a1 : Option Addr) (q_cp1 : Nat), PH.le D D1 ∧ e = .returned (.iface 136 (.agg #[.float .f32 r.1.price, .int .i64 r.1.k])) ∧ SInv D1 (pt b_q0 [.slice q_a1 r.2.length q_cp1] 138 :: OwnS D1 encS_road_reached 136 (.slice q_a1 r.2.length q_cp1) r.2 :: F) w') := by
  intro w hS
  refine call_intro Tryz.func150 rfl Tryz.ntmps150 (Nat.le_of_ble_eq_true rfl) hS ?_
  clear hS w
  unfold road_queue_Pop_p at hp
  refine c_seq ?_
  refine c_quiet ?_
  refine ql_s (.nilIface) (by kernel_rfl) ?_
  refine ql_nil ?_
  refine e_then ?_
  refine c_seq ?_
  obtain ⟨x1, hx1, hp⟩ := bnd_some hp
  refine c_perm (fr1_perm 1 _) ?_
  refine c_adr (fun b2 hb1 hl1 hbd1 hcap1 => ?_)
  refine c_perm (fr1_perm 1 _) ?_
  refine c_perm (fr1_perm 1 _) ?_
  refine c_order (B := [OwnS D encS_road_reached 136 (.slice q0_a q0.length q0_c) q0, pt b_q0 [.slice q0_a q0.length q0_c] 138]) (.q 0 (.q 1 (.q 2 (.q 3 (.q 4 (.q 5 (.q 6 (.q 7 (.q 8 (.q 9 (.e 10 (.e 11 .nil)))))))))))) hmix (by kernel_rfl) (NoPanic.then NoPanic.post) ?_
  refine o_s (.pointer (some ⟨b_q0, 0, none⟩)) rfl (by kernel_rfl) ?_
  refine o_s (.pointer (some ⟨b_q0, 0, none⟩)) rfl (by kernel_rfl) ?_
  refine o_qs rfl rfl (qs_ldpt encV fitv138 rfl 1 rfl (.slice q0_a q0.length q0_c) (Nat.le_of_ble_eq_true rfl) rfl) ?_
  refine o_s (.pointer (some ⟨b_q0, 0, none⟩)) rfl (by kernel_rfl) ?_
  refine o_s (.pointer (some ⟨b_q0, 0, none⟩)) rfl (by kernel_rfl) ?_
  refine o_qs rfl rfl (qs_ldpt encV fitv138 rfl 1 rfl (.slice q0_a q0.length q0_c) (Nat.le_of_ble_eq_true rfl) rfl) ?_
  refine o_s (.int .i64 (q0.length : Int)) rfl (by kernel_rfl) ?_
  refine o_s (.int .i64 (subI (q0.length : Int) 1)) rfl (by kernel_rfl) ?_
  refine o_qs rfl rfl (qs_idx (IsIdx.beg (e := encS_road_reached) hb1 rfl hx1) Tryz.underlying138 fit136 rfl rfl) ?_
  refine o_qs rfl rfl (qs_ldS fit136 hb1 rfl rfl 0 rfl (idx_some hx1).2.2 (v := .agg #[.float .f32 x1.price, .int .i64 x1.k]) (fun cs hcs => by rw [show cs = _ from hcs]; rfl)) ?_
  refine o_alloc (zs := [.float .f32 0, .int .i64 0]) rfl rfl (PH.le_refl _) (by kernel_rfl) (fun b3 => ?_)
  refine o_store (vs := [.float .f32 x1.price, .int .i64 x1.k]) (cs' := [.float .f32 x1.price, .int .i64 x1.k]) rfl rfl (PH.le_refl _) (by kernel_rfl) (by kernel_rfl) rfl rfl (Nat.le_of_ble_eq_true rfl) rfl rfl ?_
  refine o_nil ?_
  refine e_then ?_
  refine c_seq ?_
  obtain ⟨l1, hl2, hp⟩ := bnd_some hp
  have hc1 := slc_len hl2
  refine c_perm (fr1_perm 2 _) ?_
  refine c_cut_end (fun φ1 D1 As1 => Is φ1 [(3, .pointer (some ⟨b3, 0, none⟩))] ∧ D = D1 ∧ As1 = pt b3 [.float .f32 x1.price, .int .i64 x1.k] 136 :: OwnS D encS_road_reached 136 (.slice q0_a ((subI (q0.length : Int) 1).toNat) q0_c) l1 :: pt b_q0 [.slice q0_a ((subI (q0.length : Int) 1).toNat) q0_c] 138 :: F) ?_ ?_
  · skip
    refine c_order (B := [pt b3 [.float .f32 x1.price, .int .i64 x1.k] 136]) (.q 0 (.q 1 (.q 2 (.q 4 (.q 5 (.f 3 (.e 6 (.q 7 (.q 8 (.q 9 (.q 10 (.e 11 .nil)))))) (.e 6 (.q 7 (.q 8 (.e 3 (.q 9 (.q 10 (.e 11 .nil))))))))))))) hmix (by kernel_rfl) (NoPanic.then (NoPanic.then NoPanic.post)) ?_
    refine o_s (.pointer (some ⟨b_q0, 0, none⟩)) rfl (by kernel_rfl) ?_
    refine o_s (.pointer (some ⟨b_q0, 0, none⟩)) rfl (by kernel_rfl) ?_
    refine o_s (.pointer (some ⟨b_q0, 0, none⟩)) rfl (by kernel_rfl) ?_
    refine o_s (.pointer (some ⟨b_q0, 0, none⟩)) rfl (by kernel_rfl) ?_
    refine o_s (.pointer (some ⟨b_q0, 0, none⟩)) rfl (by kernel_rfl) ?_
    refine o_f ?_ ?_
    · skip
      refine o_qe rfl rfl (PH.le_refl _) (qs_ldpt encV fitv138 rfl 2 rfl (.slice q0_a q0.length q0_c) (Nat.le_of_ble_eq_true rfl) rfl) ?_
      refine o_qe rfl rfl (PH.le_refl _) (qs_ldpt encV fitv138 rfl 2 rfl (.slice q0_a q0.length q0_c) (Nat.le_of_ble_eq_true rfl) rfl) ?_
      refine o_s (.int .i64 (q0.length : Int)) rfl (by kernel_rfl) ?_
      refine o_s (.int .i64 (subI (q0.length : Int) 1)) rfl (by kernel_rfl) ?_
      refine o_qs rfl rfl (qs_slice (e := encS_road_reached) (l := 0) (xs := q0) (v := .slice q0_a (subI (q0.length : Int) 1).toNat q0_c) Tryz.underlying138 fit136 rfl rfl hcap1 rfl ⟨_, rfl⟩ hl2 (slcV_own hb1)) ?_
      refine o_imp (OwnS.cutTo hl2) ?_
      refine o_s (.pointer (some ⟨b_q0, 0, none⟩)) rfl (by kernel_rfl) ?_
      refine o_perm (fr1_perm 1 _) ?_
      refine o_store (vs := [.slice q0_a ((subI (q0.length : Int) 1).toNat) q0_c]) (cs' := [.slice q0_a ((subI (q0.length : Int) 1).toNat) q0_c]) rfl rfl (PH.le_refl _) (by kernel_rfl) (by kernel_rfl) rfl rfl (Nat.le_of_ble_eq_true rfl) rfl rfl ?_
      refine o_nil ?_
      refine e_perm (fr1_perm 1 _) ?_
      refine e_perm (fr1_perm 2 _) ?_
      refine e_perm (fr1_perm 2 _) ?_
      exact e_cut ⟨⟨rfl, trivial⟩, rfl, rfl⟩
    refine o_qe rfl rfl (PH.le_refl _) (qs_ldpt encV fitv138 rfl 2 rfl (.slice q0_a q0.length q0_c) (Nat.le_of_ble_eq_true rfl) rfl) ?_
    refine o_s (.int .i64 (q0.length : Int)) rfl (by kernel_rfl) ?_
    refine o_s (.int .i64 (subI (q0.length : Int) 1)) rfl (by kernel_rfl) ?_
    refine o_qe rfl rfl (PH.le_refl _) (qs_ldpt encV fitv138 rfl 2 rfl (.slice q0_a q0.length q0_c) (Nat.le_of_ble_eq_true rfl) rfl) ?_
    refine o_qs rfl rfl (qs_slice (e := encS_road_reached) (l := 0) (xs := q0) (v := .slice q0_a (subI (q0.length : Int) 1).toNat q0_c) Tryz.underlying138 fit136 rfl rfl hcap1 rfl ⟨_, rfl⟩ hl2 (slcV_own hb1)) ?_
    refine o_imp (OwnS.cutTo hl2) ?_
    refine o_s (.pointer (some ⟨b_q0, 0, none⟩)) rfl (by kernel_rfl) ?_
    refine o_perm (fr1_perm 1 _) ?_
    refine o_store (vs := [.slice q0_a ((subI (q0.length : Int) 1).toNat) q0_c]) (cs' := [.slice q0_a ((subI (q0.length : Int) 1).toNat) q0_c]) rfl rfl (PH.le_refl _) (by kernel_rfl) (by kernel_rfl) rfl rfl (Nat.le_of_ble_eq_true rfl) rfl rfl ?_
    refine o_nil ?_
    refine e_perm (fr1_perm 1 _) ?_
    refine e_perm (fr1_perm 2 _) ?_
    refine e_perm (fr1_perm 2 _) ?_
    exact e_cut ⟨⟨rfl, trivial⟩, rfl, rfl⟩
  · skip
    rintro φ1 _ As1 ⟨hI1, rfl, hA⟩
    subst As1
    refine e_frame _ hI1 ?_
    refine e_then ?_
    refine c_seq ?_
    refine c_quiet ?_
    refine ql_q rfl (qs_ldpt (encW 2 (by decide)) fitv136 rfl 0 rfl (.agg #[.float .f32 x1.price, .int .i64 x1.k]) (Nat.le_of_ble_eq_true rfl) rfl) ?_
    refine ql_q rfl (qs_mkI Tryz.underlying136 rfl rfl) ?_
    refine ql_s (.iface 136 (.agg #[.float .f32 x1.price, .int .i64 x1.k])) (by kernel_rfl) ?_
    refine ql_nil ?_
    refine e_drop ?_
    refine e_then ?_
    refine c_ret ?_
    obtain rfl := Option.some.inj hp
    refine e_perm (fr1_perm 1 _) ?_
    exact post_all (vs := [.iface 136 (.agg #[.float .f32 x1.price, .int .i64 x1.k])]) (.iface 136 (.agg #[.float .f32 x1.price, .int .i64 x1.k])) ⟨rfl, trivial⟩ rfl (.inl rfl) (fun w hS => ⟨D, q0_a, q0_c, (PH.le_refl _), (by simp only [hc1]), (by have h2 : SInv D (pt b_q0 [.slice q0_a ((subI (q0.length : Int) 1).toNat) q0_c] 138 :: OwnS D encS_road_reached 136 (.slice q0_a ((subI (q0.length : Int) 1).toNat) q0_c) l1 :: F) w := hS; simpa only [hc1] using h2)⟩)

-- container/heap.Pop
set_option maxRecDepth 100000 in
set_option maxHeartbeats 2000000 in
theorem container_heap_Pop_s (b_h0 : Nat) (h0 : List S_road_reached) (h0_a : Option Addr) (h0_c : Nat) (D : PH)  (F : List Assert) (r : S_road_reached × (List S_road_reached)) (hp : container_heap_Pop_p h0 = some r) : ∀ w : World, SInv D (pt b_h0 [.slice h0_a h0.length h0_c] 138 :: OwnS D encS_road_reached 136 (.slice h0_a h0.length h0_c) h0 :: F) w → Calls Tryz.prog 85 #[.iface 140 (.pointer (some ⟨b_h0, 0, none⟩))] w (fun e w' => ∃ (D1 : PH) (q_a1 : Option Addr) (q_cp1 : Nat), PH.le D D1 ∧ e = .returned (.iface 136 (.agg #[.float .f32 r.1.price, .int .i64 r.1.k])) ∧ SInv D1 (pt b_h0 [.slice q_a1 r.2.length q_cp1] 138 :: OwnS D1 encS_road_reached 136 (.slice q_a1 r.2.length q_cp1) r.2 :: F) w') := by
  intro w hS
  refine call_intro Tryz.func85 rfl Tryz.ntmps85 (Nat.le_of_ble_eq_true rfl) hS ?_
  clear hS w
  unfold container_heap_Pop_p at hp
  refine c_seq ?_
  refine c_quiet ?_
  refine ql_s (.nilIface) (by kernel_rfl) ?_
  refine ql_nil ?_
  refine e_then ?_
  refine c_seq ?_
  obtain ⟨r1, hr1, hp⟩ := bnd_some hp
  refine c_quiet ?_
  refine ql_s (.iface 140 (.pointer (some ⟨b_h0, 0, none⟩))) (by kernel_rfl) ?_
  refine ql_ent (v := .int .i64 r1) rfl (ent_methD encV (vs := [.slice h0_a h0.length h0_c]) rfl (by kernel_rfl) Tryz.underlying140 Tryz.call147 fitv138 0 rfl (.slice h0_a h0.length h0_c) (Nat.le_of_ble_eq_true rfl) rfl rfl) (fun w hS => (calls_thaw (PH.le_refl _) (hS.perm (fr1_perm 1 _)) (fun D0' hLl0 hLr0 hS => (road_queue_Len_s h0 h0_a h0_c _ hLr0 _ _ hr1 w (hS)).mono fun e w' h => ⟨h.1, h.2⟩)).mono fun e w' h => ⟨h.1, SInv.unfr 1 h.2⟩) ?_
  refine ql_s (.int .i64 (subI r1 1)) (by kernel_rfl) ?_
  refine ql_s (.int .i64 (subI r1 1)) (by kernel_rfl) ?_
  refine ql_nil ?_
  refine e_then ?_
  refine c_seq ?_
  obtain ⟨r2, hr2, hp⟩ := bnd_some hp
  refine c_region ?_
  refine l_s (.iface 140 (.pointer (some ⟨b_h0, 0, none⟩))) (by kernel_rfl) ?_
  refine l_s (.int .i64 (subI r1 1)) (by kernel_rfl) ?_
  refine l_ent rfl (ent_methD encV (vs := [.slice h0_a h0.length h0_c, .int .i64 0, .int .i64 (subI r1 1)]) rfl (by kernel_rfl) Tryz.underlying140 Tryz.call149 fitv138 0 rfl (.slice h0_a h0.length h0_c) (Nat.le_of_ble_eq_true rfl) rfl rfl) (fun v D2 As2 => PH.le D D2 ∧ v = .tuple #[] ∧ As2 = OwnS D2 encS_road_reached 136 (.slice h0_a h0.length h0_c) r2 :: pt b_h0 [.slice h0_a h0.length h0_c] 138 :: F) (fun w hS => (road_queue_Swap_s h0 h0_a h0_c 0 (subI r1 1) _  _ _ hr2 w (hS.perm (fr1_perm 1 _))).mono fun e w' ⟨D2, hle2, he, hS2⟩ => ⟨_, D2, _, he, ⟨hle2, rfl, rfl⟩, hS2⟩) ?_
  rintro _ D2 As2 ⟨hle2, rfl, hA2⟩
  subst As2
  refine l_nil ?_
  refine e_then ?_
  refine c_seq ?_
  obtain ⟨r3, hr3, hp⟩ := bnd_some hp
  refine c_adr (fun b1 hb1 hl1 hbd1 hcap1 => ?_)
  refine c_region ?_
  refine l_s (.iface 140 (.pointer (some ⟨b_h0, 0, none⟩))) (by kernel_rfl) ?_
  refine l_s (.int .i64 (subI r1 1)) (by kernel_rfl) ?_
  refine l_call rfl rfl Tryz.call108 (vs := [.iface 140 (.pointer (some ⟨b_h0, 0, none⟩)), .int .i64 0, .int .i64 (subI r1 1)]) rfl (fun v D4 As4 => PH.le D2 D4 ∧ v = .bool r3.1 ∧ As4 = pt b_h0 [.slice h0_a h0.length h0_c] 138 :: OwnS D4 encS_road_reached 136 (.slice h0_a h0.length h0_c) r3.2 :: F) (fun w hS => (show Calls Tryz.prog 108 #[.iface 140 (.pointer (some ⟨b_h0, 0, none⟩)), .int .i64 0, .int .i64 (subI r1 1)] w (fun e w' => ∃ (D4 : PH) , PH.le D2 D4 ∧ e = .returned (.bool r3.1) ∧ SInv D4 (pt b_h0 [.slice h0_a h0.length h0_c] 138 :: OwnS D4 encS_road_reached 136 (.slice h0_a h0.length h0_c) r3.2 :: F) w') from by have hq := container_heap_down_s b_h0 r2 h0_a h0_c 0 (subI r1 1) _  _ _ hr3 w (show SInv D2 (pt b_h0 [.slice h0_a r2.length h0_c] 138 :: OwnS D2 encS_road_reached 136 (.slice h0_a r2.length h0_c) r2 :: F) w from by have h2 : SInv D2 (pt b_h0 [.slice h0_a h0.length h0_c] 138 :: OwnS D2 encS_road_reached 136 (.slice h0_a h0.length h0_c) r2 :: F) w := (hS.perm (fr1_perm 0 _)).perm (fr1_perm 1 _); rw [← hl1] at h2; exact h2); (try simp only [hl1] at hq); exact hq).mono fun e w' ⟨D4, hle4, he, hS2⟩ => ⟨_, D4, _, he, ⟨hle4, rfl, rfl⟩, hS2⟩) ?_
  rintro _ D4 As4 ⟨hle4, rfl, hA4⟩
  subst As4
  refine l_nil ?_
  refine e_then ?_
  refine c_seq ?_
  obtain ⟨r4, hr4, hp⟩ := bnd_some hp
  refine c_perm (fr1_perm 1 _) ?_
  refine c_adr (fun b2 hb2 hl2 hbd2 hcap2 => ?_)
  refine c_region ?_
  refine l_s (.iface 140 (.pointer (some ⟨b_h0, 0, none⟩))) (by kernel_rfl) ?_
  refine l_ent rfl (ent_methP (vs := [.pointer (some ⟨b_h0, 0, none⟩)]) rfl (by kernel_rfl) Tryz.underlying140 Tryz.call150 rfl) (fun v D6 As6 => ∃ (a2 : Option Addr) (cp2 : Nat), PH.le D4 D6 ∧ v = .iface 136 (.agg #[.float .f32 r4.1.price, .int .i64 r4.1.k]) ∧ As6 = pt b_h0 [.slice a2 r4.2.length cp2] 138 :: OwnS D6 encS_road_reached 136 (.slice a2 r4.2.length cp2) r4.2 :: F) (fun w hS => (show Calls Tryz.prog 150 #[.pointer (some ⟨b_h0, 0, none⟩)] w (fun e w' => ∃ (D6 : PH) (a2 : Option Addr) (cp2 : Nat), PH.le D4 D6 ∧ e = .returned (.iface 136 (.agg #[.float .f32 r4.1.price, .int .i64 r4.1.k])) ∧ SInv D6 (pt b_h0 [.slice a2 r4.2.length cp2] 138 :: OwnS D6 encS_road_reached 136 (.slice a2 r4.2.length cp2) r4.2 :: F) w') from by have hq := road_queue_Pop_s b_h0 r3.2 h0_a h0_c _  _ _ hr4 w (show SInv D4 (pt b_h0 [.slice h0_a r3.2.length h0_c] 138 :: OwnS D4 encS_road_reached 136 (.slice h0_a r3.2.length h0_c) r3.2 :: F) w from by have h2 : SInv D4 (pt b_h0 [.slice h0_a h0.length h0_c] 138 :: OwnS D4 encS_road_reached 136 (.slice h0_a h0.length h0_c) r3.2 :: F) w := (hS.perm (fr1_perm 0 _)).perm (fr1_perm 1 _); rw [← hl2] at h2; exact h2); (try simp only [hl2] at hq); exact hq).mono fun e w' ⟨D6, a2, cp2, hle6, he, hS2⟩ => ⟨_, D6, _, he, ⟨a2, cp2, hle6, rfl, rfl⟩, hS2⟩) ?_
  rintro _ D6 As6 ⟨a2, cp2, hle6, rfl, hA6⟩
  subst As6
  refine l_s (.iface 136 (.agg #[.float .f32 r4.1.price, .int .i64 r4.1.k])) (by kernel_rfl) ?_
  refine l_nil ?_
  refine e_then ?_
  refine c_ret ?_
  obtain rfl := Option.some.inj hp
  refine e_perm (fr1_perm 1 _) ?_
  refine e_perm (fr1_perm 1 _) ?_
  exact post_all (vs := [.iface 136 (.agg #[.float .f32 r4.1.price, .int .i64 r4.1.k])]) (.iface 136 (.agg #[.float .f32 r4.1.price, .int .i64 r4.1.k])) ⟨rfl, trivial⟩ rfl (.inl rfl) (fun w hS => ⟨D6, a2, cp2, (PH.le_trans (PH.le_trans hle2 hle4) hle6), rfl, hS⟩)

-- (tarnfell/road.ground).beside
set_option maxRecDepth 100000 in
set_option maxHeartbeats 2000000 in
theorem road_ground_beside_s (g0 : S_road_ground) (g0_v1a : Option Addr) (g0_v1c : Nat) (g0_v2a : Option Addr) (g0_v2c : Nat) (k0 : Int) (d0 : Int) (n0 : Int) (D : PH) (g0_h1 : RO (encF .f32) D (.slice g0_v1a g0.f.V.length g0_v1c) g0.f.V) (g0_h2 : RO encS_api_Field D (.slice g0_v2a g0.s.Costly.length g0_v2c) g0.s.Costly) (F : List Assert) (r : Int × Bool) (hp : road_ground_beside_p g0 k0 d0 n0 = some r) : ∀ w : World, SInv D (F) w → Calls Tryz.prog 90 #[.agg #[.int .i64 g0.f.Region.X, .int .i64 g0.f.Region.Y, .int .i64 g0.f.Region.W, .int .i64 g0.f.Region.H, .slice g0_v1a g0.f.V.length g0_v1c, .float .f32 g0.s.Grade, .float .f32 g0.s.Weight, .float .f32 g0.s.Bridge, .float .f32 g0.s.Dear, .int .i64 g0.s.Span, .slice g0_v2a g0.s.Costly.length g0_v2c], .int .i64 k0, .int .i64 d0, .int .i64 n0] w (fun e w' => e = .returned (.tuple #[.int .i64 r.1, .bool r.2]) ∧ SInv D (F) w') := by
  intro w hS
  refine call_intro Tryz.func90 rfl Tryz.ntmps90 (Nat.le_of_ble_eq_true rfl) hS ?_
  clear hS w
  unfold road_ground_beside_p at hp
  refine c_seq ?_
  refine c_region ?_
  refine l_box (cs := [.int .i64 g0.f.Region.X, .int .i64 g0.f.Region.Y, .int .i64 g0.f.Region.W, .int .i64 g0.f.Region.H, .slice g0_v1a g0.f.V.length g0_v1c, .float .f32 g0.s.Grade, .float .f32 g0.s.Weight, .float .f32 g0.s.Bridge, .float .f32 g0.s.Dear, .int .i64 g0.s.Span, .slice g0_v2a g0.s.Costly.length g0_v2c]) rfl rfl (fun b2 => ?_)
  refine l_s (.int .i64 0) (by kernel_rfl) ?_
  refine l_s (.bool false) (by kernel_rfl) ?_
  refine l_nil ?_
  refine e_then ?_
  refine c_seq ?_
  obtain ⟨r1, hr1, hp⟩ := bnd_some hp
  refine c_region ?_
  refine l_s (.int .i64 d0) (by kernel_rfl) ?_
  refine l_callq (v := .agg #[.int .i64 r1.X, .int .i64 r1.Y]) rfl rfl Tryz.call21 (vs := [.int .i64 d0]) rfl (fun w hS => (water_Toward_s d0 _  _ _ hr1 w (hS)).mono fun e w' h => ⟨h.1, h.2⟩) ?_
  refine l_alloc (zs := [.int .i64 0, .int .i64 0]) rfl (by kernel_rfl) (fun b4 => ?_)
  refine l_store (dd := none) (vs := [.int .i64 r1.X, .int .i64 r1.Y]) (cs' := [.int .i64 r1.X, .int .i64 r1.Y]) rfl (by kernel_rfl) (by kernel_rfl) rfl rfl (Nat.le_of_ble_eq_true rfl) rfl rfl ?_
  refine l_nil ?_
  refine e_then ?_
  refine c_seq ?_
  obtain ⟨u1, hu1, hp⟩ := bnd_some hp
  replace hu1 := guardP_some hu1
  obtain ⟨x_1, hx_1, hp⟩ := bnd_some hp
  replace hx_1 := Option.some.inj hx_1
  obtain ⟨y_1, hy_1, hp⟩ := bnd_some hp
  replace hy_1 := Option.some.inj hy_1
  refine c_quiet_draw hmix (by kernel_rfl) ?_
  refine ql_s (.int .i64 k0) (by kernel_rfl) ?_
  refine ql_s (.pointer (some ⟨b2, 0, none⟩)) (by kernel_rfl) ?_
  refine ql_s (.pointer (some ⟨b2, 0, none⟩)) (by kernel_rfl) ?_
  refine ql_s (.pointer (some ⟨b2, 2, none⟩)) (by kernel_rfl) ?_
  refine ql_q rfl (qs_ldpt encV fitv3 rfl 1 rfl (.int .i64 g0.f.Region.W) (Nat.le_of_ble_eq_true rfl) rfl) ?_
  refine ql_q rfl (qs_idiv (r := remI k0 g0.f.Region.W) (by simpa using hu1) rfl rfl rfl) ?_
  refine ql_s (.int .i64 n0) (by kernel_rfl) ?_
  refine ql_s (.pointer (some ⟨b4, 0, none⟩)) (by kernel_rfl) ?_
  refine ql_q rfl (qs_ldpt encV fitv3 rfl 0 rfl (.int .i64 r1.X) (Nat.le_of_ble_eq_true rfl) rfl) ?_
  refine ql_s (.int .i64 (mulI n0 r1.X)) (by kernel_rfl) ?_
  refine ql_s (.int .i64 (addI (remI k0 g0.f.Region.W) (mulI n0 r1.X))) (by kernel_rfl) ?_
  refine ql_s (.int .i64 k0) (by kernel_rfl) ?_
  refine ql_s (.pointer (some ⟨b2, 0, none⟩)) (by kernel_rfl) ?_
  refine ql_s (.pointer (some ⟨b2, 0, none⟩)) (by kernel_rfl) ?_
  refine ql_s (.pointer (some ⟨b2, 2, none⟩)) (by kernel_rfl) ?_
  refine ql_q rfl (qs_ldpt encV fitv3 rfl 1 rfl (.int .i64 g0.f.Region.W) (Nat.le_of_ble_eq_true rfl) rfl) ?_
  refine ql_q rfl (qs_idiv (r := quoI k0 g0.f.Region.W) (by simpa using hu1) rfl rfl rfl) ?_
  refine ql_s (.int .i64 n0) (by kernel_rfl) ?_
  refine ql_s (.pointer (some ⟨b4, 1, none⟩)) (by kernel_rfl) ?_
  refine ql_q rfl (qs_ldpt encV fitv3 rfl 0 rfl (.int .i64 r1.Y) (Nat.le_of_ble_eq_true rfl) rfl) ?_
  refine ql_s (.int .i64 (mulI n0 r1.Y)) (by kernel_rfl) ?_
  refine ql_s (.int .i64 (addI (quoI k0 g0.f.Region.W) (mulI n0 r1.Y))) (by kernel_rfl) ?_
  refine ql_s (.int .i64 x_1) (congrArg (fun z => some (Value.int .i64 z)) hx_1) ?_
  refine ql_s (.int .i64 y_1) (congrArg (fun z => some (Value.int .i64 z)) hy_1) ?_
  refine ql_nil ?_
  refine e_drop ?_
  refine e_then ?_
  refine c_seq ?_
  refine c_seq ?_
  refine c_cutq_end [(4, .pointer (some ⟨b2, 0, none⟩)), (11, .int .i64 x_1), (12, .int .i64 y_1), (58, .bool ((decide (x_1 < 0)) || ((decide (y_1 < 0)) || ((decide (x_1 ≥ g0.f.Region.W)) || (decide (y_1 ≥ g0.f.Region.H))))))] ?_ ?_
  · skip
    refine c_quiet ?_
    refine ql_s (.int .i64 x_1) (by kernel_rfl) ?_
    refine ql_s (.bool (decide (x_1 < 0))) (by kernel_rfl) ?_
    refine ql_s (.bool (decide (x_1 < 0))) (by kernel_rfl) ?_
    refine ql_case 39 (decide (x_1 < 0)) rfl (fun hg1 => ?_) (fun hg1 => ?_)
    · skip
      refine ql_s undef (by kernel_rfl) ?_
      refine ql_s undef (by kernel_rfl) ?_
      refine ql_s (.bool true) (by kernel_rfl) ?_
      refine ql_s (.bool true) (by kernel_rfl) ?_
      refine ql_s undef (by kernel_rfl) ?_
      refine ql_s undef (by kernel_rfl) ?_
      refine ql_s undef (by kernel_rfl) ?_
      refine ql_s undef (by kernel_rfl) ?_
      refine ql_s undef (by kernel_rfl) ?_
      refine ql_s undef (by kernel_rfl) ?_
      refine ql_s (.bool true) (by kernel_rfl) ?_
      refine ql_s (.bool true) (by kernel_rfl) ?_
      refine ql_s undef (by kernel_rfl) ?_
      refine ql_s undef (by kernel_rfl) ?_
      refine ql_s undef (by kernel_rfl) ?_
      refine ql_s undef (by kernel_rfl) ?_
      refine ql_s undef (by kernel_rfl) ?_
      refine ql_s undef (by kernel_rfl) ?_
      refine ql_s (.bool true) (by kernel_rfl) ?_
      refine ql_nil (e_cutq ?_)
      exact ⟨rfl, rfl, rfl, (congrArg Value.bool (by first | rfl | (rw [hg1]; rfl) | simp [hg1])), trivial⟩
    · skip
      refine ql_s (.int .i64 y_1) (by kernel_rfl) ?_
      refine ql_s (.bool (decide (y_1 < 0))) (by kernel_rfl) ?_
      refine ql_s (.bool (decide (y_1 < 0))) (by kernel_rfl) ?_
      refine ql_s (.bool (decide (y_1 < 0))) (by kernel_rfl) ?_
      refine ql_case 43 (decide (y_1 < 0)) rfl (fun hg2 => ?_) (fun hg2 => ?_)
      · skip
        refine ql_s undef (by kernel_rfl) ?_
        refine ql_s undef (by kernel_rfl) ?_
        refine ql_s undef (by kernel_rfl) ?_
        refine ql_s undef (by kernel_rfl) ?_
        refine ql_s undef (by kernel_rfl) ?_
        refine ql_s undef (by kernel_rfl) ?_
        refine ql_s (.bool true) (by kernel_rfl) ?_
        refine ql_s (.bool true) (by kernel_rfl) ?_
        refine ql_s undef (by kernel_rfl) ?_
        refine ql_s undef (by kernel_rfl) ?_
        refine ql_s undef (by kernel_rfl) ?_
        refine ql_s undef (by kernel_rfl) ?_
        refine ql_s undef (by kernel_rfl) ?_
        refine ql_s undef (by kernel_rfl) ?_
        refine ql_s (.bool true) (by kernel_rfl) ?_
        refine ql_nil (e_cutq ?_)
        exact ⟨rfl, rfl, rfl, (congrArg Value.bool (by first | rfl | (rw [hg1, hg2]; rfl) | simp [hg1, hg2])), trivial⟩
      · skip
        refine ql_s (.int .i64 x_1) (by kernel_rfl) ?_
        refine ql_s (.pointer (some ⟨b2, 0, none⟩)) (by kernel_rfl) ?_
        refine ql_s (.pointer (some ⟨b2, 0, none⟩)) (by kernel_rfl) ?_
        refine ql_s (.pointer (some ⟨b2, 2, none⟩)) (by kernel_rfl) ?_
        refine ql_q rfl (qs_ldpt encV fitv3 rfl 0 rfl (.int .i64 g0.f.Region.W) (Nat.le_of_ble_eq_true rfl) rfl) ?_
        refine ql_s (.bool (decide (x_1 ≥ g0.f.Region.W))) (by kernel_rfl) ?_
        refine ql_s (.bool (decide (x_1 ≥ g0.f.Region.W))) (by kernel_rfl) ?_
        refine ql_s (.bool (decide (x_1 ≥ g0.f.Region.W))) (by kernel_rfl) ?_
        refine ql_case 51 (decide (x_1 ≥ g0.f.Region.W)) rfl (fun hg3 => ?_) (fun hg3 => ?_)
        · skip
          refine ql_s undef (by kernel_rfl) ?_
          refine ql_s undef (by kernel_rfl) ?_
          refine ql_s undef (by kernel_rfl) ?_
          refine ql_s undef (by kernel_rfl) ?_
          refine ql_s undef (by kernel_rfl) ?_
          refine ql_s undef (by kernel_rfl) ?_
          refine ql_s (.bool true) (by kernel_rfl) ?_
          refine ql_nil (e_cutq ?_)
          exact ⟨rfl, rfl, rfl, (congrArg Value.bool (by first | rfl | (rw [hg1, hg2, hg3]; rfl) | simp [hg1, hg2, hg3])), trivial⟩
        · skip
          refine ql_s (.int .i64 y_1) (by kernel_rfl) ?_
          refine ql_s (.pointer (some ⟨b2, 0, none⟩)) (by kernel_rfl) ?_
          refine ql_s (.pointer (some ⟨b2, 0, none⟩)) (by kernel_rfl) ?_
          refine ql_s (.pointer (some ⟨b2, 3, none⟩)) (by kernel_rfl) ?_
          refine ql_q rfl (qs_ldpt encV fitv3 rfl 0 rfl (.int .i64 g0.f.Region.H) (Nat.le_of_ble_eq_true rfl) rfl) ?_
          refine ql_s (.bool (decide (y_1 ≥ g0.f.Region.H))) (by kernel_rfl) ?_
          refine ql_s (.bool (decide (y_1 ≥ g0.f.Region.H))) (by kernel_rfl) ?_
          refine ql_nil (e_cutq ?_)
          exact ⟨rfl, rfl, rfl, (congrArg Value.bool (by first | rfl | (rw [hg1, hg2, hg3]; rfl) | simp [hg1, hg2, hg3])), trivial⟩
  intro _
  refine e_then ?_
  refine c_cond (((decide (x_1 < 0)) || ((decide (y_1 < 0)) || ((decide (x_1 ≥ g0.f.Region.W)) || (decide (y_1 ≥ g0.f.Region.H)))))) rfl (fun ht1 => ?_) (fun ht1 => ?_)
  · skip
    replace hp := if_t ht1 hp
    refine c_seq ?_
    refine c_quiet ?_
    refine ql_s (.int .i64 0) (by kernel_rfl) ?_
    refine ql_s (.bool false) (by kernel_rfl) ?_
    refine ql_nil ?_
    refine e_drop ?_
    refine e_then ?_
    refine c_ret ?_
    refine e_then_ret ?_
    obtain rfl := Option.some.inj hp
    exact post_all (vs := [.int .i64 0, .bool false]) (.tuple #[.int .i64 0, .bool false]) ⟨rfl, rfl, trivial⟩ rfl (.inl rfl) (fun w hS => ⟨rfl, hS⟩)
  · skip
    replace hp := if_f ht1 hp
    refine c_skip ?_
    refine e_then ?_
    refine c_seq ?_
    refine c_quiet ?_
    refine ql_s (.int .i64 y_1) (by kernel_rfl) ?_
    refine ql_s (.pointer (some ⟨b2, 0, none⟩)) (by kernel_rfl) ?_
    refine ql_s (.pointer (some ⟨b2, 0, none⟩)) (by kernel_rfl) ?_
    refine ql_s (.pointer (some ⟨b2, 2, none⟩)) (by kernel_rfl) ?_
    refine ql_q rfl (qs_ldpt encV fitv3 rfl 0 rfl (.int .i64 g0.f.Region.W) (Nat.le_of_ble_eq_true rfl) rfl) ?_
    refine ql_s (.int .i64 (mulI y_1 g0.f.Region.W)) (by kernel_rfl) ?_
    refine ql_s (.int .i64 x_1) (by kernel_rfl) ?_
    refine ql_s (.int .i64 (addI (mulI y_1 g0.f.Region.W) x_1)) (by kernel_rfl) ?_
    refine ql_s (.int .i64 (addI (mulI y_1 g0.f.Region.W) x_1)) (by kernel_rfl) ?_
    refine ql_s (.bool true) (by kernel_rfl) ?_
    refine ql_nil ?_
    refine e_drop ?_
    refine e_then ?_
    refine c_ret ?_
    obtain rfl := Option.some.inj hp
    exact post_all (vs := [.int .i64 (addI (mulI y_1 g0.f.Region.W) x_1), .bool true]) (.tuple #[.int .i64 (addI (mulI y_1 g0.f.Region.W) x_1), .bool true]) ⟨rfl, rfl, trivial⟩ rfl (.inl rfl) (fun w hS => ⟨rfl, hS⟩)

-- tarnfell/water.StepLength
set_option maxRecDepth 100000 in
set_option maxHeartbeats 2000000 in
theorem water_StepLength_s (d0 : Int) (D : PH)  (F : List Assert) (r : Nat) (hp : water_StepLength_p d0 = some r) : ∀ w : World, SInv D (F) w → Calls Tryz.prog 68 #[.int .i64 d0] w (fun e w' => e = .returned (.float .f32 r) ∧ SInv D (F) w') := by
  intro w hS
  refine call_intro Tryz.func68 rfl Tryz.ntmps68 (Nat.le_of_ble_eq_true rfl) hS ?_
  clear hS w
  unfold water_StepLength_p at hp
  refine c_seq ?_
  refine c_quiet ?_
  refine ql_s (.float .f32 0) (by kernel_rfl) ?_
  refine ql_nil ?_
  refine e_then ?_
  refine c_seq ?_
  refine c_seq ?_
  refine c_quiet ?_
  refine ql_s (.int .i64 d0) (by kernel_rfl) ?_
  refine ql_q rfl (qs_idiv (r := remI d0 2) (by decide) rfl rfl rfl) ?_
  refine ql_s (.bool ((remI d0 2) == 1)) (by kernel_rfl) ?_
  refine ql_nil ?_
  refine e_then ?_
  refine c_cond (((remI d0 2) == 1)) rfl (fun ht1 => ?_) (fun ht1 => ?_)
  · skip
    replace hp := if_t ht1 hp
    refine c_seq ?_
    refine c_quiet ?_
    refine ql_s (.float .f32 1068827891) (by kernel_rfl) ?_
    refine ql_nil ?_
    refine e_then ?_
    refine c_ret ?_
    refine e_then_ret ?_
    obtain rfl := Option.some.inj hp
    exact post_all (vs := [.float .f32 1068827891]) (.float .f32 1068827891) ⟨rfl, trivial⟩ rfl (.inl rfl) (fun w hS => ⟨rfl, hS⟩)
  · skip
    replace hp := if_f ht1 hp
    refine c_skip ?_
    refine e_then ?_
    refine c_seq ?_
    refine c_quiet ?_
    refine ql_s (.float .f32 1065353216) (by kernel_rfl) ?_
    refine ql_nil ?_
    refine e_then ?_
    refine c_ret ?_
    obtain rfl := Option.some.inj hp
    exact post_all (vs := [.float .f32 1065353216]) (.float .f32 1065353216) ⟨rfl, trivial⟩ rfl (.inl rfl) (fun w hS => ⟨rfl, hS⟩)

-- tarnfell/road.length
set_option maxRecDepth 100000 in
set_option maxHeartbeats 2000000 in
theorem road_length_s (d0 : Int) (n0 : Int) (D : PH)  (F : List Assert) (r : Nat) (hp : road_length_p d0 n0 = some r) : ∀ w : World, SInv D (F) w → Calls Tryz.prog 49 #[.int .i64 d0, .int .i64 n0] w (fun e w' => e = .returned (.float .f32 r) ∧ SInv D (F) w') := by
  intro w hS
  refine call_intro Tryz.func49 rfl Tryz.ntmps49 (Nat.le_of_ble_eq_true rfl) hS ?_
  clear hS w
  unfold road_length_p at hp
  refine c_seq ?_
  refine c_quiet ?_
  refine ql_s (.float .f32 0) (by kernel_rfl) ?_
  refine ql_nil ?_
  refine e_then ?_
  refine c_seq ?_
  refine c_seq ?_
  refine c_quiet ?_
  refine ql_s (.int .i64 n0) (by kernel_rfl) ?_
  refine ql_s (.bool (n0 == 1)) (by kernel_rfl) ?_
  refine ql_nil ?_
  refine e_then ?_
  refine c_cond ((n0 == 1)) rfl (fun ht1 => ?_) (fun ht1 => ?_)
  · skip
    replace hp := if_t ht1 hp
    refine c_seq ?_
    obtain ⟨r1, hr1, hp⟩ := bnd_some hp
    refine c_quiet ?_
    refine ql_s (.int .i64 d0) (by kernel_rfl) ?_
    refine ql_call (v := .float .f32 r1) rfl (run_call (vs := [.int .i64 d0]) rfl Tryz.call68 rfl) (fun w hS => (water_StepLength_s d0 _  _ _ hr1 w (hS)).mono fun e w' h => ⟨h.1, h.2⟩) ?_
    refine ql_s (.float .f32 r1) (by kernel_rfl) ?_
    refine ql_nil ?_
    refine e_then ?_
    refine c_ret ?_
    refine e_then_ret ?_
    obtain rfl := Option.some.inj hp
    exact post_all (vs := [.float .f32 r1]) (.float .f32 r1) ⟨rfl, trivial⟩ rfl (.inl rfl) (fun w hS => ⟨rfl, hS⟩)
  · skip
    replace hp := if_f ht1 hp
    refine c_skip ?_
    refine e_then ?_
    refine c_seq ?_
    obtain ⟨r2, hr2, hp⟩ := bnd_some hp
    obtain ⟨r3, hr3, hp⟩ := bnd_some hp
    refine c_quiet ?_
    refine ql_s (.int .i64 n0) (by kernel_rfl) ?_
    refine ql_s (.float .f32 (fofI .f32 n0)) (by kernel_rfl) ?_
    refine ql_s (.int .i64 d0) (by kernel_rfl) ?_
    refine ql_call (v := .float .f32 r2) rfl (run_call (vs := [.int .i64 d0]) rfl Tryz.call68 rfl) (fun w hS => (water_StepLength_s d0 _  _ _ hr2 w (hS)).mono fun e w' h => ⟨h.1, h.2⟩) ?_
    refine ql_q rfl (qs_fop hr3 rfl rfl) ?_
    refine ql_s (.float .f32 r3) (by kernel_rfl) ?_
    refine ql_nil ?_
    refine e_then ?_
    refine c_ret ?_
    obtain rfl := Option.some.inj hp
    exact post_all (vs := [.float .f32 r3]) (.float .f32 r3) ⟨rfl, trivial⟩ rfl (.inl rfl) (fun w hS => ⟨rfl, hS⟩)

-- math.Abs
set_option maxRecDepth 100000 in
set_option maxHeartbeats 2000000 in
theorem math_Abs_s (x0 : Nat) (D : PH)  (F : List Assert) (r : Nat) (hp : math_Abs_p x0 = some r) : ∀ w : World, SInv D (F) w → Calls Tryz.prog 124 #[.float .f64 x0] w (fun e w' => e = .returned (.float .f64 r) ∧ SInv D (F) w') := by
  intro w hS
  refine call_intro Tryz.func124 rfl Tryz.ntmps124 (Nat.le_of_ble_eq_true rfl) hS ?_
  clear hS w
  unfold math_Abs_p at hp
  refine c_seq ?_
  refine c_quiet ?_
  refine ql_s (.float .f64 0) (by kernel_rfl) ?_
  refine ql_nil ?_
  refine e_then ?_
  refine c_seq ?_
  refine c_quiet ?_
  refine ql_s (.float .f64 x0) (by kernel_rfl) ?_
  refine ql_q rfl (qs_extern Tryz.func126 rfl rfl (by kernel_rfl) ext126 (vs := [.float .f64 x0]) rfl (fun w => rfl)) ?_
  refine ql_q rfl (qs_bits (.inr (.inr (.inr rfl))) rfl rfl) ?_
  refine ql_q rfl (qs_extern Tryz.func125 rfl rfl (by kernel_rfl) ext125 (vs := [.int .u64 (bitsI .andNot .u64 (x0 : Int) 9223372036854775808)]) rfl (fun w => rfl)) ?_
  refine ql_s (.float .f64 ((bitsI .andNot .u64 (x0 : Int) 9223372036854775808).toNat)) (by kernel_rfl) ?_
  refine ql_nil ?_
  refine e_then ?_
  refine c_ret ?_
  obtain rfl := Option.some.inj hp
  exact post_all (vs := [.float .f64 ((bitsI .andNot .u64 (x0 : Int) 9223372036854775808).toNat)]) (.float .f64 ((bitsI .andNot .u64 (x0 : Int) 9223372036854775808).toNat)) ⟨rfl, trivial⟩ rfl (.inl rfl) (fun w hS => ⟨rfl, hS⟩)

-- tarnfell/noise.Magnitude
set_option maxRecDepth 100000 in
set_option maxHeartbeats 2000000 in
theorem noise_Magnitude_s (v0 : Nat) (D : PH)  (F : List Assert) (r : Nat) (hp : noise_Magnitude_p v0 = some r) : ∀ w : World, SInv D (F) w → Calls Tryz.prog 123 #[.float .f32 v0] w (fun e w' => e = .returned (.float .f32 r) ∧ SInv D (F) w') := by
  intro w hS
  refine call_intro Tryz.func123 rfl Tryz.ntmps123 (Nat.le_of_ble_eq_true rfl) hS ?_
  clear hS w
  unfold noise_Magnitude_p at hp
  refine c_seq ?_
  refine c_quiet ?_
  refine ql_s (.float .f32 0) (by kernel_rfl) ?_
  refine ql_nil ?_
  refine e_then ?_
  refine c_seq ?_
  obtain ⟨r1, hr1, hp⟩ := bnd_some hp
  obtain ⟨r2, hr2, hp⟩ := bnd_some hp
  obtain ⟨r3, hr3, hp⟩ := bnd_some hp
  refine c_quiet ?_
  refine ql_s (.float .f32 v0) (by kernel_rfl) ?_
  refine ql_q rfl (qs_fconv Tryz.underlying35 Tryz.underlying119 rfl hr1) ?_
  refine ql_call (v := .float .f64 r2) rfl (run_call (vs := [.float .f64 r1]) rfl Tryz.call124 rfl) (fun w hS => (math_Abs_s r1 _  _ _ hr2 w (hS)).mono fun e w' h => ⟨h.1, h.2⟩) ?_
  refine ql_q rfl (qs_fconv Tryz.underlying119 Tryz.underlying35 rfl hr3) ?_
  refine ql_s (.float .f32 r3) (by kernel_rfl) ?_
  refine ql_nil ?_
  refine e_then ?_
  refine c_ret ?_
  obtain rfl := Option.some.inj hp
  exact post_all (vs := [.float .f32 r3]) (.float .f32 r3) ⟨rfl, trivial⟩ rfl (.inl rfl) (fun w hS => ⟨rfl, hS⟩)

-- tarnfell/road.grade
set_option maxRecDepth 100000 in
set_option maxHeartbeats 2000000 in
theorem road_grade_s (a0 : Nat) (b0 : Nat) (long0 : Nat) (D : PH)  (F : List Assert) (r : Nat) (hp : road_grade_p a0 b0 long0 = some r) : ∀ w : World, SInv D (F) w → Calls Tryz.prog 120 #[.float .f32 a0, .float .f32 b0, .float .f32 long0] w (fun e w' => e = .returned (.float .f32 r) ∧ SInv D (F) w') := by
  intro w hS
  refine call_intro Tryz.func120 rfl Tryz.ntmps120 (Nat.le_of_ble_eq_true rfl) hS ?_
  clear hS w
  unfold road_grade_p at hp
  refine c_seq ?_
  refine c_quiet ?_
  refine ql_s (.float .f32 0) (by kernel_rfl) ?_
  refine ql_nil ?_
  refine e_then ?_
  refine c_seq ?_
  obtain ⟨r1, hr1, hp⟩ := bnd_some hp
  obtain ⟨r2, hr2, hp⟩ := bnd_some hp
  obtain ⟨r3, hr3, hp⟩ := bnd_some hp
  refine c_quiet ?_
  refine ql_s (.float .f32 b0) (by kernel_rfl) ?_
  refine ql_s (.float .f32 a0) (by kernel_rfl) ?_
  refine ql_q rfl (qs_fop hr1 rfl rfl) ?_
  refine ql_call (v := .float .f32 r2) rfl (run_call (vs := [.float .f32 r1]) rfl Tryz.call123 rfl) (fun w hS => (noise_Magnitude_s r1 _  _ _ hr2 w (hS)).mono fun e w' h => ⟨h.1, h.2⟩) ?_
  refine ql_s (.float .f32 long0) (by kernel_rfl) ?_
  refine ql_q rfl (qs_fop hr3 rfl rfl) ?_
  refine ql_s (.float .f32 r3) (by kernel_rfl) ?_
  refine ql_nil ?_
  refine e_then ?_
  refine c_ret ?_
  obtain rfl := Option.some.inj hp
  exact post_all (vs := [.float .f32 r3]) (.float .f32 r3) ⟨rfl, trivial⟩ rfl (.inl rfl) (fun w hS => ⟨rfl, hS⟩)

-- (tarnfell/road.ground).cost
set_option maxRecDepth 100000 in
set_option maxHeartbeats 2000000 in
theorem road_ground_cost_s (g0 : S_road_ground) (g0_v1a : Option Addr) (g0_v1c : Nat) (g0_v2a : Option Addr) (g0_v2c : Nat) (from0 : Int) (to0 : Int) (d0 : Int) (n0 : Int) (top0 : Nat) (D : PH) (g0_h1 : RO (encF .f32) D (.slice g0_v1a g0.f.V.length g0_v1c) g0.f.V) (g0_h2 : RO encS_api_Field D (.slice g0_v2a g0.s.Costly.length g0_v2c) g0.s.Costly) (F : List Assert) (r : Nat × Bool) (hp : road_ground_cost_p g0 from0 to0 d0 n0 top0 = some r) : ∀ w : World, SInv D (F) w → Calls Tryz.prog 109 #[.agg #[.int .i64 g0.f.Region.X, .int .i64 g0.f.Region.Y, .int .i64 g0.f.Region.W, .int .i64 g0.f.Region.H, .slice g0_v1a g0.f.V.length g0_v1c, .float .f32 g0.s.Grade, .float .f32 g0.s.Weight, .float .f32 g0.s.Bridge, .float .f32 g0.s.Dear, .int .i64 g0.s.Span, .slice g0_v2a g0.s.Costly.length g0_v2c], .int .i64 from0, .int .i64 to0, .int .i64 d0, .int .i64 n0, .float .f32 top0] w (fun e w' => e = .returned (.tuple #[.float .f32 r.1, .bool r.2]) ∧ SInv D (F) w') := by
  intro w hS
  refine call_intro Tryz.func109 rfl Tryz.ntmps109 (Nat.le_of_ble_eq_true rfl) hS ?_
  clear hS w
  unfold road_ground_cost_p at hp
  refine c_seq ?_
  refine c_region ?_
  refine l_box (cs := [.int .i64 g0.f.Region.X, .int .i64 g0.f.Region.Y, .int .i64 g0.f.Region.W, .int .i64 g0.f.Region.H, .slice g0_v1a g0.f.V.length g0_v1c, .float .f32 g0.s.Grade, .float .f32 g0.s.Weight, .float .f32 g0.s.Bridge, .float .f32 g0.s.Dear, .int .i64 g0.s.Span, .slice g0_v2a g0.s.Costly.length g0_v2c]) rfl rfl (fun b2 => ?_)
  refine l_s (.float .f32 0) (by kernel_rfl) ?_
  refine l_s (.bool false) (by kernel_rfl) ?_
  refine l_nil ?_
  refine e_then ?_
  refine c_seq ?_
  obtain ⟨x1, hx1, hp⟩ := bnd_some hp
  obtain ⟨b3, o1, h1, hq1⟩ := RO.at g0_h1 hx1
  obtain ⟨x2, hx2, hp⟩ := bnd_some hp
  obtain ⟨b4, o2, h2, hq2⟩ := RO.at g0_h1 hx2
  refine c_quiet_draw hmix (by kernel_rfl) ?_
  refine ql_s (.pointer (some ⟨b2, 0, none⟩)) (by kernel_rfl) ?_
  refine ql_s (.pointer (some ⟨b2, 4, none⟩)) (by kernel_rfl) ?_
  refine ql_q rfl (qs_ldpt encV fitv38 rfl 0 rfl (.slice g0_v1a g0.f.V.length g0_v1c) (Nat.le_of_ble_eq_true rfl) rfl) ?_
  refine ql_s (.int .i64 from0) (by kernel_rfl) ?_
  refine ql_q rfl (qs_idx hq1 Tryz.underlying38 fit35 rfl rfl) ?_
  refine ql_q rfl (qs_ldAtV fit35 rfl h1 valF) ?_
  refine ql_s (.pointer (some ⟨b2, 0, none⟩)) (by kernel_rfl) ?_
  refine ql_s (.pointer (some ⟨b2, 4, none⟩)) (by kernel_rfl) ?_
  refine ql_q rfl (qs_ldpt encV fitv38 rfl 0 rfl (.slice g0_v1a g0.f.V.length g0_v1c) (Nat.le_of_ble_eq_true rfl) rfl) ?_
  refine ql_s (.int .i64 to0) (by kernel_rfl) ?_
  refine ql_q rfl (qs_idx hq2 Tryz.underlying38 fit35 rfl rfl) ?_
  refine ql_q rfl (qs_ldAtV fit35 rfl h2 valF) ?_
  refine ql_s (.float .f32 x1) (by kernel_rfl) ?_
  refine ql_s (.float .f32 x2) (by kernel_rfl) ?_
  refine ql_nil ?_
  refine e_then ?_
  refine c_seq ?_
  obtain ⟨r1, hr1, hp⟩ := bnd_some hp
  refine c_quiet ?_
  refine ql_s (.int .i64 d0) (by kernel_rfl) ?_
  refine ql_s (.int .i64 n0) (by kernel_rfl) ?_
  refine ql_call (v := .float .f32 r1) rfl (run_call (vs := [.int .i64 d0, .int .i64 n0]) rfl Tryz.call49 rfl) (fun w hS => (road_length_s d0 n0 _  _ _ hr1 w (hS)).mono fun e w' h => ⟨h.1, h.2⟩) ?_
  refine ql_s (.float .f32 r1) (by kernel_rfl) ?_
  refine ql_nil ?_
  refine e_then ?_
  refine c_seq ?_
  obtain ⟨r2, hr2, hp⟩ := bnd_some hp
  refine c_quiet ?_
  refine ql_s (.float .f32 x1) (by kernel_rfl) ?_
  refine ql_s (.float .f32 x2) (by kernel_rfl) ?_
  refine ql_s (.float .f32 r1) (by kernel_rfl) ?_
  refine ql_call (v := .float .f32 r2) rfl (run_call (vs := [.float .f32 x1, .float .f32 x2, .float .f32 r1]) rfl Tryz.call120 rfl) (fun w hS => (road_grade_s x1 x2 r1 _  _ _ hr2 w (hS)).mono fun e w' h => ⟨h.1, h.2⟩) ?_
  refine ql_s (.float .f32 r2) (by kernel_rfl) ?_
  refine ql_nil ?_
  refine e_then ?_
  refine c_seq ?_
  refine c_seq ?_
  refine c_quiet ?_
  refine ql_s (.float .f32 r2) (by kernel_rfl) ?_
  refine ql_s (.pointer (some ⟨b2, 5, none⟩)) (by kernel_rfl) ?_
  refine ql_s (.pointer (some ⟨b2, 5, none⟩)) (by kernel_rfl) ?_
  refine ql_q rfl (qs_ldpt encV fitv35 rfl 0 rfl (.float .f32 g0.s.Grade) (Nat.le_of_ble_eq_true rfl) rfl) ?_
  refine ql_s (.bool (fgt .f32 r2 g0.s.Grade)) (by kernel_rfl) ?_
  refine ql_nil ?_
  refine e_then ?_
  refine c_cond (fgt .f32 r2 g0.s.Grade) rfl (fun ht1 => ?_) (fun ht1 => ?_)
  · skip
    replace hp := if_t ht1 hp
    refine c_seq ?_
    refine c_quiet ?_
    refine ql_s (.float .f32 0) (by kernel_rfl) ?_
    refine ql_s (.bool false) (by kernel_rfl) ?_
    refine ql_nil ?_
    refine e_drop ?_
    refine e_then ?_
    refine c_ret ?_
    refine e_then_ret ?_
    obtain rfl := Option.some.inj hp
    exact post_all (vs := [.float .f32 0, .bool false]) (.tuple #[.float .f32 0, .bool false]) ⟨rfl, rfl, trivial⟩ rfl (.inl rfl) (fun w hS => ⟨rfl, hS⟩)
  · skip
    replace hp := if_f ht1 hp
    refine c_skip ?_
    refine e_then ?_
    refine c_seq ?_
    refine c_seq ?_
    refine c_quiet ?_
    refine ql_s (.int .i64 n0) (by kernel_rfl) ?_
    refine ql_s (.bool (decide (n0 > 1))) (by kernel_rfl) ?_
    refine ql_nil ?_
    refine e_then ?_
    refine c_cond (decide (n0 > 1)) rfl (fun ht2 => ?_) (fun ht2 => ?_)
    · skip
      replace hp := if_t ht2 hp
      refine c_seq ?_
      obtain ⟨c1, hc1, hp⟩ := bnd_some hp
      refine c_cutq_end [(12, .float .f32 c1.1), (13, .bool c1.2)] ?_ ?_
      · skip
        refine c_quiet ?_
        refine ql_s (.float .f32 r1) (by kernel_rfl) ?_
        refine ql_s (.pointer (some ⟨b2, 5, none⟩)) (by kernel_rfl) ?_
        refine ql_s (.pointer (some ⟨b2, 7, none⟩)) (by kernel_rfl) ?_
        refine ql_q rfl (qs_ldpt encV fitv35 rfl 0 rfl (.float .f32 g0.s.Bridge) (Nat.le_of_ble_eq_true rfl) rfl) ?_
        obtain ⟨r3, hr3, hc1⟩ := bnd_some hc1
        refine ql_q rfl (qs_fop hr3 rfl rfl) ?_
        refine ql_s (.pointer (some ⟨b2, 5, none⟩)) (by kernel_rfl) ?_
        refine ql_s (.pointer (some ⟨b2, 8, none⟩)) (by kernel_rfl) ?_
        refine ql_q rfl (qs_ldpt encV fitv35 rfl 0 rfl (.float .f32 g0.s.Dear) (Nat.le_of_ble_eq_true rfl) rfl) ?_
        obtain ⟨r4, hr4, hc1⟩ := bnd_some hc1
        refine ql_q rfl (qs_fop hr4 rfl rfl) ?_
        refine ql_s (.float .f32 top0) (by kernel_rfl) ?_
        refine ql_s (.float .f32 x1) (by kernel_rfl) ?_
        refine ql_s (.bool (flt .f32 top0 x1)) (by kernel_rfl) ?_
        refine ql_s (.bool (flt .f32 top0 x1)) (by kernel_rfl) ?_
        refine ql_case 59 (flt .f32 top0 x1) rfl (fun hg1 => ?_) (fun hg1 => ?_)
        · skip
          replace hc1 := if_t hg1 hc1
          refine ql_s (.float .f32 top0) (by kernel_rfl) ?_
          refine ql_s (.float .f32 x2) (by kernel_rfl) ?_
          refine ql_s (.bool (flt .f32 top0 x2)) (by kernel_rfl) ?_
          refine ql_s (.bool (flt .f32 top0 x2)) (by kernel_rfl) ?_
          refine ql_s (.float .f32 r4) (by kernel_rfl) ?_
          refine ql_s (.bool (flt .f32 top0 x2)) (by kernel_rfl) ?_
          refine ql_nil (e_cutq ?_)
          obtain rfl := Option.some.inj hc1
          exact ⟨rfl, rfl, trivial⟩
        · skip
          replace hc1 := if_f hg1 hc1
          refine ql_s undef (by kernel_rfl) ?_
          refine ql_s undef (by kernel_rfl) ?_
          refine ql_s undef (by kernel_rfl) ?_
          refine ql_s (.bool false) (by kernel_rfl) ?_
          refine ql_s (.float .f32 r4) (by kernel_rfl) ?_
          refine ql_s (.bool false) (by kernel_rfl) ?_
          refine ql_nil (e_cutq ?_)
          obtain rfl := Option.some.inj hc1
          exact ⟨rfl, rfl, trivial⟩
      intro _
      refine e_then ?_
      refine c_ret ?_
      refine e_then_ret ?_
      obtain rfl := Option.some.inj hp
      exact post_all (vs := [.float .f32 c1.1, .bool c1.2]) (.tuple #[.float .f32 c1.1, .bool c1.2]) ⟨rfl, rfl, trivial⟩ rfl (.inl rfl) (fun w hS => ⟨rfl, hS.tail⟩)
    · skip
      replace hp := if_f ht2 hp
      refine c_skip ?_
      refine e_then ?_
      refine c_seq ?_
      obtain ⟨r5, hr5, hp⟩ := bnd_some hp
      obtain ⟨r6, hr6, hp⟩ := bnd_some hp
      obtain ⟨r7, hr7, hp⟩ := bnd_some hp
      obtain ⟨r8, hr8, hp⟩ := bnd_some hp
      refine c_quiet ?_
      refine ql_s (.float .f32 r1) (by kernel_rfl) ?_
      refine ql_s (.pointer (some ⟨b2, 5, none⟩)) (by kernel_rfl) ?_
      refine ql_s (.pointer (some ⟨b2, 6, none⟩)) (by kernel_rfl) ?_
      refine ql_q rfl (qs_ldpt encV fitv35 rfl 0 rfl (.float .f32 g0.s.Weight) (Nat.le_of_ble_eq_true rfl) rfl) ?_
      refine ql_s (.float .f32 r2) (by kernel_rfl) ?_
      refine ql_q rfl (qs_fop hr5 rfl rfl) ?_
      refine ql_s (.float .f32 r2) (by kernel_rfl) ?_
      refine ql_q rfl (qs_fop hr6 rfl rfl) ?_
      refine ql_q rfl (qs_fop hr7 rfl rfl) ?_
      refine ql_q rfl (qs_fop hr8 rfl rfl) ?_
      refine ql_s (.float .f32 r8) (by kernel_rfl) ?_
      refine ql_nil ?_
      refine e_then ?_
      refine c_seq ?_
      refine c_seq ?_
      refine c_quiet ?_
      refine ql_s (.pointer (some ⟨b2, 5, none⟩)) (by kernel_rfl) ?_
      refine ql_s (.pointer (some ⟨b2, 10, none⟩)) (by kernel_rfl) ?_
      refine ql_q rfl (qs_ldpt encV fitv64 rfl 0 rfl (.slice g0_v2a g0.s.Costly.length g0_v2c) (Nat.le_of_ble_eq_true rfl) rfl) ?_
      refine ql_s (.int .i64 (g0.s.Costly.length : Int)) (by kernel_rfl) ?_
      refine ql_s (.int .i64 0) (by kernel_rfl) ?_
      refine ql_nil ?_
      refine e_drop ?_
      refine e_then ?_
      have hb0 : (g0.s.Costly.length : Int) ≤ 4611686018427387904 := by have := RO.bound g0_h2; omega
      have hm0 : g0.s.Costly.length = (g0.s.Costly.length : Int).toNat := by omega
      have hm1 := hm0; have hb1 := hb0; clear hm0 hb0
      obtain ⟨x3, hs1, hp⟩ := bnd_some hp
      obtain ⟨body1, hbody1, hs1⟩ := forS_gen hs1
      refine c_cut_end (fun φ1 D1 As1 => Is φ1 [(18, .float .f32 x3)] ∧ PH.le D D1 ∧ As1 = F) ?_ ?_
      · skip
        refine c_block ?_
        refine c_loop (fun k φ1 D2 As1 => ∃ (j1 i1 : Nat) (s1 : Nat), k = j1 + 1 ∧ i1 + j1 = g0.s.Costly.length ∧ Is φ1 [(2, .int .i64 to0), (18, .float .f32 s1), (76, .slice g0_v2a g0.s.Costly.length g0_v2c), (77, .int .i64 (g0.s.Costly.length : Int)), (78, .int .i64 (i1 : Int))] ∧ PH.le D D2 ∧ As1 = F ∧ forS body1 j1 i1 s1 = some x3) ⟨g0.s.Costly.length + 1, g0.s.Costly.length, 0, r8, rfl, Nat.zero_add _, ⟨rfl, rfl, rfl, rfl, rfl, trivial⟩, (PH.le_refl _), rfl, hs1⟩ ?_ ?_
        · rintro _ _ _ ⟨_, _, _, h0, _⟩; omega
        intro k1
        rintro φ1 D2 As1 ⟨j1, i1, s1, hk1, hij1, hI1, hD1, hA1, hs2⟩
        subst As1
        replace g0_h2 := g0_h2.mono hD1
        replace g0_h1 := g0_h1.mono hD1
        refine c_frame _ hI1 ?_
        obtain rfl : k1 = j1 := by omega
        clear hk1
        rcases k1 with _ | j1
        · skip
          refine c_seq ?_
          refine c_quiet ?_
          refine ql_s (.bool (decide ((i1 : Int) < (g0.s.Costly.length : Int)))) (by kernel_rfl) ?_
          refine ql_nil ?_
          refine e_then ?_
          refine c_seq ?_
          refine c_cond (decide ((i1 : Int) < (g0.s.Costly.length : Int))) rfl (fun ht3 => absurd ((dec_lt_f hm1 (by omega)).symm.trans ht3) (by simp)) (fun _ => ?_)
          refine c_exit ?_
          refine e_then_exit ?_
          refine e_then_exit ?_
          obtain rfl := Option.some.inj hs2
          refine e_blk_exit ?_
          exact e_cut ⟨⟨rfl, trivial⟩, hD1, rfl⟩
        · skip
          obtain ⟨y1, hx3, hs2⟩ := forS_some hs2
          replace hx3 := (congrFun (congrFun hbody1 i1) s1).trans hx3
          refine c_seq ?_
          refine c_quiet ?_
          refine ql_s (.bool (decide ((i1 : Int) < (g0.s.Costly.length : Int)))) (by kernel_rfl) ?_
          refine ql_nil ?_
          refine e_then ?_
          refine c_seq ?_
          refine c_cond (decide ((i1 : Int) < (g0.s.Costly.length : Int))) rfl (fun _ => ?_) (fun ht4 => absurd ((dec_lt_t hm1 (by omega)).symm.trans ht4) (by simp))
          refine c_skip ?_
          refine e_then ?_
          refine c_seq ?_
          refine c_block ?_
          refine c_seq ?_
          obtain ⟨x4, hx4, hx3⟩ := bnd_some hx3
          obtain ⟨b5, o3, h3, hq3⟩ := RO.at g0_h2 hx4
          obtain ⟨cs1, hc2, ha1⟩ := h3.cells
          obtain ⟨v1, rfl, h4⟩ := hc2
          obtain ⟨a1, cp1, rfl⟩ := RO.len h4
          refine c_region ?_
          refine l_q rfl (qs_idx hq3 Tryz.underlying64 fit61 rfl rfl) ?_
          refine l_q rfl (qs_ldC fit61 rfl ha1 rfl (.agg #[.int .i64 x4.Region.X, .int .i64 x4.Region.Y, .int .i64 x4.Region.W, .int .i64 x4.Region.H, .slice a1 x4.V.length cp1]) rfl) ?_
          refine l_alloc (zs := [.int .i64 0, .int .i64 0, .int .i64 0, .int .i64 0, .slice none 0 0]) rfl (by kernel_rfl) (fun b7 => ?_)
          refine l_store (dd := none) (vs := [.int .i64 x4.Region.X, .int .i64 x4.Region.Y, .int .i64 x4.Region.W, .int .i64 x4.Region.H, .slice a1 x4.V.length cp1]) (cs' := [.int .i64 x4.Region.X, .int .i64 x4.Region.Y, .int .i64 x4.Region.W, .int .i64 x4.Region.H, .slice a1 x4.V.length cp1]) rfl (by kernel_rfl) (by kernel_rfl) rfl rfl (Nat.le_of_ble_eq_true rfl) rfl rfl ?_
          refine l_nil ?_
          refine e_then ?_
          obtain ⟨x5, hx5, hx3⟩ := bnd_some hx3
          obtain ⟨b8, o4, h5, hq4⟩ := RO.at h4 hx5
          obtain ⟨r9, hr9, hx3⟩ := bnd_some hx3
          obtain ⟨r10, hr10, hx3⟩ := bnd_some hx3
          refine c_quiet ?_
          refine ql_s (.float .f32 s1) (by kernel_rfl) ?_
          refine ql_s (.pointer (some ⟨b7, 4, none⟩)) (by kernel_rfl) ?_
          refine ql_q rfl (qs_ldpt encV fitv38 rfl 0 rfl (.slice a1 x4.V.length cp1) (Nat.le_of_ble_eq_true rfl) rfl) ?_
          refine ql_s (.int .i64 to0) (by kernel_rfl) ?_
          refine ql_q rfl (qs_idx hq4 Tryz.underlying38 fit35 rfl rfl) ?_
          refine ql_q rfl (qs_ldAtV fit35 rfl h5 valF) ?_
          refine ql_q rfl (qs_fop hr9 rfl rfl) ?_
          refine ql_q rfl (qs_fop hr10 rfl rfl) ?_
          refine ql_s (.float .f32 r10) (by kernel_rfl) ?_
          refine ql_nil ?_
          refine e_drop ?_
          refine e_blk ?_
          refine e_then ?_
          refine c_quiet ?_
          refine ql_s (.int .i64 (addI (i1 : Int) 1)) (by kernel_rfl) ?_
          refine ql_s (.int .i64 (addI (i1 : Int) 1)) (by kernel_rfl) ?_
          refine ql_nil ?_
          obtain rfl := Option.some.inj hx3
          exact e_cut ⟨j1, i1 + 1, r10, by omega, by omega, ⟨rfl, rfl, rfl, rfl, (congrArg (Value.int .i64) (addI_succ (by omega))), trivial⟩, hD1, rfl, hs2⟩
      · skip
        rintro φ2 D1 As2 ⟨hI2, hD2, hA2⟩
        subst As2
        replace g0_h1 := g0_h1.mono hD2
        replace g0_h2 := g0_h2.mono hD2
        refine e_frame _ hI2 ?_
        refine e_then ?_
        refine c_seq ?_
        refine c_quiet ?_
        refine ql_s (.float .f32 x3) (by kernel_rfl) ?_
        refine ql_s (.float .f32 x3) (by kernel_rfl) ?_
        refine ql_s (.bool true) (by kernel_rfl) ?_
        refine ql_nil ?_
        refine e_then ?_
        refine c_ret ?_
        obtain rfl := Option.some.inj hp
        exact post_all (vs := [.float .f32 x3, .bool true]) (.tuple #[.float .f32 x3, .bool true]) ⟨rfl, rfl, trivial⟩ rfl (.inl rfl) (fun w hS => ⟨rfl, (hS.lower hD2)⟩)

-- (*tarnfell/road.queue).Push
set_option maxRecDepth 100000 in
set_option maxHeartbeats 2000000 in
theorem road_queue_Push_s (b_q0 : Nat) (q0 : List S_road_reached) (q0_a : Option Addr) (q0_c : Nat) (x0 : S_road_reached) (D : PH)  (F : List Assert) (r : (List S_road_reached)) (hp : road_queue_Push_p q0 x0 = some r) : ∀ w : World, SInv D (pt b_q0 [.slice q0_a q0.length q0_c] 138 :: OwnS D encS_road_reached 136 (.slice q0_a q0.length q0_c) q0 :: F) w → Calls Tryz.prog 151 #[.pointer (some ⟨b_q0, 0, none⟩), .iface 136 (.agg #[.float .f32 x0.price, .int .i64 x0.k])] w (fun e w' => ∃ (D1 : PH) (q_a1 : Option Addr) (q_cp1 : Nat), PH.le D D1 ∧ e = .returned (.tuple #[]) ∧ SInv D1 (pt b_q0 [.slice q_a1 r.length q_cp1] 138 :: OwnS D1 encS_road_reached 136 (.slice q_a1 r.length q_cp1) r :: F) w') := by
  intro w hS
  refine call_intro Tryz.func151 rfl Tryz.ntmps151 (Nat.le_of_ble_eq_true rfl) hS ?_
  clear hS w
  unfold road_queue_Push_p at hp
  obtain ⟨l1, hl1, hp⟩ := bnd_some hp
  refine c_cut_end (fun φ1 D1 As1 => ∃ (a2 : Option Addr) (cp3 : Nat), Is φ1 [] ∧ D = D1 ∧ As1 = pt b_q0 [.slice a2 l1.length cp3] 138 :: OwnS D encS_road_reached 136 (.slice a2 l1.length cp3) l1 :: F) ?_ ?_
  · skip
    refine c_order (B := []) (.q 0 (.q 1 (.q 2 (.q 4 (.q 5 (.f 3 (.e 6 (.e 7 (.q 8 (.e 9 .nil)))) (.e 6 (.e 3 (.e 7 (.q 8 (.e 9 .nil))))))))))) hmix (by kernel_rfl) (NoPanic.then NoPanic.post) ?_
    refine o_s (.pointer (some ⟨b_q0, 0, none⟩)) rfl (by kernel_rfl) ?_
    refine o_s (.pointer (some ⟨b_q0, 0, none⟩)) rfl (by kernel_rfl) ?_
    refine o_s (.pointer (some ⟨b_q0, 0, none⟩)) rfl (by kernel_rfl) ?_
    refine o_s (.iface 136 (.agg #[.float .f32 x0.price, .int .i64 x0.k])) rfl (by kernel_rfl) ?_
    refine o_qs rfl rfl (qs_tyAs Tryz.underlying136 rfl rfl) ?_
    refine o_f ?_ ?_
    · skip
      refine o_qe rfl rfl (PH.le_refl _) (qs_ldpt encV fitv138 rfl 0 rfl (.slice q0_a q0.length q0_c) (Nat.le_of_ble_eq_true rfl) rfl) ?_
      refine o_bslS (cs := [.float .f32 x0.price, .int .i64 x0.k]) (E := 136) (e := encS_road_reached) ([x0] : List S_road_reached) rfl rfl (PH.le_refl _) (by kernel_rfl) rfl rfl (Nat.le_of_ble_eq_true rfl) ⟨rfl, trivial⟩ (fun b2 cp4 => ?_)
      refine o_perm (fr1_perm 2 _) ?_
      refine o_app hl1 rfl rfl (PH.le_refl _) elem138 Tryz.underlying138 rfl rfl rfl (OwnS.src 1 rfl ⟨_, _, rfl⟩) (fun a3 cp5 => ?_)
      refine o_s (.pointer (some ⟨b_q0, 0, none⟩)) rfl (by kernel_rfl) ?_
      refine o_perm (fr1_perm 2 _) ?_
      refine o_store (vs := [.slice a3 l1.length cp5]) (cs' := [.slice a3 l1.length cp5]) rfl rfl (PH.le_refl _) (by kernel_rfl) (by kernel_rfl) rfl rfl (Nat.le_of_ble_eq_true rfl) rfl rfl ?_
      refine o_nil ?_
      refine e_perm (fr1_perm 2 _) ?_
      refine e_drop ?_
      refine e_perm (fr1_perm 1 _) ?_
      refine e_perm (fr1_perm 1 _) ?_
      exact e_cut ⟨a3, cp5, trivial, rfl, rfl⟩
    refine o_bslS (cs := [.float .f32 x0.price, .int .i64 x0.k]) (E := 136) (e := encS_road_reached) ([x0] : List S_road_reached) rfl rfl (PH.le_refl _) (by kernel_rfl) rfl rfl (Nat.le_of_ble_eq_true rfl) ⟨rfl, trivial⟩ (fun b3 cp6 => ?_)
    refine o_qe rfl rfl (PH.le_refl _) (qs_ldpt encV fitv138 rfl 1 rfl (.slice q0_a q0.length q0_c) (Nat.le_of_ble_eq_true rfl) rfl) ?_
    refine o_perm (fr1_perm 2 _) ?_
    refine o_app hl1 rfl rfl (PH.le_refl _) elem138 Tryz.underlying138 rfl rfl rfl (OwnS.src 1 rfl ⟨_, _, rfl⟩) (fun a4 cp7 => ?_)
    refine o_s (.pointer (some ⟨b_q0, 0, none⟩)) rfl (by kernel_rfl) ?_
    refine o_perm (fr1_perm 2 _) ?_
    refine o_store (vs := [.slice a4 l1.length cp7]) (cs' := [.slice a4 l1.length cp7]) rfl rfl (PH.le_refl _) (by kernel_rfl) (by kernel_rfl) rfl rfl (Nat.le_of_ble_eq_true rfl) rfl rfl ?_
    refine o_nil ?_
    refine e_perm (fr1_perm 2 _) ?_
    refine e_drop ?_
    refine e_perm (fr1_perm 1 _) ?_
    refine e_perm (fr1_perm 1 _) ?_
    exact e_cut ⟨a4, cp7, trivial, rfl, rfl⟩
  · skip
    rintro φ1 _ As1 ⟨a2, cp3, hI1, rfl, hA⟩
    subst As1
    refine e_frame _ hI1 ?_
    obtain rfl := Option.some.inj hp
    refine e_perm (fr1_perm 1 _) ?_
    refine e_perm (fr1_perm 1 _) ?_
    exact post_all (vs := []) (.tuple #[]) trivial rfl (.inr rfl) (fun w hS => ⟨D, a2, cp3, (PH.le_refl _), rfl, hS⟩)

-- container/heap.up
set_option maxRecDepth 100000 in
set_option maxHeartbeats 2000000 in
theorem container_heap_up_s (b_h0 : Nat) (h0 : List S_road_reached) (h0_a : Option Addr) (h0_c : Nat) (j0 : Int) (D : PH)  (F : List Assert) (r : (List S_road_reached)) (hp : container_heap_up_p h0 j0 = some r) : ∀ w : World, SInv D (pt b_h0 [.slice h0_a h0.length h0_c] 138 :: OwnS D encS_road_reached 136 (.slice h0_a h0.length h0_c) h0 :: F) w → Calls Tryz.prog 110 #[.iface 140 (.pointer (some ⟨b_h0, 0, none⟩)), .int .i64 j0] w (fun e w' => ∃ (D1 : PH) , PH.le D D1 ∧ e = .returned (.tuple #[]) ∧ SInv D1 (pt b_h0 [.slice h0_a h0.length h0_c] 138 :: OwnS D1 encS_road_reached 136 (.slice h0_a h0.length h0_c) r :: F) w') := by
  intro w hS
  refine call_intro Tryz.func110 rfl Tryz.ntmps110 (Nat.le_of_ble_eq_true rfl) hS ?_
  clear hS w
  unfold container_heap_up_p at hp
  obtain ⟨x1, hs1, hp⟩ := bnd_some hp
  obtain ⟨body1, hbody1, hs1⟩ := loopP_gen hs1
  refine c_cut_end (fun φ1 D1 As1 => Is φ1 [] ∧ PH.le D D1 ∧ As1 = pt b_h0 [.slice h0_a h0.length h0_c] 138 :: OwnS D1 encS_road_reached 136 (.slice h0_a h0.length h0_c) x1 :: F) ?_ ?_
  · skip
    refine c_block ?_
    refine c_perm (fr1_perm 1 _) ?_
    refine c_perm (fr1_perm 1 _) ?_
    obtain ⟨kz1, hs1⟩ := loopP_ex hs1
    refine c_loop (fun k φ1 D2 As1 => ∃ (s1 : Int × (List S_road_reached)), Is φ1 [(0, .iface 140 (.pointer (some ⟨b_h0, 0, none⟩))), (1, .int .i64 s1.1)] ∧ PH.le D D2 ∧ As1 = pt b_h0 [.slice h0_a h0.length h0_c] 138 :: OwnS D2 encS_road_reached 136 (.slice h0_a h0.length h0_c) s1.2 :: F ∧ iter body1 k s1 = some x1) ⟨kz1, (j0, h0), ⟨rfl, rfl, trivial⟩, (PH.le_refl _), rfl, hs1⟩ ?_ ?_
    · rintro _ _ _ ⟨_, _, _, _, h0⟩; cases h0
    intro k1
    rintro φ1 D2 As1 ⟨s1, hI1, hD1, hA1, hs2⟩
    subst As1
    refine c_frame _ hI1 ?_
    obtain ⟨y1, hx1, hs2⟩ := iter_some hs2
    replace hx1 := (congrFun hbody1 s1).trans hx1
    refine c_block ?_
    refine c_seq ?_
    refine c_quiet ?_
    refine ql_s (.int .i64 s1.1) (by kernel_rfl) ?_
    refine ql_s (.int .i64 (subI s1.1 1)) (by kernel_rfl) ?_
    refine ql_q rfl (qs_idiv (r := quoI (subI s1.1 1) 2) (by decide) rfl rfl rfl) ?_
    refine ql_s (.int .i64 (quoI (subI s1.1 1) 2)) (by kernel_rfl) ?_
    refine ql_nil ?_
    refine e_then ?_
    refine c_seq ?_
    refine c_seq ?_
    refine c_perm (fr1_perm 1 _) ?_
    refine c_adr (fun b1 hb1 hl1 hbd1 hcap1 => ?_)
    obtain ⟨c1, hc1, hx1⟩ := bnd_some hx1
    refine c_cutq_end [(0, .iface 140 (.pointer (some ⟨b_h0, 0, none⟩))), (1, .int .i64 s1.1), (4, .int .i64 (quoI (subI s1.1 1) 2)), (17, .bool c1)] ?_ ?_
    · skip
      refine c_quiet ?_
      refine ql_s (.int .i64 (quoI (subI s1.1 1) 2)) (by kernel_rfl) ?_
      refine ql_s (.int .i64 s1.1) (by kernel_rfl) ?_
      refine ql_s (.bool ((quoI (subI s1.1 1) 2) == s1.1)) (by kernel_rfl) ?_
      refine ql_s (.bool ((quoI (subI s1.1 1) 2) == s1.1)) (by kernel_rfl) ?_
      refine ql_case 11 (((quoI (subI s1.1 1) 2) == s1.1)) rfl (fun hg1 => ?_) (fun hg1 => ?_)
      · skip
        replace hc1 := if_t hg1 hc1
        refine ql_s undef (by kernel_rfl) ?_
        refine ql_s undef (by kernel_rfl) ?_
        refine ql_s undef (by kernel_rfl) ?_
        refine ql_s undef (by kernel_rfl) ?_
        refine ql_s undef (by kernel_rfl) ?_
        refine ql_s (.bool true) (by kernel_rfl) ?_
        refine ql_nil (e_cutq ?_)
        obtain rfl := Option.some.inj hc1
        exact ⟨rfl, rfl, rfl, rfl, trivial⟩
      · skip
        replace hc1 := if_f hg1 hc1
        refine ql_s (.iface 140 (.pointer (some ⟨b_h0, 0, none⟩))) (by kernel_rfl) ?_
        refine ql_s (.int .i64 s1.1) (by kernel_rfl) ?_
        refine ql_s (.int .i64 (quoI (subI s1.1 1) 2)) (by kernel_rfl) ?_
        obtain ⟨r1, hr1, hc1⟩ := bnd_some hc1
        refine ql_ent (v := .bool r1) rfl (ent_methD encV (vs := [.slice h0_a h0.length h0_c, .int .i64 s1.1, .int .i64 (quoI (subI s1.1 1) 2)]) rfl (by kernel_rfl) Tryz.underlying140 Tryz.call148 fitv138 1 rfl (.slice h0_a h0.length h0_c) (Nat.le_of_ble_eq_true rfl) rfl rfl) (fun w hS => (calls_thaw (PH.le_refl _) (hS) (fun D0' hLl0 hLr0 hS => (show Calls Tryz.prog 148 #[.slice h0_a h0.length h0_c, .int .i64 s1.1, .int .i64 (quoI (subI s1.1 1) 2)] w (fun e w' => e = .returned (.bool r1) ∧ SInv D0' (pt b_h0 [.slice h0_a h0.length h0_c] 138 :: F) w') from by have hq := road_queue_Less_s s1.2 h0_a h0_c s1.1 (quoI (subI s1.1 1) 2) _ (by rw [hl1]; exact hLr0) _ _ hr1 w (show SInv D0' (pt b_h0 [.slice h0_a s1.2.length h0_c] 138 :: F) w from by have h2 : SInv D0' (pt b_h0 [.slice h0_a h0.length h0_c] 138 :: F) w := hS; rw [← hl1] at h2; exact h2); (try simp only [hl1] at hq); exact hq).mono fun e w' h => ⟨h.1, h.2⟩)).mono fun e w' h => ⟨h.1, h.2⟩) ?_
        refine ql_s (.bool (!r1)) (by kernel_rfl) ?_
        refine ql_s (.bool (!r1)) (by kernel_rfl) ?_
        refine ql_nil (e_cutq ?_)
        obtain rfl := Option.some.inj hc1
        exact ⟨rfl, rfl, rfl, rfl, trivial⟩
    intro _
    refine e_then ?_
    refine c_cond (c1) rfl (fun ht1 => ?_) (fun ht1 => ?_)
    · skip
      replace hx1 := if_t ht1 hx1
      refine c_exit ?_
      refine e_then_exit ?_
      refine e_blk_other (by decide) ?_
      refine e_then_exit ?_
      obtain rfl := Option.some.inj hx1
      obtain rfl := hs2
      refine e_blk_exit ?_
      refine e_perm (fr1_perm 1 _) ?_
      exact e_cut ⟨trivial, hD1, rfl⟩
    · skip
      replace hx1 := if_f ht1 hx1
      refine c_skip ?_
      refine e_then ?_
      refine c_seq ?_
      obtain ⟨r2, hr2, hx1⟩ := bnd_some hx1
      refine c_region ?_
      refine l_s (.iface 140 (.pointer (some ⟨b_h0, 0, none⟩))) (by kernel_rfl) ?_
      refine l_s (.int .i64 (quoI (subI s1.1 1) 2)) (by kernel_rfl) ?_
      refine l_s (.int .i64 s1.1) (by kernel_rfl) ?_
      refine l_ent rfl (ent_methD encV (vs := [.slice h0_a h0.length h0_c, .int .i64 (quoI (subI s1.1 1) 2), .int .i64 s1.1]) rfl (by kernel_rfl) Tryz.underlying140 Tryz.call149 fitv138 1 rfl (.slice h0_a h0.length h0_c) (Nat.le_of_ble_eq_true rfl) rfl rfl) (fun v D4 As3 => PH.le D2 D4 ∧ v = .tuple #[] ∧ As3 = OwnS D4 encS_road_reached 136 (.slice h0_a h0.length h0_c) r2 :: pt b_h0 [.slice h0_a h0.length h0_c] 138 :: F) (fun w hS => (show Calls Tryz.prog 149 #[.slice h0_a h0.length h0_c, .int .i64 (quoI (subI s1.1 1) 2), .int .i64 s1.1] w (fun e w' => ∃ (D4 : PH) , PH.le D2 D4 ∧ e = .returned (.tuple #[]) ∧ SInv D4 (OwnS D4 encS_road_reached 136 (.slice h0_a h0.length h0_c) r2 :: pt b_h0 [.slice h0_a h0.length h0_c] 138 :: F) w') from by have hq := road_queue_Swap_s s1.2 h0_a h0_c (quoI (subI s1.1 1) 2) s1.1 _  _ _ hr2 w (show SInv D2 (OwnS D2 encS_road_reached 136 (.slice h0_a s1.2.length h0_c) s1.2 :: pt b_h0 [.slice h0_a s1.2.length h0_c] 138 :: F) w from by have h2 : SInv D2 (OwnS D2 encS_road_reached 136 (.slice h0_a h0.length h0_c) s1.2 :: pt b_h0 [.slice h0_a h0.length h0_c] 138 :: F) w := hS; rw [← hl1] at h2; exact h2); (try simp only [hl1] at hq); exact hq).mono fun e w' ⟨D4, hle2, he, hS2⟩ => ⟨_, D4, _, he, ⟨hle2, rfl, rfl⟩, hS2⟩) ?_
      rintro _ D4 As3 ⟨hle2, rfl, hA3⟩
      subst As3
      refine l_nil ?_
      refine e_then ?_
      refine c_quiet ?_
      refine ql_s (.int .i64 (quoI (subI s1.1 1) 2)) (by kernel_rfl) ?_
      refine ql_s (.int .i64 (quoI (subI s1.1 1) 2)) (by kernel_rfl) ?_
      refine ql_nil ?_
      refine e_blk ?_
      refine e_perm (fr1_perm 1 _) ?_
      obtain rfl := Option.some.inj hx1
      exact e_cut ⟨(quoI (subI s1.1 1) 2, r2), ⟨rfl, rfl, trivial⟩, (PH.le_trans hD1 hle2), rfl, hs2⟩
  · skip
    rintro φ2 D1 As4 ⟨hI2, hD2, hA4⟩
    subst As4
    refine e_frame _ hI2 ?_
    obtain rfl := Option.some.inj hp
    refine e_perm (fr1_perm 1 _) ?_
    refine e_perm (fr1_perm 1 _) ?_
    exact post_all (vs := []) (.tuple #[]) trivial rfl (.inr rfl) (fun w hS => ⟨D1, hD2, rfl, hS⟩)

-- container/heap.Push
set_option maxRecDepth 100000 in
set_option maxHeartbeats 2000000 in
theorem container_heap_Push_s (b_h0 : Nat) (h0 : List S_road_reached) (h0_a : Option Addr) (h0_c : Nat) (x0 : S_road_reached) (D : PH)  (F : List Assert) (r : (List S_road_reached)) (hp : container_heap_Push_p h0 x0 = some r) : ∀ w : World, SInv D (pt b_h0 [.slice h0_a h0.length h0_c] 138 :: OwnS D encS_road_reached 136 (.slice h0_a h0.length h0_c) h0 :: F) w → Calls Tryz.prog 88 #[.iface 140 (.pointer (some ⟨b_h0, 0, none⟩)), .iface 136 (.agg #[.float .f32 x0.price, .int .i64 x0.k])] w (fun e w' => ∃ (D1 : PH) (q_a1 : Option Addr) (q_cp1 : Nat), PH.le D D1 ∧ e = .returned (.tuple #[]) ∧ SInv D1 (pt b_h0 [.slice q_a1 r.length q_cp1] 138 :: OwnS D1 encS_road_reached 136 (.slice q_a1 r.length q_cp1) r :: F) w') := by
  intro w hS
  refine call_intro Tryz.func88 rfl Tryz.ntmps88 (Nat.le_of_ble_eq_true rfl) hS ?_
  clear hS w
  unfold container_heap_Push_p at hp
  refine c_seq ?_
  obtain ⟨r1, hr1, hp⟩ := bnd_some hp
  refine c_region ?_
  refine l_s (.iface 140 (.pointer (some ⟨b_h0, 0, none⟩))) (by kernel_rfl) ?_
  refine l_s (.iface 136 (.agg #[.float .f32 x0.price, .int .i64 x0.k])) (by kernel_rfl) ?_
  refine l_ent rfl (ent_methP (vs := [.pointer (some ⟨b_h0, 0, none⟩), .iface 136 (.agg #[.float .f32 x0.price, .int .i64 x0.k])]) rfl (by kernel_rfl) Tryz.underlying140 Tryz.call151 rfl) (fun v D2 As2 => ∃ (a2 : Option Addr) (cp2 : Nat), PH.le D D2 ∧ v = .tuple #[] ∧ As2 = pt b_h0 [.slice a2 r1.length cp2] 138 :: OwnS D2 encS_road_reached 136 (.slice a2 r1.length cp2) r1 :: F) (fun w hS => (road_queue_Push_s b_h0 h0 h0_a h0_c x0 _  _ _ hr1 w (hS)).mono fun e w' ⟨D2, a2, cp2, hle2, he, hS2⟩ => ⟨_, D2, _, he, ⟨a2, cp2, hle2, rfl, rfl⟩, hS2⟩) ?_
  rintro _ D2 As2 ⟨a2, cp2, hle2, rfl, hA2⟩
  subst As2
  refine l_nil ?_
  refine e_then ?_
  obtain ⟨r2, hr2, hp⟩ := bnd_some hp
  obtain ⟨r3, hr3, hp⟩ := bnd_some hp
  refine c_region ?_
  refine l_s (.iface 140 (.pointer (some ⟨b_h0, 0, none⟩))) (by kernel_rfl) ?_
  refine l_s (.iface 140 (.pointer (some ⟨b_h0, 0, none⟩))) (by kernel_rfl) ?_
  refine l_entq (v := .int .i64 r2) rfl (ent_methD encV (vs := [.slice a2 r1.length cp2]) rfl (by kernel_rfl) Tryz.underlying140 Tryz.call147 fitv138 0 rfl (.slice a2 r1.length cp2) (Nat.le_of_ble_eq_true rfl) rfl rfl) (fun w hS => (calls_thaw (PH.le_refl _) (hS.perm (fr1_perm 1 _)) (fun D0' hLl0 hLr0 hS => (road_queue_Len_s r1 a2 cp2 _ hLr0 _ _ hr2 w (hS)).mono fun e w' h => ⟨h.1, h.2⟩)).mono fun e w' h => ⟨h.1, SInv.unfr 1 h.2⟩) ?_
  refine l_s (.int .i64 (subI r2 1)) (by kernel_rfl) ?_
  refine l_call rfl rfl Tryz.call110 (vs := [.iface 140 (.pointer (some ⟨b_h0, 0, none⟩)), .int .i64 (subI r2 1)]) rfl (fun v D4 As4 => PH.le D2 D4 ∧ v = .tuple #[] ∧ As4 = pt b_h0 [.slice a2 r1.length cp2] 138 :: OwnS D4 encS_road_reached 136 (.slice a2 r1.length cp2) r3 :: F) (fun w hS => (container_heap_up_s b_h0 r1 a2 cp2 (subI r2 1) _  _ _ hr3 w (hS)).mono fun e w' ⟨D4, hle4, he, hS2⟩ => ⟨_, D4, _, he, ⟨hle4, rfl, rfl⟩, hS2⟩) ?_
  rintro _ D4 As4 ⟨hle4, rfl, hA4⟩
  subst As4
  refine l_nil ?_
  obtain rfl := Option.some.inj hp
  refine e_perm (fr1_perm 1 _) ?_
  refine e_adr (fun b1 hb1 hl1 hbd1 hcap1 => ?_)
  refine e_perm (fr1_perm 1 _) ?_
  exact post_all (vs := []) (.tuple #[]) trivial rfl (.inr rfl) (fun w hS => ⟨D4, a2, cp2, (PH.le_trans hle2 hle4), (by simp only [hl1]), (by have h2 : SInv D4 (pt b_h0 [.slice a2 r1.length cp2] 138 :: OwnS D4 encS_road_reached 136 (.slice a2 r1.length cp2) r3 :: F) w := hS; simpa only [hl1] using h2)⟩)

-- (tarnfell/road.ground).prices$1
set_option maxRecDepth 100000 in
set_option maxHeartbeats 2000000 in
theorem road_ground_prices_1_s (to0 : Int) (c0 : Nat) (b_p0 : Nat) (p0 : S_road_reached) (b_p00 : Nat) (p00_0 : Int) (p00_1 : List Nat) (p00_1_a : Option Addr) (p00_1_c : Nat) (p00_2 : List Bool) (p00_2_a : Option Addr) (p00_2_c : Nat) (b_p000 : Nat) (p000 : List S_road_reached) (p000_a : Option Addr) (p000_c : Nat) (D : PH)  (F : List Assert) (r : (List Nat) × (List Bool) × (List S_road_reached)) (hp : road_ground_prices_1_p to0 c0 p0 p00_0 p00_1 p00_2 p000 = some r) : ∀ w : World, SInv D (pt b_p0 [.float .f32 p0.price, .int .i64 p0.k] 136 :: pt b_p00 [.int .i64 p00_0, .slice p00_1_a p00_1.length p00_1_c, .slice p00_2_a p00_2.length p00_2_c] 95 :: OwnS D (encF .f32) 35 (.slice p00_1_a p00_1.length p00_1_c) p00_1 :: OwnS D encB 4 (.slice p00_2_a p00_2.length p00_2_c) p00_2 :: pt b_p000 [.slice p000_a p000.length p000_c] 138 :: OwnS D encS_road_reached 136 (.slice p000_a p000.length p000_c) p000 :: F) w → Calls Tryz.prog 87 #[.int .i64 to0, .float .f32 c0, .pointer (some ⟨b_p0, 0, none⟩), .pointer (some ⟨b_p00, 0, none⟩), .pointer (some ⟨b_p000, 0, none⟩)] w (fun e w' => ∃ (D1 : PH) (q_a1 : Option Addr) (q_cp1 : Nat), PH.le D D1 ∧ e = .returned (.tuple #[]) ∧ SInv D1 (pt b_p0 [.float .f32 p0.price, .int .i64 p0.k] 136 :: pt b_p00 [.int .i64 p00_0, .slice p00_1_a p00_1.length p00_1_c, .slice p00_2_a p00_2.length p00_2_c] 95 :: OwnS D1 (encF .f32) 35 (.slice p00_1_a p00_1.length p00_1_c) r.1 :: OwnS D1 encB 4 (.slice p00_2_a p00_2.length p00_2_c) r.2.1 :: pt b_p000 [.slice q_a1 r.2.2.length q_cp1] 138 :: OwnS D1 encS_road_reached 136 (.slice q_a1 r.2.2.length q_cp1) r.2.2 :: F) w') := by
  intro w hS
  refine call_intro Tryz.func87 rfl Tryz.ntmps87 (Nat.le_of_ble_eq_true rfl) hS ?_
  clear hS w
  unfold road_ground_prices_1_p at hp
  refine c_seq ?_
  obtain ⟨r1, hr1, hp⟩ := bnd_some hp
  refine c_quiet ?_
  refine ql_s (.pointer (some ⟨b_p0, 0, none⟩)) (by kernel_rfl) ?_
  refine ql_q rfl (qs_ldpt encV fitv35 rfl 0 rfl (.float .f32 p0.price) (Nat.le_of_ble_eq_true rfl) rfl) ?_
  refine ql_s (.float .f32 c0) (by kernel_rfl) ?_
  refine ql_q rfl (qs_fop hr1 rfl rfl) ?_
  refine ql_s (.float .f32 r1) (by kernel_rfl) ?_
  refine ql_nil ?_
  refine e_then ?_
  refine c_seq ?_
  refine c_perm (fr1_perm 3 _) ?_
  refine c_adr (fun b1 hb1 hl1 hbd1 hcap1 => ?_)
  refine c_perm (fr1_perm 3 _) ?_
  refine c_adr (fun b2 hb2 hl2 hbd2 hcap2 => ?_)
  obtain ⟨c1, hc1, hp⟩ := bnd_some hp
  refine c_cutq_end [(0, .int .i64 to0), (3, .pointer (some ⟨b_p00, 0, none⟩)), (4, .pointer (some ⟨b_p000, 0, none⟩)), (7, .float .f32 r1), (26, .bool c1)] ?_ ?_
  · skip
    refine c_quiet ?_
    refine ql_s (.pointer (some ⟨b_p00, 2, none⟩)) (by kernel_rfl) ?_
    refine ql_q rfl (qs_ldpt encV fitv93 rfl 3 rfl (.slice p00_2_a p00_2.length p00_2_c) (Nat.le_of_ble_eq_true rfl) rfl) ?_
    refine ql_s (.int .i64 to0) (by kernel_rfl) ?_
    obtain ⟨x1, hx1, hc1⟩ := bnd_some hc1
    refine ql_q rfl (qs_idx (IsIdx.beg (e := encB) hb1 rfl hx1) Tryz.underlying93 fit4 rfl rfl) ?_
    obtain ⟨x2, hx2, hc1⟩ := bnd_some hc1
    refine ql_q rfl (qs_ldS fit4 hb1 rfl rfl 1 rfl (idx_some hx2).2.2 (v := .bool x2) valB) ?_
    refine ql_s (.bool (!x2)) (by kernel_rfl) ?_
    refine ql_s (.bool (!x2)) (by kernel_rfl) ?_
    refine ql_case 18 (!x2) rfl (fun hg1 => ?_) (fun hg1 => ?_)
    · skip
      replace hc1 := if_t hg1 hc1
      refine ql_s undef (by kernel_rfl) ?_
      refine ql_s undef (by kernel_rfl) ?_
      refine ql_s undef (by kernel_rfl) ?_
      refine ql_s undef (by kernel_rfl) ?_
      refine ql_s undef (by kernel_rfl) ?_
      refine ql_s undef (by kernel_rfl) ?_
      refine ql_s undef (by kernel_rfl) ?_
      refine ql_s (.bool true) (by kernel_rfl) ?_
      refine ql_nil (e_cutq ?_)
      obtain rfl := Option.some.inj hc1
      exact ⟨rfl, rfl, rfl, rfl, rfl, trivial⟩
    · skip
      replace hc1 := if_f hg1 hc1
      refine ql_s (.float .f32 r1) (by kernel_rfl) ?_
      refine ql_s (.pointer (some ⟨b_p00, 1, none⟩)) (by kernel_rfl) ?_
      refine ql_q rfl (qs_ldpt encV fitv38 rfl 3 rfl (.slice p00_1_a p00_1.length p00_1_c) (Nat.le_of_ble_eq_true rfl) rfl) ?_
      refine ql_s (.int .i64 to0) (by kernel_rfl) ?_
      obtain ⟨x3, hx3, hc1⟩ := bnd_some hc1
      refine ql_q rfl (qs_idx (IsIdx.beg (e := encF .f32) hb2 rfl hx3) Tryz.underlying38 fit35 rfl rfl) ?_
      obtain ⟨x4, hx4, hc1⟩ := bnd_some hc1
      refine ql_q rfl (qs_ldS fit35 hb2 rfl rfl 0 rfl (idx_some hx4).2.2 (v := .float .f32 x4) valF) ?_
      refine ql_s (.bool (flt .f32 r1 x4)) (by kernel_rfl) ?_
      refine ql_s (.bool (flt .f32 r1 x4)) (by kernel_rfl) ?_
      refine ql_nil (e_cutq ?_)
      obtain rfl := Option.some.inj hc1
      exact ⟨rfl, rfl, rfl, rfl, rfl, trivial⟩
  intro _
  refine e_then ?_
  refine c_cond (c1) rfl (fun ht1 => ?_) (fun ht1 => ?_)
  · skip
    replace hp := if_t ht1 hp
    refine c_seq ?_
    obtain ⟨x5, hx5, hp⟩ := bnd_some hp
    obtain ⟨l1, hl3, hp⟩ := bnd_some hp
    replace hl3 := Option.some.inj hl3
    obtain ⟨x6, hx6, hp⟩ := bnd_some hp
    obtain ⟨l2, hl4, hp⟩ := bnd_some hp
    replace hl4 := Option.some.inj hl4
    refine c_perm (fr1_perm 5 _) ?_
    refine c_perm (fr1_perm 5 _) ?_
    refine c_perm (fr1_perm 5 _) ?_
    refine c_perm (fr1_perm 5 _) ?_
    refine c_order (B := [pt b_p0 [.float .f32 p0.price, .int .i64 p0.k] 136, pt b_p00 [.int .i64 p00_0, .slice p00_1_a p00_1.length p00_1_c, .slice p00_2_a p00_2.length p00_2_c] 95, pt b_p000 [.slice p000_a p000.length p000_c] 138, OwnS D encS_road_reached 136 (.slice p000_a p000.length p000_c) p000]) (.q 0 (.q 1 (.q 2 (.q 3 (.q 4 (.q 5 (.q 6 (.q 7 (.e 8 (.q 9 (.e 10 .nil))))))))))) hmix (by kernel_rfl) (NoPanic.then NoPanic.post) ?_
    refine o_s (.pointer (some ⟨b_p00, 1, none⟩)) rfl (by kernel_rfl) ?_
    refine o_qs rfl rfl (qs_ldpt encV fitv38 rfl 1 rfl (.slice p00_1_a p00_1.length p00_1_c) (Nat.le_of_ble_eq_true rfl) rfl) ?_
    refine o_s (.int .i64 to0) rfl (by kernel_rfl) ?_
    refine o_s (.pointer (some ⟨b_p00, 2, none⟩)) rfl (by kernel_rfl) ?_
    refine o_qs rfl rfl (qs_ldpt encV fitv93 rfl 1 rfl (.slice p00_2_a p00_2.length p00_2_c) (Nat.le_of_ble_eq_true rfl) rfl) ?_
    refine o_s (.int .i64 to0) rfl (by kernel_rfl) ?_
    refine o_s (.float .f32 r1) rfl (by kernel_rfl) ?_
    refine o_qs rfl rfl (qs_idx (IsIdx.beg (e := encF .f32) hb2 rfl hx5) Tryz.underlying38 fit35 rfl rfl) ?_
    refine o_stS (vs := [.float .f32 r1]) hb2 rfl hl3 rfl rfl (PH.le_refl _) fit35 rfl rfl rfl rfl (idx_some hx5).2.1 ?_
    refine o_qs rfl rfl (qs_idx (IsIdx.beg (e := encB) hb1 rfl hx6) Tryz.underlying93 fit4 rfl rfl) ?_
    refine o_perm (fr1_perm 1 _) ?_
    refine o_stS (vs := [.bool true]) hb1 rfl hl4 rfl rfl (PH.le_refl _) fit4 rfl rfl rfl rfl (idx_some hx6).2.1 ?_
    refine o_nil ?_
    refine e_then ?_
    obtain ⟨r2, hr2, hp⟩ := bnd_some hp
    refine c_region ?_
    refine l_q rfl (qs_mkI Tryz.underlying140 rfl rfl) ?_
    refine l_s (.float .f32 r1) (by kernel_rfl) ?_
    refine l_s (.int .i64 to0) (by kernel_rfl) ?_
    refine l_s (.agg #[.float .f32 r1, .int .i64 to0]) (by kernel_rfl) ?_
    refine l_q rfl (qs_mkI Tryz.underlying136 rfl rfl) ?_
    refine l_call rfl rfl Tryz.call88 (vs := [.iface 140 (.pointer (some ⟨b_p000, 0, none⟩)), .iface 136 (.agg #[.float .f32 r1, .int .i64 to0])]) rfl (fun v D2 As2 => ∃ (a2 : Option Addr) (cp2 : Nat), PH.le D D2 ∧ v = .tuple #[] ∧ As2 = pt b_p000 [.slice a2 r2.length cp2] 138 :: OwnS D2 encS_road_reached 136 (.slice a2 r2.length cp2) r2 :: pt b_p0 [.float .f32 p0.price, .int .i64 p0.k] 136 :: pt b_p00 [.int .i64 p00_0, .slice p00_1_a p00_1.length p00_1_c, .slice p00_2_a p00_2.length p00_2_c] 95 :: OwnS D encB 4 (.slice p00_2_a p00_2.length p00_2_c) l2 :: OwnS D (encF .f32) 35 (.slice p00_1_a p00_1.length p00_1_c) l1 :: F) (fun w hS => (container_heap_Push_s b_p000 p000 p000_a p000_c (⟨r1, to0⟩ : S_road_reached) _  _ _ hr2 w ((hS.perm (fr1_perm 3 _)).perm (fr1_perm 3 _))).mono fun e w' ⟨D2, a2, cp2, hle2, he, hS2⟩ => ⟨_, D2, _, he, ⟨a2, cp2, hle2, rfl, rfl⟩, hS2⟩) ?_
    rintro _ D2 As2 ⟨a2, cp2, hle2, rfl, hA2⟩
    subst As2
    refine l_nil ?_
    obtain rfl := Option.some.inj hp
    refine e_perm (fr1_perm 5 _) ?_
    refine e_imp (OwnS.mono hle2) ?_
    refine e_perm (fr1_perm 5 _) ?_
    refine e_imp (OwnS.mono hle2) ?_
    refine e_perm (fr1_perm 3 _) ?_
    refine e_perm (fr1_perm 3 _) ?_
    refine e_perm (fr1_perm 2 _) ?_
    refine e_perm (fr1_perm 3 _) ?_
    refine e_perm (fr1_perm 5 _) ?_
    refine e_perm (fr1_perm 5 _) ?_
    exact post_all (vs := []) (.tuple #[]) trivial rfl (.inr rfl) (fun w hS => ⟨D2, a2, cp2, hle2, rfl, hS⟩)
  · skip
    replace hp := if_f ht1 hp
    refine c_skip ?_
    obtain rfl := Option.some.inj hp
    refine e_perm (fr1_perm 1 _) ?_
    refine e_perm (fr1_perm 5 _) ?_
    refine e_perm (fr1_perm 5 _) ?_
    refine e_perm (fr1_perm 2 _) ?_
    refine e_perm (fr1_perm 3 _) ?_
    refine e_perm (fr1_perm 5 _) ?_
    refine e_perm (fr1_perm 5 _) ?_
    exact post_all (vs := []) (.tuple #[]) trivial rfl (.inr rfl) (fun w hS => ⟨D, p000_a, p000_c, (PH.le_refl _), rfl, hS⟩)

-- (tarnfell/road.ground).each
set_option maxRecDepth 100000 in
set_option maxHeartbeats 2000000 in
theorem road_ground_each_s (g0 : S_road_ground) (g0_v1a : Option Addr) (g0_v1c : Nat) (g0_v2a : Option Addr) (g0_v2c : Nat) (k0 : Int) (b_visit0_c0 : Nat) (visit0_c0 : S_road_reached) (b_visit0_c1 : Nat) (visit0_c1_0 : Int) (visit0_c1_1 : List Nat) (visit0_c1_1_a : Option Addr) (visit0_c1_1_c : Nat) (visit0_c1_2 : List Bool) (visit0_c1_2_a : Option Addr) (visit0_c1_2_c : Nat) (b_visit0_c2 : Nat) (visit0_c2 : List S_road_reached) (visit0_c2_a : Option Addr) (visit0_c2_c : Nat) (D : PH) (g0_h1 : RO (encF .f32) D (.slice g0_v1a g0.f.V.length g0_v1c) g0.f.V) (g0_h2 : RO encS_api_Field D (.slice g0_v2a g0.s.Costly.length g0_v2c) g0.s.Costly) (F : List Assert) (r : (List Nat) × (List Bool) × (List S_road_reached)) (hp : road_ground_each_p g0 k0 visit0_c0 visit0_c1_0 visit0_c1_1 visit0_c1_2 visit0_c2 = some r) : ∀ w : World, SInv D (pt b_visit0_c0 [.float .f32 visit0_c0.price, .int .i64 visit0_c0.k] 136 :: pt b_visit0_c1 [.int .i64 visit0_c1_0, .slice visit0_c1_1_a visit0_c1_1.length visit0_c1_1_c, .slice visit0_c1_2_a visit0_c1_2.length visit0_c1_2_c] 95 :: OwnS D (encF .f32) 35 (.slice visit0_c1_1_a visit0_c1_1.length visit0_c1_1_c) visit0_c1_1 :: OwnS D encB 4 (.slice visit0_c1_2_a visit0_c1_2.length visit0_c1_2_c) visit0_c1_2 :: pt b_visit0_c2 [.slice visit0_c2_a visit0_c2.length visit0_c2_c] 138 :: OwnS D encS_road_reached 136 (.slice visit0_c2_a visit0_c2.length visit0_c2_c) visit0_c2 :: F) w → Calls Tryz.prog 86 #[.agg #[.int .i64 g0.f.Region.X, .int .i64 g0.f.Region.Y, .int .i64 g0.f.Region.W, .int .i64 g0.f.Region.H, .slice g0_v1a g0.f.V.length g0_v1c, .float .f32 g0.s.Grade, .float .f32 g0.s.Weight, .float .f32 g0.s.Bridge, .float .f32 g0.s.Dear, .int .i64 g0.s.Span, .slice g0_v2a g0.s.Costly.length g0_v2c], .int .i64 k0, .func (.func 87) #[] #[.pointer (some ⟨b_visit0_c0, 0, none⟩), .pointer (some ⟨b_visit0_c1, 0, none⟩), .pointer (some ⟨b_visit0_c2, 0, none⟩)]] w (fun e w' => ∃ (D1 : PH) (q_a1 : Option Addr) (q_cp1 : Nat), PH.le D D1 ∧ e = .returned (.tuple #[]) ∧ SInv D1 (pt b_visit0_c0 [.float .f32 visit0_c0.price, .int .i64 visit0_c0.k] 136 :: pt b_visit0_c1 [.int .i64 visit0_c1_0, .slice visit0_c1_1_a visit0_c1_1.length visit0_c1_1_c, .slice visit0_c1_2_a visit0_c1_2.length visit0_c1_2_c] 95 :: OwnS D1 (encF .f32) 35 (.slice visit0_c1_1_a visit0_c1_1.length visit0_c1_1_c) r.1 :: OwnS D1 encB 4 (.slice visit0_c1_2_a visit0_c1_2.length visit0_c1_2_c) r.2.1 :: pt b_visit0_c2 [.slice q_a1 r.2.2.length q_cp1] 138 :: OwnS D1 encS_road_reached 136 (.slice q_a1 r.2.2.length q_cp1) r.2.2 :: F) w') := by
  intro w hS
  refine call_intro Tryz.func86 rfl Tryz.ntmps86 (Nat.le_of_ble_eq_true rfl) hS ?_
  clear hS w
  unfold road_ground_each_p at hp
  refine c_seq ?_
  refine c_region ?_
  refine l_box (cs := [.int .i64 g0.f.Region.X, .int .i64 g0.f.Region.Y, .int .i64 g0.f.Region.W, .int .i64 g0.f.Region.H, .slice g0_v1a g0.f.V.length g0_v1c, .float .f32 g0.s.Grade, .float .f32 g0.s.Weight, .float .f32 g0.s.Bridge, .float .f32 g0.s.Dear, .int .i64 g0.s.Span, .slice g0_v2a g0.s.Costly.length g0_v2c]) rfl rfl (fun b2 => ?_)
  refine l_nil ?_
  refine e_then ?_
  refine c_seq ?_
  refine c_quiet ?_
  refine ql_s (.int .i64 0) (by kernel_rfl) ?_
  refine ql_nil ?_
  refine e_then ?_
  have hm0 : (8 : Nat) = ((8 : Int)).toNat := rfl
  have hb0 : ((8 : Int)) ≤ 4611686018427387904 := by decide
  have hm1 := hm0; have hb1 := hb0; clear hm0 hb0
  obtain ⟨x1, hs1, hp⟩ := bnd_some hp
  obtain ⟨body1, hbody1, hs1⟩ := forS_gen hs1
  refine c_cut_end (fun φ1 D1 As1 => ∃ (a1 : Option Addr) (cp1 : Nat), Is φ1 [] ∧ PH.le D D1 ∧ As1 = pt b2 [.int .i64 g0.f.Region.X, .int .i64 g0.f.Region.Y, .int .i64 g0.f.Region.W, .int .i64 g0.f.Region.H, .slice g0_v1a g0.f.V.length g0_v1c, .float .f32 g0.s.Grade, .float .f32 g0.s.Weight, .float .f32 g0.s.Bridge, .float .f32 g0.s.Dear, .int .i64 g0.s.Span, .slice g0_v2a g0.s.Costly.length g0_v2c] 100 :: pt b_visit0_c0 [.float .f32 visit0_c0.price, .int .i64 visit0_c0.k] 136 :: pt b_visit0_c1 [.int .i64 visit0_c1_0, .slice visit0_c1_1_a visit0_c1_1.length visit0_c1_1_c, .slice visit0_c1_2_a visit0_c1_2.length visit0_c1_2_c] 95 :: OwnS D1 (encF .f32) 35 (.slice visit0_c1_1_a visit0_c1_1.length visit0_c1_1_c) x1.1 :: OwnS D1 encB 4 (.slice visit0_c1_2_a visit0_c1_2.length visit0_c1_2_c) x1.2.1 :: pt b_visit0_c2 [.slice a1 x1.2.2.length cp1] 138 :: OwnS D1 encS_road_reached 136 (.slice a1 x1.2.2.length cp1) x1.2.2 :: F) ?_ ?_
  · skip
    refine c_block ?_
    refine c_perm (fr1_perm 6 _) ?_
    refine c_perm (fr1_perm 6 _) ?_
    refine c_perm (fr1_perm 6 _) ?_
    refine c_perm (fr1_perm 6 _) ?_
    refine c_perm (fr1_perm 6 _) ?_
    refine c_perm (fr1_perm 6 _) ?_
    refine c_perm (fr1_perm 6 _) ?_
    refine c_loop (fun k φ1 D2 As1 => ∃ (j1 i1 : Nat) (s1 : (List Nat) × (List Bool) × (List S_road_reached)) (a2 : Option Addr) (cp2 : Nat), k = j1 + 1 ∧ i1 + j1 = 8 ∧ Is φ1 [(1, .int .i64 k0), (2, .func (.func 87) #[] #[.pointer (some ⟨b_visit0_c0, 0, none⟩), .pointer (some ⟨b_visit0_c1, 0, none⟩), .pointer (some ⟨b_visit0_c2, 0, none⟩)]), (3, .pointer (some ⟨b2, 0, none⟩)), (13, .int .i64 (i1 : Int))] ∧ PH.le D D2 ∧ As1 = pt b2 [.int .i64 g0.f.Region.X, .int .i64 g0.f.Region.Y, .int .i64 g0.f.Region.W, .int .i64 g0.f.Region.H, .slice g0_v1a g0.f.V.length g0_v1c, .float .f32 g0.s.Grade, .float .f32 g0.s.Weight, .float .f32 g0.s.Bridge, .float .f32 g0.s.Dear, .int .i64 g0.s.Span, .slice g0_v2a g0.s.Costly.length g0_v2c] 100 :: pt b_visit0_c0 [.float .f32 visit0_c0.price, .int .i64 visit0_c0.k] 136 :: pt b_visit0_c1 [.int .i64 visit0_c1_0, .slice visit0_c1_1_a visit0_c1_1.length visit0_c1_1_c, .slice visit0_c1_2_a visit0_c1_2.length visit0_c1_2_c] 95 :: OwnS D2 (encF .f32) 35 (.slice visit0_c1_1_a visit0_c1_1.length visit0_c1_1_c) s1.1 :: OwnS D2 encB 4 (.slice visit0_c1_2_a visit0_c1_2.length visit0_c1_2_c) s1.2.1 :: pt b_visit0_c2 [.slice a2 s1.2.2.length cp2] 138 :: OwnS D2 encS_road_reached 136 (.slice a2 s1.2.2.length cp2) s1.2.2 :: F ∧ forS body1 j1 i1 s1 = some x1) ⟨8 + 1, 8, 0, (visit0_c1_1, visit0_c1_2, visit0_c2), visit0_c2_a, visit0_c2_c, rfl, Nat.zero_add _, ⟨rfl, rfl, rfl, rfl, trivial⟩, (PH.le_refl _), rfl, hs1⟩ ?_ ?_
    · rintro _ _ _ ⟨_, _, _, _, _, h0, _⟩; omega
    intro k1
    rintro φ1 D2 As1 ⟨j1, i1, s1, a2, cp2, hk1, hij1, hI1, hD1, hA1, hs2⟩
    subst As1
    replace g0_h1 := g0_h1.mono hD1
    replace g0_h2 := g0_h2.mono hD1
    refine c_frame _ hI1 ?_
    obtain rfl : k1 = j1 := by omega
    clear hk1
    rcases k1 with _ | j1
    · skip
      refine c_seq ?_
      refine c_quiet ?_
      refine ql_s (.bool (decide ((i1 : Int) < 8))) (by kernel_rfl) ?_
      refine ql_nil ?_
      refine e_then ?_
      refine c_seq ?_
      refine c_cond (decide ((i1 : Int) < 8)) rfl (fun ht1 => absurd ((dec_lt_f hm1 (by omega)).symm.trans ht1) (by simp)) (fun _ => ?_)
      refine c_exit ?_
      refine e_then_exit ?_
      refine e_then_exit ?_
      obtain rfl := Option.some.inj hs2
      refine e_blk_exit ?_
      refine e_perm (fr1_perm 6 _) ?_
      refine e_perm (fr1_perm 6 _) ?_
      refine e_perm (fr1_perm 6 _) ?_
      refine e_perm (fr1_perm 6 _) ?_
      refine e_perm (fr1_perm 6 _) ?_
      refine e_perm (fr1_perm 6 _) ?_
      refine e_perm (fr1_perm 6 _) ?_
      exact e_cut ⟨a2, cp2, trivial, hD1, rfl⟩
    · skip
      obtain ⟨y1, hx1, hs2⟩ := forS_some hs2
      replace hx1 := (congrFun (congrFun hbody1 i1) s1).trans hx1
      refine c_seq ?_
      refine c_quiet ?_
      refine ql_s (.bool (decide ((i1 : Int) < 8))) (by kernel_rfl) ?_
      refine ql_nil ?_
      refine e_then ?_
      refine c_seq ?_
      refine c_cond (decide ((i1 : Int) < 8)) rfl (fun _ => ?_) (fun ht2 => absurd ((dec_lt_t hm1 (by omega)).symm.trans ht2) (by simp))
      refine c_skip ?_
      refine e_then ?_
      refine c_seq ?_
      obtain ⟨s2, hs3, hx1⟩ := bnd_some hx1
      refine c_cut_end (fun φ1 D3 As1 => ∃ (a3 : Option Addr) (cp3 : Nat), Is φ1 [(1, .int .i64 k0), (2, .func (.func 87) #[] #[.pointer (some ⟨b_visit0_c0, 0, none⟩), .pointer (some ⟨b_visit0_c1, 0, none⟩), .pointer (some ⟨b_visit0_c2, 0, none⟩)]), (3, .pointer (some ⟨b2, 0, none⟩)), (13, .int .i64 (i1 : Int))] ∧ PH.le D2 D3 ∧ As1 = pt b2 [.int .i64 g0.f.Region.X, .int .i64 g0.f.Region.Y, .int .i64 g0.f.Region.W, .int .i64 g0.f.Region.H, .slice g0_v1a g0.f.V.length g0_v1c, .float .f32 g0.s.Grade, .float .f32 g0.s.Weight, .float .f32 g0.s.Bridge, .float .f32 g0.s.Dear, .int .i64 g0.s.Span, .slice g0_v2a g0.s.Costly.length g0_v2c] 100 :: pt b_visit0_c0 [.float .f32 visit0_c0.price, .int .i64 visit0_c0.k] 136 :: pt b_visit0_c1 [.int .i64 visit0_c1_0, .slice visit0_c1_1_a visit0_c1_1.length visit0_c1_1_c, .slice visit0_c1_2_a visit0_c1_2.length visit0_c1_2_c] 95 :: OwnS D3 (encF .f32) 35 (.slice visit0_c1_1_a visit0_c1_1.length visit0_c1_1_c) s2.1 :: OwnS D3 encB 4 (.slice visit0_c1_2_a visit0_c1_2.length visit0_c1_2_c) s2.2.1 :: pt b_visit0_c2 [.slice a3 s2.2.2.length cp3] 138 :: OwnS D3 encS_road_reached 136 (.slice a3 s2.2.2.length cp3) s2.2.2 :: F) ?_ ?_
      · skip
        refine c_block ?_
        refine c_seq ?_
        refine c_quiet ?_
        refine ql_s (.int .i64 (i1 : Int)) (by kernel_rfl) ?_
        refine ql_s (.int .i64 (i1 : Int)) (by kernel_rfl) ?_
        refine ql_nil ?_
        refine e_then ?_
        refine c_seq ?_
        refine c_quiet ?_
        refine ql_s (.float .f32 3380609024) (by kernel_rfl) ?_
        refine ql_nil ?_
        refine e_then ?_
        refine c_seq ?_
        refine c_quiet ?_
        refine ql_s (.int .i64 1) (by kernel_rfl) ?_
        refine ql_nil ?_
        refine e_then ?_
        obtain ⟨x2, hs4, hs3⟩ := bnd_some hs3
        obtain ⟨body2, hbody2, hs4⟩ := loopP_gen hs4
        refine c_cut_end (fun φ1 D4 As1 => ∃ (a4 : Option Addr) (cp4 : Nat), Is φ1 [(1, .int .i64 k0), (2, .func (.func 87) #[] #[.pointer (some ⟨b_visit0_c0, 0, none⟩), .pointer (some ⟨b_visit0_c1, 0, none⟩), .pointer (some ⟨b_visit0_c2, 0, none⟩)]), (3, .pointer (some ⟨b2, 0, none⟩)), (13, .int .i64 (i1 : Int))] ∧ PH.le D2 D4 ∧ As1 = pt b2 [.int .i64 g0.f.Region.X, .int .i64 g0.f.Region.Y, .int .i64 g0.f.Region.W, .int .i64 g0.f.Region.H, .slice g0_v1a g0.f.V.length g0_v1c, .float .f32 g0.s.Grade, .float .f32 g0.s.Weight, .float .f32 g0.s.Bridge, .float .f32 g0.s.Dear, .int .i64 g0.s.Span, .slice g0_v2a g0.s.Costly.length g0_v2c] 100 :: pt b_visit0_c0 [.float .f32 visit0_c0.price, .int .i64 visit0_c0.k] 136 :: pt b_visit0_c1 [.int .i64 visit0_c1_0, .slice visit0_c1_1_a visit0_c1_1.length visit0_c1_1_c, .slice visit0_c1_2_a visit0_c1_2.length visit0_c1_2_c] 95 :: OwnS D4 (encF .f32) 35 (.slice visit0_c1_1_a visit0_c1_1.length visit0_c1_1_c) x2.1 :: OwnS D4 encB 4 (.slice visit0_c1_2_a visit0_c1_2.length visit0_c1_2_c) x2.2.1 :: pt b_visit0_c2 [.slice a4 x2.2.2.length cp4] 138 :: OwnS D4 encS_road_reached 136 (.slice a4 x2.2.2.length cp4) x2.2.2 :: F) ?_ ?_
        · skip
          refine c_block ?_
          refine c_perm (fr1_perm 6 _) ?_
          refine c_perm (fr1_perm 6 _) ?_
          refine c_perm (fr1_perm 6 _) ?_
          refine c_perm (fr1_perm 6 _) ?_
          refine c_perm (fr1_perm 6 _) ?_
          refine c_perm (fr1_perm 6 _) ?_
          refine c_perm (fr1_perm 6 _) ?_
          obtain ⟨kz1, hs4⟩ := loopP_ex hs4
          refine c_loop (fun k φ1 D5 As1 => ∃ (s3 : Nat × Int × (List Nat) × (List Bool) × (List S_road_reached)) (a5 : Option Addr) (cp5 : Nat), Is φ1 [(1, .int .i64 k0), (2, .func (.func 87) #[] #[.pointer (some ⟨b_visit0_c0, 0, none⟩), .pointer (some ⟨b_visit0_c1, 0, none⟩), .pointer (some ⟨b_visit0_c2, 0, none⟩)]), (3, .pointer (some ⟨b2, 0, none⟩)), (6, .int .i64 (i1 : Int)), (7, .float .f32 s3.1), (8, .int .i64 s3.2.1), (13, .int .i64 (i1 : Int))] ∧ PH.le D2 D5 ∧ As1 = pt b2 [.int .i64 g0.f.Region.X, .int .i64 g0.f.Region.Y, .int .i64 g0.f.Region.W, .int .i64 g0.f.Region.H, .slice g0_v1a g0.f.V.length g0_v1c, .float .f32 g0.s.Grade, .float .f32 g0.s.Weight, .float .f32 g0.s.Bridge, .float .f32 g0.s.Dear, .int .i64 g0.s.Span, .slice g0_v2a g0.s.Costly.length g0_v2c] 100 :: pt b_visit0_c0 [.float .f32 visit0_c0.price, .int .i64 visit0_c0.k] 136 :: pt b_visit0_c1 [.int .i64 visit0_c1_0, .slice visit0_c1_1_a visit0_c1_1.length visit0_c1_1_c, .slice visit0_c1_2_a visit0_c1_2.length visit0_c1_2_c] 95 :: OwnS D5 (encF .f32) 35 (.slice visit0_c1_1_a visit0_c1_1.length visit0_c1_1_c) s3.2.2.1 :: OwnS D5 encB 4 (.slice visit0_c1_2_a visit0_c1_2.length visit0_c1_2_c) s3.2.2.2.1 :: pt b_visit0_c2 [.slice a5 s3.2.2.2.2.length cp5] 138 :: OwnS D5 encS_road_reached 136 (.slice a5 s3.2.2.2.2.length cp5) s3.2.2.2.2 :: F ∧ iter body2 k s3 = some x2) ⟨kz1, (3380609024, 1, s1.1, s1.2.1, s1.2.2), a2, cp2, ⟨rfl, rfl, rfl, rfl, rfl, rfl, rfl, trivial⟩, (PH.le_refl _), rfl, hs4⟩ ?_ ?_
          · rintro _ _ _ ⟨_, _, _, _, _, _, h0⟩; cases h0
          intro k2
          rintro φ2 D5 As2 ⟨s3, a5, cp5, hI2, hD2, hA2, hs5⟩
          subst As2
          replace g0_h1 := g0_h1.mono hD2
          replace g0_h2 := g0_h2.mono hD2
          refine c_frame _ hI2 ?_
          obtain ⟨y2, hx2, hs5⟩ := iter_some hs5
          replace hx2 := (congrFun hbody2 s3).trans hx2
          refine c_seq ?_
          refine c_seq ?_
          refine c_quiet ?_
          refine ql_s (.int .i64 s3.2.1) (by kernel_rfl) ?_
          refine ql_s (.pointer (some ⟨b2, 5, none⟩)) (by kernel_rfl) ?_
          refine ql_s (.pointer (some ⟨b2, 9, none⟩)) (by kernel_rfl) ?_
          refine ql_q rfl (qs_ldpt encV fitv3 rfl 0 rfl (.int .i64 g0.s.Span) (Nat.le_of_ble_eq_true rfl) rfl) ?_
          refine ql_q rfl (qs_max rfl) ?_
          refine ql_s (.bool (decide (s3.2.1 ≤ (maxI g0.s.Span 1)))) (by kernel_rfl) ?_
          refine ql_nil ?_
          refine e_then ?_
          refine c_cond (decide (s3.2.1 ≤ (maxI g0.s.Span 1))) rfl (fun ht3 => ?_) (fun ht3 => ?_)
          · skip
            replace hx2 := if_t ht3 hx2
            refine c_skip ?_
            refine e_then ?_
            refine c_seq ?_
            refine c_block ?_
            refine c_seq ?_
            obtain ⟨r1, hr1, hx2⟩ := bnd_some hx2
            refine c_quiet ?_
            refine ql_q rfl (qs_ldpt (encW 11 (by decide)) fitv100 rfl 0 rfl (.agg #[.int .i64 g0.f.Region.X, .int .i64 g0.f.Region.Y, .int .i64 g0.f.Region.W, .int .i64 g0.f.Region.H, .slice g0_v1a g0.f.V.length g0_v1c, .float .f32 g0.s.Grade, .float .f32 g0.s.Weight, .float .f32 g0.s.Bridge, .float .f32 g0.s.Dear, .int .i64 g0.s.Span, .slice g0_v2a g0.s.Costly.length g0_v2c]) (Nat.le_of_ble_eq_true rfl) rfl) ?_
            refine ql_s (.int .i64 k0) (by kernel_rfl) ?_
            refine ql_s (.int .i64 (i1 : Int)) (by kernel_rfl) ?_
            refine ql_s (.int .i64 s3.2.1) (by kernel_rfl) ?_
            refine ql_call (v := .tuple #[.int .i64 r1.1, .bool r1.2]) rfl (run_call (vs := [.agg #[.int .i64 g0.f.Region.X, .int .i64 g0.f.Region.Y, .int .i64 g0.f.Region.W, .int .i64 g0.f.Region.H, .slice g0_v1a g0.f.V.length g0_v1c, .float .f32 g0.s.Grade, .float .f32 g0.s.Weight, .float .f32 g0.s.Bridge, .float .f32 g0.s.Dear, .int .i64 g0.s.Span, .slice g0_v2a g0.s.Costly.length g0_v2c], .int .i64 k0, .int .i64 (i1 : Int), .int .i64 s3.2.1]) rfl Tryz.call90 rfl) (fun w hS => (road_ground_beside_s g0 g0_v1a g0_v1c g0_v2a g0_v2c k0 (i1 : Int) s3.2.1 _ g0_h1 g0_h2 _ _ hr1 w (hS)).mono fun e w' h => ⟨h.1, h.2⟩) ?_
            refine ql_s (.tuple #[.int .i64 r1.1, .bool r1.2]) (by kernel_rfl) ?_
            refine ql_s (.int .i64 r1.1) (by kernel_rfl) ?_
            refine ql_s (.bool r1.2) (by kernel_rfl) ?_
            refine ql_s (.int .i64 r1.1) (by kernel_rfl) ?_
            refine ql_s (.bool r1.2) (by kernel_rfl) ?_
            refine ql_nil ?_
            refine e_then ?_
            refine c_seq ?_
            refine c_seq ?_
            refine c_quiet ?_
            refine ql_s (.bool r1.2) (by kernel_rfl) ?_
            refine ql_s (.bool (!r1.2)) (by kernel_rfl) ?_
            refine ql_nil ?_
            refine e_then ?_
            refine c_cond (!r1.2) rfl (fun ht4 => ?_) (fun ht4 => ?_)
            · skip
              replace hx2 := if_t ht4 hx2
              refine c_exit ?_
              refine e_then_exit ?_
              refine e_blk_other (by decide) ?_
              refine e_then_exit ?_
              refine e_then_exit ?_
              obtain rfl := Option.some.inj hx2
              obtain rfl := hs5
              refine e_blk_exit ?_
              refine e_perm (fr1_perm 6 _) ?_
              refine e_perm (fr1_perm 6 _) ?_
              refine e_perm (fr1_perm 6 _) ?_
              refine e_perm (fr1_perm 6 _) ?_
              refine e_perm (fr1_perm 6 _) ?_
              refine e_perm (fr1_perm 6 _) ?_
              refine e_perm (fr1_perm 6 _) ?_
              exact e_cut ⟨a5, cp5, ⟨rfl, rfl, rfl, rfl, trivial⟩, hD2, rfl⟩
            · skip
              replace hx2 := if_f ht4 hx2
              refine c_skip ?_
              refine e_then ?_
              refine c_seq ?_
              refine c_seq ?_
              obtain ⟨r2, hr2, hx2⟩ := bnd_some hx2
              refine c_quiet ?_
              refine ql_q rfl (qs_ldpt (encW 11 (by decide)) fitv100 rfl 0 rfl (.agg #[.int .i64 g0.f.Region.X, .int .i64 g0.f.Region.Y, .int .i64 g0.f.Region.W, .int .i64 g0.f.Region.H, .slice g0_v1a g0.f.V.length g0_v1c, .float .f32 g0.s.Grade, .float .f32 g0.s.Weight, .float .f32 g0.s.Bridge, .float .f32 g0.s.Dear, .int .i64 g0.s.Span, .slice g0_v2a g0.s.Costly.length g0_v2c]) (Nat.le_of_ble_eq_true rfl) rfl) ?_
              refine ql_s (.int .i64 k0) (by kernel_rfl) ?_
              refine ql_s (.int .i64 r1.1) (by kernel_rfl) ?_
              refine ql_s (.int .i64 (i1 : Int)) (by kernel_rfl) ?_
              refine ql_s (.int .i64 s3.2.1) (by kernel_rfl) ?_
              refine ql_s (.float .f32 s3.1) (by kernel_rfl) ?_
              refine ql_call (v := .tuple #[.float .f32 r2.1, .bool r2.2]) rfl (run_call (vs := [.agg #[.int .i64 g0.f.Region.X, .int .i64 g0.f.Region.Y, .int .i64 g0.f.Region.W, .int .i64 g0.f.Region.H, .slice g0_v1a g0.f.V.length g0_v1c, .float .f32 g0.s.Grade, .float .f32 g0.s.Weight, .float .f32 g0.s.Bridge, .float .f32 g0.s.Dear, .int .i64 g0.s.Span, .slice g0_v2a g0.s.Costly.length g0_v2c], .int .i64 k0, .int .i64 r1.1, .int .i64 (i1 : Int), .int .i64 s3.2.1, .float .f32 s3.1]) rfl Tryz.call109 rfl) (fun w hS => (road_ground_cost_s g0 g0_v1a g0_v1c g0_v2a g0_v2c k0 r1.1 (i1 : Int) s3.2.1 s3.1 _ g0_h1 g0_h2 _ _ hr2 w (hS)).mono fun e w' h => ⟨h.1, h.2⟩) ?_
              refine ql_s (.tuple #[.float .f32 r2.1, .bool r2.2]) (by kernel_rfl) ?_
              refine ql_s (.float .f32 r2.1) (by kernel_rfl) ?_
              refine ql_s (.bool r2.2) (by kernel_rfl) ?_
              refine ql_s (.float .f32 r2.1) (by kernel_rfl) ?_
              refine ql_s (.bool r2.2) (by kernel_rfl) ?_
              refine ql_nil ?_
              refine e_then ?_
              refine c_seq ?_
              refine c_quiet ?_
              refine ql_s (.bool r2.2) (by kernel_rfl) ?_
              refine ql_nil ?_
              refine e_then ?_
              obtain ⟨s4, hs6, hx2⟩ := bnd_some hx2
              refine c_cut_end (fun φ1 D6 As1 => ∃ (a6 : Option Addr) (cp6 : Nat), Is φ1 [(1, .int .i64 k0), (2, .func (.func 87) #[] #[.pointer (some ⟨b_visit0_c0, 0, none⟩), .pointer (some ⟨b_visit0_c1, 0, none⟩), .pointer (some ⟨b_visit0_c2, 0, none⟩)]), (3, .pointer (some ⟨b2, 0, none⟩)), (6, .int .i64 (i1 : Int)), (7, .float .f32 s3.1), (8, .int .i64 s3.2.1), (9, .int .i64 r1.1), (13, .int .i64 (i1 : Int))] ∧ PH.le D5 D6 ∧ As1 = pt b2 [.int .i64 g0.f.Region.X, .int .i64 g0.f.Region.Y, .int .i64 g0.f.Region.W, .int .i64 g0.f.Region.H, .slice g0_v1a g0.f.V.length g0_v1c, .float .f32 g0.s.Grade, .float .f32 g0.s.Weight, .float .f32 g0.s.Bridge, .float .f32 g0.s.Dear, .int .i64 g0.s.Span, .slice g0_v2a g0.s.Costly.length g0_v2c] 100 :: pt b_visit0_c0 [.float .f32 visit0_c0.price, .int .i64 visit0_c0.k] 136 :: pt b_visit0_c1 [.int .i64 visit0_c1_0, .slice visit0_c1_1_a visit0_c1_1.length visit0_c1_1_c, .slice visit0_c1_2_a visit0_c1_2.length visit0_c1_2_c] 95 :: OwnS D6 (encF .f32) 35 (.slice visit0_c1_1_a visit0_c1_1.length visit0_c1_1_c) s4.1 :: OwnS D6 encB 4 (.slice visit0_c1_2_a visit0_c1_2.length visit0_c1_2_c) s4.2.1 :: pt b_visit0_c2 [.slice a6 s4.2.2.length cp6] 138 :: OwnS D6 encS_road_reached 136 (.slice a6 s4.2.2.length cp6) s4.2.2 :: F) ?_ ?_
              · skip
                refine c_cond (r2.2) rfl (fun ht5 => ?_) (fun ht5 => ?_)
                · skip
                  replace hs6 := if_t ht5 hs6
                  obtain ⟨r3, hr3, hs6⟩ := bnd_some hs6
                  refine c_perm (fr1_perm 3 _) ?_
                  refine c_adr (fun b3 hb2 hl1 hbd1 hcap1 => ?_)
                  refine c_perm (fr1_perm 4 _) ?_
                  refine c_adr (fun b4 hb3 hl2 hbd2 hcap2 => ?_)
                  refine c_region ?_
                  refine l_s (.func (.func 87) #[] #[.pointer (some ⟨b_visit0_c0, 0, none⟩), .pointer (some ⟨b_visit0_c1, 0, none⟩), .pointer (some ⟨b_visit0_c2, 0, none⟩)]) (by kernel_rfl) ?_
                  refine l_s (.int .i64 r1.1) (by kernel_rfl) ?_
                  refine l_s (.float .f32 r2.1) (by kernel_rfl) ?_
                  refine l_call rfl rfl Tryz.call87 (vs := [.int .i64 r1.1, .float .f32 r2.1, .pointer (some ⟨b_visit0_c0, 0, none⟩), .pointer (some ⟨b_visit0_c1, 0, none⟩), .pointer (some ⟨b_visit0_c2, 0, none⟩)]) rfl (fun v D8 As4 => ∃ (a8 : Option Addr) (cp8 : Nat), PH.le D5 D8 ∧ v = .tuple #[] ∧ As4 = pt b_visit0_c0 [.float .f32 visit0_c0.price, .int .i64 visit0_c0.k] 136 :: pt b_visit0_c1 [.int .i64 visit0_c1_0, .slice visit0_c1_1_a visit0_c1_1.length visit0_c1_1_c, .slice visit0_c1_2_a visit0_c1_2.length visit0_c1_2_c] 95 :: OwnS D8 (encF .f32) 35 (.slice visit0_c1_1_a visit0_c1_1.length visit0_c1_1_c) r3.1 :: OwnS D8 encB 4 (.slice visit0_c1_2_a visit0_c1_2.length visit0_c1_2_c) r3.2.1 :: pt b_visit0_c2 [.slice a8 r3.2.2.length cp8] 138 :: OwnS D8 encS_road_reached 136 (.slice a8 r3.2.2.length cp8) r3.2.2 :: pt b2 [.int .i64 g0.f.Region.X, .int .i64 g0.f.Region.Y, .int .i64 g0.f.Region.W, .int .i64 g0.f.Region.H, .slice g0_v1a g0.f.V.length g0_v1c, .float .f32 g0.s.Grade, .float .f32 g0.s.Weight, .float .f32 g0.s.Bridge, .float .f32 g0.s.Dear, .int .i64 g0.s.Span, .slice g0_v2a g0.s.Costly.length g0_v2c] 100 :: F) (fun w hS => (show Calls Tryz.prog 87 #[.int .i64 r1.1, .float .f32 r2.1, .pointer (some ⟨b_visit0_c0, 0, none⟩), .pointer (some ⟨b_visit0_c1, 0, none⟩), .pointer (some ⟨b_visit0_c2, 0, none⟩)] w (fun e w' => ∃ (D8 : PH) (a8 : Option Addr) (cp8 : Nat), PH.le D5 D8 ∧ e = .returned (.tuple #[]) ∧ SInv D8 (pt b_visit0_c0 [.float .f32 visit0_c0.price, .int .i64 visit0_c0.k] 136 :: pt b_visit0_c1 [.int .i64 visit0_c1_0, .slice visit0_c1_1_a visit0_c1_1.length visit0_c1_1_c, .slice visit0_c1_2_a visit0_c1_2.length visit0_c1_2_c] 95 :: OwnS D8 (encF .f32) 35 (.slice visit0_c1_1_a visit0_c1_1.length visit0_c1_1_c) r3.1 :: OwnS D8 encB 4 (.slice visit0_c1_2_a visit0_c1_2.length visit0_c1_2_c) r3.2.1 :: pt b_visit0_c2 [.slice a8 r3.2.2.length cp8] 138 :: OwnS D8 encS_road_reached 136 (.slice a8 r3.2.2.length cp8) r3.2.2 :: pt b2 [.int .i64 g0.f.Region.X, .int .i64 g0.f.Region.Y, .int .i64 g0.f.Region.W, .int .i64 g0.f.Region.H, .slice g0_v1a g0.f.V.length g0_v1c, .float .f32 g0.s.Grade, .float .f32 g0.s.Weight, .float .f32 g0.s.Bridge, .float .f32 g0.s.Dear, .int .i64 g0.s.Span, .slice g0_v2a g0.s.Costly.length g0_v2c] 100 :: F) w') from by have hq := road_ground_prices_1_s r1.1 r2.1 b_visit0_c0 visit0_c0 b_visit0_c1 visit0_c1_0 s3.2.2.1 visit0_c1_1_a visit0_c1_1_c s3.2.2.2.1 visit0_c1_2_a visit0_c1_2_c b_visit0_c2 s3.2.2.2.2 a5 cp5 _  _ _ hr3 w (show SInv D5 (pt b_visit0_c0 [.float .f32 visit0_c0.price, .int .i64 visit0_c0.k] 136 :: pt b_visit0_c1 [.int .i64 visit0_c1_0, .slice visit0_c1_1_a s3.2.2.1.length visit0_c1_1_c, .slice visit0_c1_2_a s3.2.2.2.1.length visit0_c1_2_c] 95 :: OwnS D5 (encF .f32) 35 (.slice visit0_c1_1_a s3.2.2.1.length visit0_c1_1_c) s3.2.2.1 :: OwnS D5 encB 4 (.slice visit0_c1_2_a s3.2.2.2.1.length visit0_c1_2_c) s3.2.2.2.1 :: pt b_visit0_c2 [.slice a5 s3.2.2.2.2.length cp5] 138 :: OwnS D5 encS_road_reached 136 (.slice a5 s3.2.2.2.2.length cp5) s3.2.2.2.2 :: pt b2 [.int .i64 g0.f.Region.X, .int .i64 g0.f.Region.Y, .int .i64 g0.f.Region.W, .int .i64 g0.f.Region.H, .slice g0_v1a g0.f.V.length g0_v1c, .float .f32 g0.s.Grade, .float .f32 g0.s.Weight, .float .f32 g0.s.Bridge, .float .f32 g0.s.Dear, .int .i64 g0.s.Span, .slice g0_v2a g0.s.Costly.length g0_v2c] 100 :: F) w from by have h2 : SInv D5 (pt b_visit0_c0 [.float .f32 visit0_c0.price, .int .i64 visit0_c0.k] 136 :: pt b_visit0_c1 [.int .i64 visit0_c1_0, .slice visit0_c1_1_a visit0_c1_1.length visit0_c1_1_c, .slice visit0_c1_2_a visit0_c1_2.length visit0_c1_2_c] 95 :: OwnS D5 (encF .f32) 35 (.slice visit0_c1_1_a visit0_c1_1.length visit0_c1_1_c) s3.2.2.1 :: OwnS D5 encB 4 (.slice visit0_c1_2_a visit0_c1_2.length visit0_c1_2_c) s3.2.2.2.1 :: pt b_visit0_c2 [.slice a5 s3.2.2.2.2.length cp5] 138 :: OwnS D5 encS_road_reached 136 (.slice a5 s3.2.2.2.2.length cp5) s3.2.2.2.2 :: pt b2 [.int .i64 g0.f.Region.X, .int .i64 g0.f.Region.Y, .int .i64 g0.f.Region.W, .int .i64 g0.f.Region.H, .slice g0_v1a g0.f.V.length g0_v1c, .float .f32 g0.s.Grade, .float .f32 g0.s.Weight, .float .f32 g0.s.Bridge, .float .f32 g0.s.Dear, .int .i64 g0.s.Span, .slice g0_v2a g0.s.Costly.length g0_v2c] 100 :: F) w := (((((hS.perm (fr1_perm 6 _)).perm (fr1_perm 6 _)).perm (fr1_perm 2 _)).perm (fr1_perm 3 _)).perm (fr1_perm 6 _)).perm (fr1_perm 6 _); rw [← hl1, ← hl2] at h2; exact h2); (try simp only [hl1, hl2] at hq); exact hq).mono fun e w' ⟨D8, a8, cp8, hle2, he, hS2⟩ => ⟨_, D8, _, he, ⟨a8, cp8, hle2, rfl, rfl⟩, hS2⟩) ?_
                  rintro _ D8 As4 ⟨a8, cp8, hle2, rfl, hA4⟩
                  subst As4
                  replace g0_h1 := g0_h1.mono hle2
                  replace g0_h2 := g0_h2.mono hle2
                  refine l_nil ?_
                  refine e_perm (fr1_perm 5 _) ?_
                  refine e_perm (fr1_perm 5 _) ?_
                  refine e_perm (fr1_perm 5 _) ?_
                  refine e_perm (fr1_perm 5 _) ?_
                  refine e_perm (fr1_perm 5 _) ?_
                  refine e_perm (fr1_perm 5 _) ?_
                  refine e_perm (fr1_perm 6 _) ?_
                  obtain rfl := Option.some.inj hs6
                  exact e_cut ⟨a8, cp8, ⟨rfl, rfl, rfl, rfl, rfl, rfl, rfl, rfl, trivial⟩, hle2, rfl⟩
                · skip
                  replace hs6 := if_f ht5 hs6
                  refine c_skip ?_
                  refine e_perm (fr1_perm 6 _) ?_
                  refine e_perm (fr1_perm 6 _) ?_
                  refine e_perm (fr1_perm 6 _) ?_
                  refine e_perm (fr1_perm 6 _) ?_
                  refine e_perm (fr1_perm 6 _) ?_
                  refine e_perm (fr1_perm 6 _) ?_
                  refine e_perm (fr1_perm 6 _) ?_
                  obtain rfl := Option.some.inj hs6
                  exact e_cut ⟨a5, cp5, ⟨rfl, rfl, rfl, rfl, rfl, rfl, rfl, rfl, trivial⟩, (PH.le_refl _), rfl⟩
              · skip
                rintro φ3 D6 As5 ⟨a6, cp6, hI3, hD3, hA5⟩
                subst As5
                replace g0_h1 := g0_h1.mono hD3
                replace g0_h2 := g0_h2.mono hD3
                refine e_frame _ hI3 ?_
                refine e_then ?_
                obtain ⟨x3, hx3, hx2⟩ := bnd_some hx2
                obtain ⟨b5, o1, h1, hq1⟩ := RO.at g0_h1 hx3
                obtain ⟨r4, hr4, hx2⟩ := bnd_some hx2
                refine c_quiet ?_
                refine ql_s (.float .f32 s3.1) (by kernel_rfl) ?_
                refine ql_s (.pointer (some ⟨b2, 0, none⟩)) (by kernel_rfl) ?_
                refine ql_s (.pointer (some ⟨b2, 4, none⟩)) (by kernel_rfl) ?_
                refine ql_q rfl (qs_ldpt encV fitv38 rfl 0 rfl (.slice g0_v1a g0.f.V.length g0_v1c) (Nat.le_of_ble_eq_true rfl) rfl) ?_
                refine ql_s (.int .i64 r1.1) (by kernel_rfl) ?_
                refine ql_q rfl (qs_idx hq1 Tryz.underlying38 fit35 rfl rfl) ?_
                refine ql_q rfl (qs_ldAtV fit35 rfl h1 valF) ?_
                refine ql_q rfl (qs_maxF rfl rfl hr4) ?_
                refine ql_s (.float .f32 r4) (by kernel_rfl) ?_
                refine ql_nil ?_
                refine e_blk ?_
                refine e_then ?_
                refine c_quiet ?_
                refine ql_s (.int .i64 s3.2.1) (by kernel_rfl) ?_
                refine ql_s (.int .i64 (addI s3.2.1 1)) (by kernel_rfl) ?_
                refine ql_s (.int .i64 (addI s3.2.1 1)) (by kernel_rfl) ?_
                refine ql_nil ?_
                refine e_perm (fr1_perm 6 _) ?_
                refine e_perm (fr1_perm 6 _) ?_
                refine e_perm (fr1_perm 6 _) ?_
                refine e_perm (fr1_perm 6 _) ?_
                refine e_perm (fr1_perm 6 _) ?_
                refine e_perm (fr1_perm 6 _) ?_
                refine e_perm (fr1_perm 6 _) ?_
                obtain rfl := Option.some.inj hx2
                exact e_cut ⟨(r4, addI s3.2.1 1, s4.1, s4.2.1, s4.2.2), a6, cp6, ⟨rfl, rfl, rfl, rfl, rfl, rfl, rfl, trivial⟩, (PH.le_trans hD2 hD3), rfl, hs5⟩
          · skip
            replace hx2 := if_f ht3 hx2
            refine c_exit ?_
            refine e_then_exit ?_
            refine e_then_exit ?_
            obtain rfl := Option.some.inj hx2
            obtain rfl := hs5
            refine e_blk_exit ?_
            refine e_perm (fr1_perm 6 _) ?_
            refine e_perm (fr1_perm 6 _) ?_
            refine e_perm (fr1_perm 6 _) ?_
            refine e_perm (fr1_perm 6 _) ?_
            refine e_perm (fr1_perm 6 _) ?_
            refine e_perm (fr1_perm 6 _) ?_
            refine e_perm (fr1_perm 6 _) ?_
            exact e_cut ⟨a5, cp5, ⟨rfl, rfl, rfl, rfl, trivial⟩, hD2, rfl⟩
        · skip
          rintro φ4 D4 As6 ⟨a4, cp4, hI4, hD4, hA6⟩
          subst As6
          replace g0_h1 := g0_h1.mono hD4
          replace g0_h2 := g0_h2.mono hD4
          refine e_frame _ hI4 ?_
          refine e_blk ?_
          refine e_perm (fr1_perm 6 _) ?_
          refine e_perm (fr1_perm 6 _) ?_
          refine e_perm (fr1_perm 6 _) ?_
          refine e_perm (fr1_perm 6 _) ?_
          refine e_perm (fr1_perm 6 _) ?_
          refine e_perm (fr1_perm 6 _) ?_
          refine e_perm (fr1_perm 6 _) ?_
          obtain rfl := Option.some.inj hs3
          exact e_cut ⟨a4, cp4, ⟨rfl, rfl, rfl, rfl, trivial⟩, hD4, rfl⟩
      · skip
        rintro φ5 D3 As7 ⟨a3, cp3, hI5, hD5, hA7⟩
        subst As7
        replace g0_h1 := g0_h1.mono hD5
        replace g0_h2 := g0_h2.mono hD5
        refine e_frame _ hI5 ?_
        refine e_then ?_
        refine c_quiet ?_
        refine ql_s (.int .i64 (addI (i1 : Int) 1)) (by kernel_rfl) ?_
        refine ql_s (.int .i64 (addI (i1 : Int) 1)) (by kernel_rfl) ?_
        refine ql_nil ?_
        refine e_perm (fr1_perm 6 _) ?_
        refine e_perm (fr1_perm 6 _) ?_
        refine e_perm (fr1_perm 6 _) ?_
        refine e_perm (fr1_perm 6 _) ?_
        refine e_perm (fr1_perm 6 _) ?_
        refine e_perm (fr1_perm 6 _) ?_
        refine e_perm (fr1_perm 6 _) ?_
        obtain rfl := Option.some.inj hx1
        exact e_cut ⟨j1, i1 + 1, (s2.1, s2.2.1, s2.2.2), a3, cp3, by omega, by omega, ⟨rfl, rfl, rfl, (congrArg (Value.int .i64) (addI_succ (by omega))), trivial⟩, (PH.le_trans hD1 hD5), rfl, hs2⟩
  · skip
    rintro φ6 D1 As8 ⟨a1, cp1, hI6, hD6, hA8⟩
    subst As8
    replace g0_h1 := g0_h1.mono hD6
    replace g0_h2 := g0_h2.mono hD6
    refine e_frame _ hI6 ?_
    obtain rfl := Option.some.inj hp
    refine e_perm (fr1_perm 3 _) ?_
    refine e_perm (fr1_perm 4 _) ?_
    refine e_perm (fr1_perm 6 _) ?_
    refine e_perm (fr1_perm 6 _) ?_
    refine e_perm (fr1_perm 2 _) ?_
    refine e_perm (fr1_perm 3 _) ?_
    refine e_perm (fr1_perm 6 _) ?_
    refine e_perm (fr1_perm 6 _) ?_
    refine e_perm (fr1_perm 6 _) ?_
    exact post_all (vs := []) (.tuple #[]) trivial rfl (.inr rfl) (fun w hS => ⟨D1, a1, cp1, hD6, rfl, hS.tail⟩)

-- (tarnfell/road.ground).prices
set_option maxRecDepth 100000 in
set_option maxHeartbeats 2000000 in
theorem road_ground_prices_s (g0 : S_road_ground) (g0_v1a : Option Addr) (g0_v1c : Nat) (g0_v2a : Option Addr) (g0_v2c : Nat) (from0 : Int) (D : PH) (g0_h1 : RO (encF .f32) D (.slice g0_v1a g0.f.V.length g0_v1c) g0.f.V) (g0_h2 : RO encS_api_Field D (.slice g0_v2a g0.s.Costly.length g0_v2c) g0.s.Costly) (F : List Assert) (r : S_road_prices) (hp : road_ground_prices_p g0 from0 = some r) : ∀ w : World, SInv D (F) w → Calls Tryz.prog 61 #[.agg #[.int .i64 g0.f.Region.X, .int .i64 g0.f.Region.Y, .int .i64 g0.f.Region.W, .int .i64 g0.f.Region.H, .slice g0_v1a g0.f.V.length g0_v1c, .float .f32 g0.s.Grade, .float .f32 g0.s.Weight, .float .f32 g0.s.Bridge, .float .f32 g0.s.Dear, .int .i64 g0.s.Span, .slice g0_v2a g0.s.Costly.length g0_v2c], .int .i64 from0] w (fun e w' => ∃ (D1 : PH) (q_a1 : Option Addr) (q_cp1 : Nat) (q_a2 : Option Addr) (q_cp2 : Nat), PH.le D D1 ∧ e = .returned (.agg #[.int .i64 r.from0, .slice q_a1 r.price.length q_cp1, .slice q_a2 r.ok.length q_cp2]) ∧ RO (encF .f32) D1 (.slice q_a1 r.price.length q_cp1) r.price ∧ RO encB D1 (.slice q_a2 r.ok.length q_cp2) r.ok ∧ SInv D1 (F) w') := by
  intro w hS
  refine call_intro Tryz.func61 rfl Tryz.ntmps61 (Nat.le_of_ble_eq_true rfl) hS ?_
  clear hS w
  unfold road_ground_prices_p at hp
  refine c_seq ?_
  refine c_region ?_
  refine l_box (cs := [.int .i64 g0.f.Region.X, .int .i64 g0.f.Region.Y, .int .i64 g0.f.Region.W, .int .i64 g0.f.Region.H, .slice g0_v1a g0.f.V.length g0_v1c, .float .f32 g0.s.Grade, .float .f32 g0.s.Weight, .float .f32 g0.s.Bridge, .float .f32 g0.s.Dear, .int .i64 g0.s.Span, .slice g0_v2a g0.s.Costly.length g0_v2c]) rfl rfl (fun b3 => ?_)
  refine l_alloc (zs := [.int .i64 0, .slice none 0 0, .slice none 0 0]) rfl (by kernel_rfl) (fun b4 => ?_)
  refine l_nil ?_
  refine e_then ?_
  refine c_seq ?_
  obtain ⟨l1, hl1, hp⟩ := bnd_some hp
  obtain ⟨l2, hl2, hp⟩ := bnd_some hp
  refine c_perm (fr1_perm 1 _) ?_
  refine c_perm (fr1_perm 1 _) ?_
  refine c_cut_end (fun φ1 D1 As1 => ∃ (b8 : Nat) (b9 : Nat) (b10 : Nat) (cp3 : Nat) (cp4 : Nat), Is φ1 [(1, .int .i64 from0), (2, .pointer (some ⟨b3, 0, none⟩)), (4, .pointer (some ⟨b4, 0, none⟩)), (5, .pointer (some ⟨b8, 0, none⟩))] ∧ D = D1 ∧ As1 = pt b4 [.int .i64 0, .slice none 0 0, .slice none 0 0] 95 :: pt b3 [.int .i64 g0.f.Region.X, .int .i64 g0.f.Region.Y, .int .i64 g0.f.Region.W, .int .i64 g0.f.Region.H, .slice g0_v1a g0.f.V.length g0_v1c, .float .f32 g0.s.Grade, .float .f32 g0.s.Weight, .float .f32 g0.s.Bridge, .float .f32 g0.s.Dear, .int .i64 g0.s.Span, .slice g0_v2a g0.s.Costly.length g0_v2c] 100 :: pt b8 [.int .i64 from0, .slice (some ⟨b10, 0, none⟩) l1.length cp4, .slice (some ⟨b9, 0, none⟩) l2.length cp3] 95 :: OwnS D encB 4 (.slice (some ⟨b9, 0, none⟩) l2.length cp3) l2 :: OwnS D (encF .f32) 35 (.slice (some ⟨b10, 0, none⟩) l1.length cp4) l1 :: F) ?_ ?_
  · skip
    refine c_order (B := [pt b4 [.int .i64 0, .slice none 0 0, .slice none 0 0] 95, pt b3 [.int .i64 g0.f.Region.X, .int .i64 g0.f.Region.Y, .int .i64 g0.f.Region.W, .int .i64 g0.f.Region.H, .slice g0_v1a g0.f.V.length g0_v1c, .float .f32 g0.s.Grade, .float .f32 g0.s.Weight, .float .f32 g0.s.Bridge, .float .f32 g0.s.Dear, .int .i64 g0.s.Span, .slice g0_v2a g0.s.Costly.length g0_v2c] 100]) (.q 0 (.q 1 (.q 2 (.q 3 (.q 4 (.q 6 (.q 7 (.q 8 (.q 9 (.f 5 (.f 10 (.q 11 (.e 12 (.e 13 .nil))) (.e 12 (.e 10 (.q 11 (.e 13 .nil))))) (.f 10 (.f 5 (.q 11 (.e 12 (.e 13 .nil))) (.e 12 (.e 5 (.q 11 (.e 13 .nil))))) (.e 12 (.f 5 (.e 10 (.q 11 (.e 13 .nil))) (.e 10 (.e 5 (.q 11 (.e 13 .nil))))))))))))))))) hmix (by kernel_rfl) (NoPanic.then (NoPanic.then NoPanic.post)) ?_
    refine o_s (.int .i64 from0) rfl (by kernel_rfl) ?_
    refine o_s (.pointer (some ⟨b3, 0, none⟩)) rfl (by kernel_rfl) ?_
    refine o_s (.pointer (some ⟨b3, 4, none⟩)) rfl (by kernel_rfl) ?_
    refine o_qs rfl rfl (qs_ldpt encV fitv38 rfl 1 rfl (.slice g0_v1a g0.f.V.length g0_v1c) (Nat.le_of_ble_eq_true rfl) rfl) ?_
    refine o_s (.int .i64 (g0.f.V.length : Int)) rfl (by kernel_rfl) ?_
    refine o_s (.pointer (some ⟨b3, 0, none⟩)) rfl (by kernel_rfl) ?_
    refine o_s (.pointer (some ⟨b3, 4, none⟩)) rfl (by kernel_rfl) ?_
    refine o_qs rfl rfl (qs_ldpt encV fitv38 rfl 1 rfl (.slice g0_v1a g0.f.V.length g0_v1c) (Nat.le_of_ble_eq_true rfl) rfl) ?_
    refine o_s (.int .i64 (g0.f.V.length : Int)) rfl (by kernel_rfl) ?_
    refine o_f ?_ ?_
    · skip
      refine o_mkS (zs := [.float .f32 0]) hl1 rfl rfl (PH.le_refl _) elem38 (by kernel_rfl) rfl rfl rfl (fun b11 cp5 => ?_)
      refine o_f ?_ ?_
      · skip
        refine o_mkS (zs := [.bool false]) hl2 rfl rfl (PH.le_refl _) elem93 (by kernel_rfl) rfl rfl rfl (fun b12 cp6 => ?_)
        refine o_s (.agg #[.int .i64 from0, .slice (some ⟨b11, 0, none⟩) l1.length cp5, .slice (some ⟨b12, 0, none⟩) l2.length cp6]) rfl (by kernel_rfl) ?_
        refine o_alloc (zs := [.int .i64 0, .slice none 0 0, .slice none 0 0]) rfl rfl (PH.le_refl _) (by kernel_rfl) (fun b13 => ?_)
        refine o_nilS D (encF .f32) 35 ?_
        refine o_nilS D encB 4 ?_
        refine o_perm (fr1_perm 2 _) ?_
        refine o_store (vs := [.int .i64 from0, .slice (some ⟨b11, 0, none⟩) l1.length cp5, .slice (some ⟨b12, 0, none⟩) l2.length cp6]) (cs' := [.int .i64 from0, .slice (some ⟨b11, 0, none⟩) l1.length cp5, .slice (some ⟨b12, 0, none⟩) l2.length cp6]) rfl rfl (PH.le_refl _) (by kernel_rfl) (by kernel_rfl) rfl rfl (Nat.le_of_ble_eq_true rfl) rfl rfl ?_
        refine o_nil ?_
        refine e_perm (fr1_perm 3 _) ?_
        refine e_drop ?_
        refine e_perm (fr1_perm 3 _) ?_
        refine e_drop ?_
        refine e_perm (fr1_perm 4 _) ?_
        refine e_perm (fr1_perm 4 _) ?_
        refine e_perm (fr1_perm 4 _) ?_
        refine e_perm (fr1_perm 4 _) ?_
        refine e_perm (fr1_perm 4 _) ?_
        exact e_cut ⟨b13, b12, b11, cp6, cp5, ⟨rfl, rfl, rfl, rfl, trivial⟩, rfl, rfl⟩
      refine o_alloc (zs := [.int .i64 0, .slice none 0 0, .slice none 0 0]) rfl rfl (PH.le_refl _) (by kernel_rfl) (fun b14 => ?_)
      refine o_nilS D (encF .f32) 35 ?_
      refine o_nilS D encB 4 ?_
      refine o_mkS (zs := [.bool false]) hl2 rfl rfl (PH.le_refl _) elem93 (by kernel_rfl) rfl rfl rfl (fun b15 cp7 => ?_)
      refine o_s (.agg #[.int .i64 from0, .slice (some ⟨b11, 0, none⟩) l1.length cp5, .slice (some ⟨b15, 0, none⟩) l2.length cp7]) rfl (by kernel_rfl) ?_
      refine o_perm (fr1_perm 3 _) ?_
      refine o_store (vs := [.int .i64 from0, .slice (some ⟨b11, 0, none⟩) l1.length cp5, .slice (some ⟨b15, 0, none⟩) l2.length cp7]) (cs' := [.int .i64 from0, .slice (some ⟨b11, 0, none⟩) l1.length cp5, .slice (some ⟨b15, 0, none⟩) l2.length cp7]) rfl rfl (PH.le_refl _) (by kernel_rfl) (by kernel_rfl) rfl rfl (Nat.le_of_ble_eq_true rfl) rfl rfl ?_
      refine o_nil ?_
      refine e_perm (fr1_perm 4 _) ?_
      refine e_drop ?_
      refine e_perm (fr1_perm 4 _) ?_
      refine e_drop ?_
      refine e_perm (fr1_perm 4 _) ?_
      refine e_perm (fr1_perm 4 _) ?_
      refine e_perm (fr1_perm 4 _) ?_
      refine e_perm (fr1_perm 4 _) ?_
      refine e_perm (fr1_perm 4 _) ?_
      exact e_cut ⟨b14, b15, b11, cp7, cp5, ⟨rfl, rfl, rfl, rfl, trivial⟩, rfl, rfl⟩
    refine o_f ?_ ?_
    · skip
      refine o_mkS (zs := [.bool false]) hl2 rfl rfl (PH.le_refl _) elem93 (by kernel_rfl) rfl rfl rfl (fun b16 cp8 => ?_)
      refine o_f ?_ ?_
      · skip
        refine o_mkS (zs := [.float .f32 0]) hl1 rfl rfl (PH.le_refl _) elem38 (by kernel_rfl) rfl rfl rfl (fun b17 cp9 => ?_)
        refine o_s (.agg #[.int .i64 from0, .slice (some ⟨b17, 0, none⟩) l1.length cp9, .slice (some ⟨b16, 0, none⟩) l2.length cp8]) rfl (by kernel_rfl) ?_
        refine o_alloc (zs := [.int .i64 0, .slice none 0 0, .slice none 0 0]) rfl rfl (PH.le_refl _) (by kernel_rfl) (fun b18 => ?_)
        refine o_nilS D (encF .f32) 35 ?_
        refine o_nilS D encB 4 ?_
        refine o_perm (fr1_perm 2 _) ?_
        refine o_store (vs := [.int .i64 from0, .slice (some ⟨b17, 0, none⟩) l1.length cp9, .slice (some ⟨b16, 0, none⟩) l2.length cp8]) (cs' := [.int .i64 from0, .slice (some ⟨b17, 0, none⟩) l1.length cp9, .slice (some ⟨b16, 0, none⟩) l2.length cp8]) rfl rfl (PH.le_refl _) (by kernel_rfl) (by kernel_rfl) rfl rfl (Nat.le_of_ble_eq_true rfl) rfl rfl ?_
        refine o_nil ?_
        refine e_perm (fr1_perm 3 _) ?_
        refine e_drop ?_
        refine e_perm (fr1_perm 3 _) ?_
        refine e_drop ?_
        refine e_perm (fr1_perm 3 _) ?_
        refine e_perm (fr1_perm 4 _) ?_
        refine e_perm (fr1_perm 4 _) ?_
        refine e_perm (fr1_perm 4 _) ?_
        refine e_perm (fr1_perm 4 _) ?_
        exact e_cut ⟨b18, b16, b17, cp8, cp9, ⟨rfl, rfl, rfl, rfl, trivial⟩, rfl, rfl⟩
      refine o_alloc (zs := [.int .i64 0, .slice none 0 0, .slice none 0 0]) rfl rfl (PH.le_refl _) (by kernel_rfl) (fun b19 => ?_)
      refine o_nilS D (encF .f32) 35 ?_
      refine o_nilS D encB 4 ?_
      refine o_mkS (zs := [.float .f32 0]) hl1 rfl rfl (PH.le_refl _) elem38 (by kernel_rfl) rfl rfl rfl (fun b20 cp10 => ?_)
      refine o_s (.agg #[.int .i64 from0, .slice (some ⟨b20, 0, none⟩) l1.length cp10, .slice (some ⟨b16, 0, none⟩) l2.length cp8]) rfl (by kernel_rfl) ?_
      refine o_perm (fr1_perm 3 _) ?_
      refine o_store (vs := [.int .i64 from0, .slice (some ⟨b20, 0, none⟩) l1.length cp10, .slice (some ⟨b16, 0, none⟩) l2.length cp8]) (cs' := [.int .i64 from0, .slice (some ⟨b20, 0, none⟩) l1.length cp10, .slice (some ⟨b16, 0, none⟩) l2.length cp8]) rfl rfl (PH.le_refl _) (by kernel_rfl) (by kernel_rfl) rfl rfl (Nat.le_of_ble_eq_true rfl) rfl rfl ?_
      refine o_nil ?_
      refine e_perm (fr1_perm 4 _) ?_
      refine e_drop ?_
      refine e_perm (fr1_perm 4 _) ?_
      refine e_drop ?_
      refine e_perm (fr1_perm 3 _) ?_
      refine e_perm (fr1_perm 4 _) ?_
      refine e_perm (fr1_perm 4 _) ?_
      refine e_perm (fr1_perm 4 _) ?_
      refine e_perm (fr1_perm 4 _) ?_
      exact e_cut ⟨b19, b16, b20, cp8, cp10, ⟨rfl, rfl, rfl, rfl, trivial⟩, rfl, rfl⟩
    refine o_alloc (zs := [.int .i64 0, .slice none 0 0, .slice none 0 0]) rfl rfl (PH.le_refl _) (by kernel_rfl) (fun b21 => ?_)
    refine o_nilS D (encF .f32) 35 ?_
    refine o_nilS D encB 4 ?_
    refine o_f ?_ ?_
    · skip
      refine o_mkS (zs := [.float .f32 0]) hl1 rfl rfl (PH.le_refl _) elem38 (by kernel_rfl) rfl rfl rfl (fun b22 cp11 => ?_)
      refine o_mkS (zs := [.bool false]) hl2 rfl rfl (PH.le_refl _) elem93 (by kernel_rfl) rfl rfl rfl (fun b23 cp12 => ?_)
      refine o_s (.agg #[.int .i64 from0, .slice (some ⟨b22, 0, none⟩) l1.length cp11, .slice (some ⟨b23, 0, none⟩) l2.length cp12]) rfl (by kernel_rfl) ?_
      refine o_perm (fr1_perm 4 _) ?_
      refine o_store (vs := [.int .i64 from0, .slice (some ⟨b22, 0, none⟩) l1.length cp11, .slice (some ⟨b23, 0, none⟩) l2.length cp12]) (cs' := [.int .i64 from0, .slice (some ⟨b22, 0, none⟩) l1.length cp11, .slice (some ⟨b23, 0, none⟩) l2.length cp12]) rfl rfl (PH.le_refl _) (by kernel_rfl) (by kernel_rfl) rfl rfl (Nat.le_of_ble_eq_true rfl) rfl rfl ?_
      refine o_nil ?_
      refine e_perm (fr1_perm 5 _) ?_
      refine e_drop ?_
      refine e_perm (fr1_perm 5 _) ?_
      refine e_drop ?_
      refine e_perm (fr1_perm 4 _) ?_
      refine e_perm (fr1_perm 4 _) ?_
      refine e_perm (fr1_perm 4 _) ?_
      refine e_perm (fr1_perm 4 _) ?_
      refine e_perm (fr1_perm 4 _) ?_
      exact e_cut ⟨b21, b23, b22, cp12, cp11, ⟨rfl, rfl, rfl, rfl, trivial⟩, rfl, rfl⟩
    refine o_mkS (zs := [.bool false]) hl2 rfl rfl (PH.le_refl _) elem93 (by kernel_rfl) rfl rfl rfl (fun b24 cp13 => ?_)
    refine o_mkS (zs := [.float .f32 0]) hl1 rfl rfl (PH.le_refl _) elem38 (by kernel_rfl) rfl rfl rfl (fun b25 cp14 => ?_)
    refine o_s (.agg #[.int .i64 from0, .slice (some ⟨b25, 0, none⟩) l1.length cp14, .slice (some ⟨b24, 0, none⟩) l2.length cp13]) rfl (by kernel_rfl) ?_
    refine o_perm (fr1_perm 4 _) ?_
    refine o_store (vs := [.int .i64 from0, .slice (some ⟨b25, 0, none⟩) l1.length cp14, .slice (some ⟨b24, 0, none⟩) l2.length cp13]) (cs' := [.int .i64 from0, .slice (some ⟨b25, 0, none⟩) l1.length cp14, .slice (some ⟨b24, 0, none⟩) l2.length cp13]) rfl rfl (PH.le_refl _) (by kernel_rfl) (by kernel_rfl) rfl rfl (Nat.le_of_ble_eq_true rfl) rfl rfl ?_
    refine o_nil ?_
    refine e_perm (fr1_perm 5 _) ?_
    refine e_drop ?_
    refine e_perm (fr1_perm 5 _) ?_
    refine e_drop ?_
    refine e_perm (fr1_perm 3 _) ?_
    refine e_perm (fr1_perm 4 _) ?_
    refine e_perm (fr1_perm 4 _) ?_
    refine e_perm (fr1_perm 4 _) ?_
    refine e_perm (fr1_perm 4 _) ?_
    exact e_cut ⟨b21, b24, b25, cp13, cp14, ⟨rfl, rfl, rfl, rfl, trivial⟩, rfl, rfl⟩
  · skip
    rintro φ1 _ As1 ⟨b8, b9, b10, cp3, cp4, hI1, rfl, hA⟩
    subst As1
    refine e_frame _ hI1 ?_
    refine e_then ?_
    refine c_seq ?_
    obtain ⟨l3, hl3, hp⟩ := bnd_some hp
    refine c_region ?_
    refine l_s (.pointer (some ⟨b3, 0, none⟩)) (by kernel_rfl) ?_
    refine l_s (.pointer (some ⟨b3, 4, none⟩)) (by kernel_rfl) ?_
    refine l_q rfl (qs_ldpt encV fitv38 rfl 1 rfl (.slice g0_v1a g0.f.V.length g0_v1c) (Nat.le_of_ble_eq_true rfl) rfl) ?_
    refine l_s (.int .i64 (g0.f.V.length : Int)) (by kernel_rfl) ?_
    refine l_mkS (zs := [.bool false]) hl3 rfl elem93 (by kernel_rfl) rfl rfl rfl (fun b27 cp16 => ?_)
    refine l_s (.slice (some ⟨b27, 0, none⟩) l3.length cp16) (by kernel_rfl) ?_
    refine l_nil ?_
    refine e_then ?_
    refine c_seq ?_
    obtain ⟨x1, hx1, hp⟩ := bnd_some hp
    obtain ⟨l4, hl4, hp⟩ := bnd_some hp
    replace hl4 := Option.some.inj hl4
    refine c_region ?_
    refine l_s (.pointer (some ⟨b8, 2, none⟩)) (by kernel_rfl) ?_
    refine l_q rfl (qs_ldpt encV fitv93 rfl 3 rfl (.slice (some ⟨b9, 0, none⟩) l2.length cp3) (Nat.le_of_ble_eq_true rfl) rfl) ?_
    refine l_s (.int .i64 from0) (by kernel_rfl) ?_
    refine l_q rfl (qs_idx (IsIdx.beg (e := encB) (Beg.of b9 _) rfl hx1) Tryz.underlying93 fit4 rfl rfl) ?_
    refine l_perm (fr1_perm 4 _) ?_
    refine l_stS (vs := [.bool true]) (Beg.of b9 _) rfl hl4 rfl fit4 rfl rfl rfl rfl (idx_some hx1).2.1 ?_
    refine l_nil ?_
    refine e_then ?_
    refine c_seq ?_
    refine c_region ?_
    refine l_s (.int .i64 from0) (by kernel_rfl) ?_
    refine l_s (.agg #[.float .f32 0, .int .i64 from0]) (by kernel_rfl) ?_
    refine l_bslS (cs := [.float .f32 0, .int .i64 from0]) (E := 136) (e := encS_road_reached) ([(⟨0, from0⟩ : S_road_reached)] : List S_road_reached) rfl (by kernel_rfl) rfl rfl (Nat.le_of_ble_eq_true rfl) ⟨rfl, trivial⟩ (fun b30 cp18 => ?_)
    refine l_alloc (zs := [.slice none 0 0]) rfl (by kernel_rfl) (fun b31 => ?_)
    refine l_nilS D encS_road_reached 136 ?_
    refine l_perm (fr1_perm 1 _) ?_
    refine l_store (dd := none) (vs := [.slice (some ⟨b30, 0, none⟩) (([(⟨0, from0⟩ : S_road_reached)] : List S_road_reached).length) cp18]) (cs' := [.slice (some ⟨b30, 0, none⟩) (([(⟨0, from0⟩ : S_road_reached)] : List S_road_reached).length) cp18]) rfl (by kernel_rfl) (by kernel_rfl) rfl rfl (Nat.le_of_ble_eq_true rfl) rfl rfl ?_
    refine l_nil ?_
    refine e_perm (fr1_perm 1 _) ?_
    refine e_drop ?_
    refine e_then ?_
    refine c_seq ?_
    obtain ⟨x2, hs1, hp⟩ := bnd_some hp
    obtain ⟨body1, hbody1, hs1⟩ := loopP_gen hs1
    refine c_cut_end (fun φ1 D1 As1 => ∃ (a1 : Option Addr) (cp19 : Nat), Is φ1 [(4, .pointer (some ⟨b4, 0, none⟩)), (5, .pointer (some ⟨b8, 0, none⟩))] ∧ PH.le D D1 ∧ As1 = pt b31 [.slice a1 x2.1.length cp19] 138 :: OwnS D1 encS_road_reached 136 (.slice a1 x2.1.length cp19) x2.1 :: OwnS D1 encB 4 (.slice (some ⟨b9, 0, none⟩) l2.length cp3) x2.2.1 :: OwnS D1 encB 4 (.slice (some ⟨b27, 0, none⟩) l3.length cp16) x2.2.2.1 :: pt b4 [.int .i64 0, .slice none 0 0, .slice none 0 0] 95 :: pt b3 [.int .i64 g0.f.Region.X, .int .i64 g0.f.Region.Y, .int .i64 g0.f.Region.W, .int .i64 g0.f.Region.H, .slice g0_v1a g0.f.V.length g0_v1c, .float .f32 g0.s.Grade, .float .f32 g0.s.Weight, .float .f32 g0.s.Bridge, .float .f32 g0.s.Dear, .int .i64 g0.s.Span, .slice g0_v2a g0.s.Costly.length g0_v2c] 100 :: pt b8 [.int .i64 from0, .slice (some ⟨b10, 0, none⟩) l1.length cp4, .slice (some ⟨b9, 0, none⟩) l2.length cp3] 95 :: OwnS D1 (encF .f32) 35 (.slice (some ⟨b10, 0, none⟩) l1.length cp4) x2.2.2.2 :: F) ?_ ?_
    · skip
      refine c_block ?_
      refine c_perm (fr1_perm 7 _) ?_
      refine c_perm (fr1_perm 7 _) ?_
      refine c_perm (fr1_perm 7 _) ?_
      refine c_perm (fr1_perm 7 _) ?_
      refine c_perm (fr1_perm 7 _) ?_
      refine c_perm (fr1_perm 7 _) ?_
      refine c_perm (fr1_perm 7 _) ?_
      refine c_perm (fr1_perm 7 _) ?_
      obtain ⟨kz1, hs1⟩ := loopP_ex hs1
      refine c_loop (fun k φ1 D2 As1 => ∃ (s1 : (List S_road_reached) × (List Bool) × (List Bool) × (List Nat)) (a2 : Option Addr) (cp20 : Nat), Is φ1 [(2, .pointer (some ⟨b3, 0, none⟩)), (4, .pointer (some ⟨b4, 0, none⟩)), (5, .pointer (some ⟨b8, 0, none⟩)), (6, .slice (some ⟨b27, 0, none⟩) l3.length cp16), (7, .pointer (some ⟨b31, 0, none⟩))] ∧ PH.le D D2 ∧ As1 = pt b31 [.slice a2 s1.1.length cp20] 138 :: OwnS D2 encS_road_reached 136 (.slice a2 s1.1.length cp20) s1.1 :: OwnS D2 encB 4 (.slice (some ⟨b9, 0, none⟩) l2.length cp3) s1.2.1 :: OwnS D2 encB 4 (.slice (some ⟨b27, 0, none⟩) l3.length cp16) s1.2.2.1 :: pt b4 [.int .i64 0, .slice none 0 0, .slice none 0 0] 95 :: pt b3 [.int .i64 g0.f.Region.X, .int .i64 g0.f.Region.Y, .int .i64 g0.f.Region.W, .int .i64 g0.f.Region.H, .slice g0_v1a g0.f.V.length g0_v1c, .float .f32 g0.s.Grade, .float .f32 g0.s.Weight, .float .f32 g0.s.Bridge, .float .f32 g0.s.Dear, .int .i64 g0.s.Span, .slice g0_v2a g0.s.Costly.length g0_v2c] 100 :: pt b8 [.int .i64 from0, .slice (some ⟨b10, 0, none⟩) l1.length cp4, .slice (some ⟨b9, 0, none⟩) l2.length cp3] 95 :: OwnS D2 (encF .f32) 35 (.slice (some ⟨b10, 0, none⟩) l1.length cp4) s1.2.2.2 :: F ∧ iter body1 k s1 = some x2) ⟨kz1, (([(⟨0, from0⟩ : S_road_reached)] : List S_road_reached), l4, l3, l1), some ⟨b30, 0, none⟩, cp18, ⟨rfl, rfl, rfl, rfl, rfl, trivial⟩, (PH.le_refl _), rfl, hs1⟩ ?_ ?_
      · rintro _ _ _ ⟨_, _, _, _, _, _, h0⟩; cases h0
      intro k1
      rintro φ2 D2 As2 ⟨s1, a2, cp20, hI2, hD1, hA1, hs2⟩
      subst As2
      replace g0_h1 := g0_h1.mono hD1
      replace g0_h2 := g0_h2.mono hD1
      refine c_frame _ hI2 ?_
      obtain ⟨y1, hx2, hs2⟩ := iter_some hs2
      replace hx2 := (congrFun hbody1 s1).trans hx2
      refine c_seq ?_
      refine c_seq ?_
      refine c_quiet ?_
      refine ql_q rfl (qs_ldpt encV fitv138 rfl 0 rfl (.slice a2 s1.1.length cp20) (Nat.le_of_ble_eq_true rfl) rfl) ?_
      refine ql_s (.int .i64 (s1.1.length : Int)) (by kernel_rfl) ?_
      refine ql_s (.bool (decide ((s1.1.length : Int) > 0))) (by kernel_rfl) ?_
      refine ql_nil ?_
      refine e_then ?_
      refine c_cond (decide ((s1.1.length : Int) > 0)) rfl (fun ht1 => ?_) (fun ht1 => ?_)
      · skip
        replace hx2 := if_t ht1 hx2
        refine c_skip ?_
        refine e_then ?_
        refine c_block ?_
        refine c_seq ?_
        obtain ⟨r1, hr1, hx2⟩ := bnd_some hx2
        refine c_region ?_
        refine l_q rfl (qs_mkI Tryz.underlying140 rfl rfl) ?_
        refine l_call rfl rfl Tryz.call85 (vs := [.iface 140 (.pointer (some ⟨b31, 0, none⟩))]) rfl (fun v D4 As4 => ∃ (a4 : Option Addr) (cp22 : Nat), PH.le D2 D4 ∧ v = .iface 136 (.agg #[.float .f32 r1.1.price, .int .i64 r1.1.k]) ∧ As4 = pt b31 [.slice a4 r1.2.length cp22] 138 :: OwnS D4 encS_road_reached 136 (.slice a4 r1.2.length cp22) r1.2 :: OwnS D2 encB 4 (.slice (some ⟨b9, 0, none⟩) l2.length cp3) s1.2.1 :: OwnS D2 encB 4 (.slice (some ⟨b27, 0, none⟩) l3.length cp16) s1.2.2.1 :: pt b4 [.int .i64 0, .slice none 0 0, .slice none 0 0] 95 :: pt b3 [.int .i64 g0.f.Region.X, .int .i64 g0.f.Region.Y, .int .i64 g0.f.Region.W, .int .i64 g0.f.Region.H, .slice g0_v1a g0.f.V.length g0_v1c, .float .f32 g0.s.Grade, .float .f32 g0.s.Weight, .float .f32 g0.s.Bridge, .float .f32 g0.s.Dear, .int .i64 g0.s.Span, .slice g0_v2a g0.s.Costly.length g0_v2c] 100 :: pt b8 [.int .i64 from0, .slice (some ⟨b10, 0, none⟩) l1.length cp4, .slice (some ⟨b9, 0, none⟩) l2.length cp3] 95 :: OwnS D2 (encF .f32) 35 (.slice (some ⟨b10, 0, none⟩) l1.length cp4) s1.2.2.2 :: F) (fun w hS => (container_heap_Pop_s b31 s1.1 a2 cp20 _  _ _ hr1 w (hS)).mono fun e w' ⟨D4, a4, cp22, hle2, he, hS2⟩ => ⟨_, D4, _, he, ⟨a4, cp22, hle2, rfl, rfl⟩, hS2⟩) ?_
        rintro _ D4 As4 ⟨a4, cp22, hle2, rfl, hA3⟩
        subst As4
        replace g0_h1 := g0_h1.mono hle2
        replace g0_h2 := g0_h2.mono hle2
        refine l_q rfl (qs_tyAs Tryz.underlying136 rfl rfl) ?_
        refine l_alloc (zs := [.float .f32 0, .int .i64 0]) rfl (by kernel_rfl) (fun b33 => ?_)
        refine l_store (dd := none) (vs := [.float .f32 r1.1.price, .int .i64 r1.1.k]) (cs' := [.float .f32 r1.1.price, .int .i64 r1.1.k]) rfl (by kernel_rfl) (by kernel_rfl) rfl rfl (Nat.le_of_ble_eq_true rfl) rfl rfl ?_
        refine l_nil ?_
        refine e_then ?_
        refine c_seq ?_
        refine c_seq ?_
        obtain ⟨x3, hx3, hx2⟩ := bnd_some hx2
        refine c_perm (fr1_perm 4 _) ?_
        refine c_adr (fun b34 hb1 hl5 hbd1 hcap1 => ?_)
        refine c_quiet ?_
        refine ql_s (.slice (some ⟨b27, 0, none⟩) l3.length cp16) (by kernel_rfl) ?_
        refine ql_s (.pointer (some ⟨b33, 1, none⟩)) (by kernel_rfl) ?_
        refine ql_q rfl (qs_ldpt encV fitv3 rfl 1 rfl (.int .i64 r1.1.k) (Nat.le_of_ble_eq_true rfl) rfl) ?_
        refine ql_q rfl (qs_idx (IsIdx.beg (e := encB) hb1 hl5 hx3) Tryz.underlying93 fit4 rfl rfl) ?_
        refine ql_q rfl (qs_ldS fit4 hb1 rfl rfl 0 rfl (idx_some hx3).2.2 (v := .bool x3) valB) ?_
        refine ql_nil ?_
        refine e_then ?_
        refine c_cond (x3) rfl (fun ht2 => ?_) (fun ht2 => ?_)
        · skip
          replace hx2 := if_t ht2 hx2
          refine c_exit ?_
          refine e_then_exit ?_
          refine e_blk_exit ?_
          refine e_perm (fr1_perm 1 _) ?_
          refine e_drop ?_
          refine e_perm (fr1_perm 7 _) ?_
          refine e_imp (OwnS.mono hle2) ?_
          refine e_perm (fr1_perm 7 _) ?_
          refine e_perm (fr1_perm 7 _) ?_
          refine e_perm (fr1_perm 7 _) ?_
          refine e_perm (fr1_perm 4 _) ?_
          refine e_imp (OwnS.mono hle2) ?_
          refine e_perm (fr1_perm 7 _) ?_
          refine e_imp (OwnS.mono hle2) ?_
          refine e_perm (fr1_perm 7 _) ?_
          refine e_perm (fr1_perm 7 _) ?_
          obtain rfl := Option.some.inj hx2
          exact e_cut ⟨(r1.2, s1.2.1, s1.2.2.1, s1.2.2.2), a4, cp22, ⟨rfl, rfl, rfl, rfl, rfl, trivial⟩, (PH.le_trans hD1 hle2), rfl, hs2⟩
        · skip
          replace hx2 := if_f ht2 hx2
          refine c_skip ?_
          refine e_then ?_
          refine c_seq ?_
          obtain ⟨x4, hx4, hx2⟩ := bnd_some hx2
          obtain ⟨l5, hl6, hx2⟩ := bnd_some hx2
          replace hl6 := Option.some.inj hl6
          refine c_region ?_
          refine l_s (.slice (some ⟨b27, 0, none⟩) l3.length cp16) (by kernel_rfl) ?_
          refine l_s (.pointer (some ⟨b33, 1, none⟩)) (by kernel_rfl) ?_
          refine l_q rfl (qs_ldpt encV fitv3 rfl 1 rfl (.int .i64 r1.1.k) (Nat.le_of_ble_eq_true rfl) rfl) ?_
          refine l_q rfl (qs_idx (IsIdx.beg (e := encB) hb1 hl5 hx4) Tryz.underlying93 fit4 rfl rfl) ?_
          refine l_stS (vs := [.bool true]) hb1 hl5 hl6 rfl fit4 rfl rfl rfl rfl (idx_some hx4).2.1 ?_
          refine l_nil ?_
          refine e_then ?_
          obtain ⟨r2, hr2, hx2⟩ := bnd_some hx2
          refine c_perm (fr1_perm 8 _) ?_
          refine c_adr (fun b35 hb2 hl7 hbd2 hcap2 => ?_)
          refine c_perm (fr1_perm 5 _) ?_
          refine c_adr (fun b36 hb3 hl8 hbd3 hcap3 => ?_)
          refine c_region ?_
          refine l_q rfl (qs_ldpt (encW 11 (by decide)) fitv100 rfl 7 rfl (.agg #[.int .i64 g0.f.Region.X, .int .i64 g0.f.Region.Y, .int .i64 g0.f.Region.W, .int .i64 g0.f.Region.H, .slice g0_v1a g0.f.V.length g0_v1c, .float .f32 g0.s.Grade, .float .f32 g0.s.Weight, .float .f32 g0.s.Bridge, .float .f32 g0.s.Dear, .int .i64 g0.s.Span, .slice g0_v2a g0.s.Costly.length g0_v2c]) (Nat.le_of_ble_eq_true rfl) rfl) ?_
          refine l_s (.pointer (some ⟨b33, 1, none⟩)) (by kernel_rfl) ?_
          refine l_q rfl (qs_ldpt encV fitv3 rfl 3 rfl (.int .i64 r1.1.k) (Nat.le_of_ble_eq_true rfl) rfl) ?_
          refine l_s (.func (.func 87) #[] #[.pointer (some ⟨b33, 0, none⟩), .pointer (some ⟨b8, 0, none⟩), .pointer (some ⟨b31, 0, none⟩)]) (by kernel_rfl) ?_
          refine l_perm (fr1_perm 1 _) ?_
          refine l_imp (OwnS.mono hle2) ?_
          refine l_perm (fr1_perm 1 _) ?_
          refine l_imp (OwnS.mono hle2) ?_
          refine l_call rfl rfl Tryz.call86 (vs := [.agg #[.int .i64 g0.f.Region.X, .int .i64 g0.f.Region.Y, .int .i64 g0.f.Region.W, .int .i64 g0.f.Region.H, .slice g0_v1a g0.f.V.length g0_v1c, .float .f32 g0.s.Grade, .float .f32 g0.s.Weight, .float .f32 g0.s.Bridge, .float .f32 g0.s.Dear, .int .i64 g0.s.Span, .slice g0_v2a g0.s.Costly.length g0_v2c], .int .i64 r1.1.k, .func (.func 87) #[] #[.pointer (some ⟨b33, 0, none⟩), .pointer (some ⟨b8, 0, none⟩), .pointer (some ⟨b31, 0, none⟩)]]) rfl (fun v D6 As6 => ∃ (a6 : Option Addr) (cp24 : Nat), PH.le D4 D6 ∧ v = .tuple #[] ∧ As6 = pt b33 [.float .f32 r1.1.price, .int .i64 r1.1.k] 136 :: pt b8 [.int .i64 from0, .slice (some ⟨b10, 0, none⟩) l1.length cp4, .slice (some ⟨b9, 0, none⟩) l2.length cp3] 95 :: OwnS D6 (encF .f32) 35 (.slice (some ⟨b10, 0, none⟩) l1.length cp4) r2.1 :: OwnS D6 encB 4 (.slice (some ⟨b9, 0, none⟩) l2.length cp3) r2.2.1 :: pt b31 [.slice a6 r2.2.2.length cp24] 138 :: OwnS D6 encS_road_reached 136 (.slice a6 r2.2.2.length cp24) r2.2.2 :: OwnS D2 encB 4 (.slice (some ⟨b27, 0, none⟩) l3.length cp16) l5 :: pt b4 [.int .i64 0, .slice none 0 0, .slice none 0 0] 95 :: pt b3 [.int .i64 g0.f.Region.X, .int .i64 g0.f.Region.Y, .int .i64 g0.f.Region.W, .int .i64 g0.f.Region.H, .slice g0_v1a g0.f.V.length g0_v1c, .float .f32 g0.s.Grade, .float .f32 g0.s.Weight, .float .f32 g0.s.Bridge, .float .f32 g0.s.Dear, .int .i64 g0.s.Span, .slice g0_v2a g0.s.Costly.length g0_v2c] 100 :: F) (fun w hS => (show Calls Tryz.prog 86 #[.agg #[.int .i64 g0.f.Region.X, .int .i64 g0.f.Region.Y, .int .i64 g0.f.Region.W, .int .i64 g0.f.Region.H, .slice g0_v1a g0.f.V.length g0_v1c, .float .f32 g0.s.Grade, .float .f32 g0.s.Weight, .float .f32 g0.s.Bridge, .float .f32 g0.s.Dear, .int .i64 g0.s.Span, .slice g0_v2a g0.s.Costly.length g0_v2c], .int .i64 r1.1.k, .func (.func 87) #[] #[.pointer (some ⟨b33, 0, none⟩), .pointer (some ⟨b8, 0, none⟩), .pointer (some ⟨b31, 0, none⟩)]] w (fun e w' => ∃ (D6 : PH) (a6 : Option Addr) (cp24 : Nat), PH.le D4 D6 ∧ e = .returned (.tuple #[]) ∧ SInv D6 (pt b33 [.float .f32 r1.1.price, .int .i64 r1.1.k] 136 :: pt b8 [.int .i64 from0, .slice (some ⟨b10, 0, none⟩) l1.length cp4, .slice (some ⟨b9, 0, none⟩) l2.length cp3] 95 :: OwnS D6 (encF .f32) 35 (.slice (some ⟨b10, 0, none⟩) l1.length cp4) r2.1 :: OwnS D6 encB 4 (.slice (some ⟨b9, 0, none⟩) l2.length cp3) r2.2.1 :: pt b31 [.slice a6 r2.2.2.length cp24] 138 :: OwnS D6 encS_road_reached 136 (.slice a6 r2.2.2.length cp24) r2.2.2 :: OwnS D2 encB 4 (.slice (some ⟨b27, 0, none⟩) l3.length cp16) l5 :: pt b4 [.int .i64 0, .slice none 0 0, .slice none 0 0] 95 :: pt b3 [.int .i64 g0.f.Region.X, .int .i64 g0.f.Region.Y, .int .i64 g0.f.Region.W, .int .i64 g0.f.Region.H, .slice g0_v1a g0.f.V.length g0_v1c, .float .f32 g0.s.Grade, .float .f32 g0.s.Weight, .float .f32 g0.s.Bridge, .float .f32 g0.s.Dear, .int .i64 g0.s.Span, .slice g0_v2a g0.s.Costly.length g0_v2c] 100 :: F) w') from by have hq := road_ground_each_s g0 g0_v1a g0_v1c g0_v2a g0_v2c r1.1.k b33 r1.1 b8 from0 s1.2.2.2 (some ⟨b10, 0, none⟩) cp4 s1.2.1 (some ⟨b9, 0, none⟩) cp3 b31 r1.2 a4 cp22 _ g0_h1 g0_h2 _ _ hr2 w (show SInv D4 (pt b33 [.float .f32 r1.1.price, .int .i64 r1.1.k] 136 :: pt b8 [.int .i64 from0, .slice (some ⟨b10, 0, none⟩) s1.2.2.2.length cp4, .slice (some ⟨b9, 0, none⟩) s1.2.1.length cp3] 95 :: OwnS D4 (encF .f32) 35 (.slice (some ⟨b10, 0, none⟩) s1.2.2.2.length cp4) s1.2.2.2 :: OwnS D4 encB 4 (.slice (some ⟨b9, 0, none⟩) s1.2.1.length cp3) s1.2.1 :: pt b31 [.slice a4 r1.2.length cp22] 138 :: OwnS D4 encS_road_reached 136 (.slice a4 r1.2.length cp22) r1.2 :: OwnS D2 encB 4 (.slice (some ⟨b27, 0, none⟩) l3.length cp16) l5 :: pt b4 [.int .i64 0, .slice none 0 0, .slice none 0 0] 95 :: pt b3 [.int .i64 g0.f.Region.X, .int .i64 g0.f.Region.Y, .int .i64 g0.f.Region.W, .int .i64 g0.f.Region.H, .slice g0_v1a g0.f.V.length g0_v1c, .float .f32 g0.s.Grade, .float .f32 g0.s.Weight, .float .f32 g0.s.Bridge, .float .f32 g0.s.Dear, .int .i64 g0.s.Span, .slice g0_v2a g0.s.Costly.length g0_v2c] 100 :: F) w from by have h2 : SInv D4 (pt b33 [.float .f32 r1.1.price, .int .i64 r1.1.k] 136 :: pt b8 [.int .i64 from0, .slice (some ⟨b10, 0, none⟩) l1.length cp4, .slice (some ⟨b9, 0, none⟩) l2.length cp3] 95 :: OwnS D4 (encF .f32) 35 (.slice (some ⟨b10, 0, none⟩) l1.length cp4) s1.2.2.2 :: OwnS D4 encB 4 (.slice (some ⟨b9, 0, none⟩) l2.length cp3) s1.2.1 :: pt b31 [.slice a4 r1.2.length cp22] 138 :: OwnS D4 encS_road_reached 136 (.slice a4 r1.2.length cp22) r1.2 :: OwnS D2 encB 4 (.slice (some ⟨b27, 0, none⟩) l3.length cp16) l5 :: pt b4 [.int .i64 0, .slice none 0 0, .slice none 0 0] 95 :: pt b3 [.int .i64 g0.f.Region.X, .int .i64 g0.f.Region.Y, .int .i64 g0.f.Region.W, .int .i64 g0.f.Region.H, .slice g0_v1a g0.f.V.length g0_v1c, .float .f32 g0.s.Grade, .float .f32 g0.s.Weight, .float .f32 g0.s.Bridge, .float .f32 g0.s.Dear, .int .i64 g0.s.Span, .slice g0_v2a g0.s.Costly.length g0_v2c] 100 :: F) w := (((((hS.perm (fr1_perm 5 _)).perm (fr1_perm 5 _)).perm (fr1_perm 2 _)).perm (fr1_perm 3 _)).perm (fr1_perm 8 _)).perm (fr1_perm 6 _); rw [← hl7, ← hl8] at h2; exact h2); (try simp only [hl7, hl8] at hq); exact hq).mono fun e w' ⟨D6, a6, cp24, hle4, he, hS2⟩ => ⟨_, D6, _, he, ⟨a6, cp24, hle4, rfl, rfl⟩, hS2⟩) ?_
          rintro _ D6 As6 ⟨a6, cp24, hle4, rfl, hA5⟩
          subst As6
          replace g0_h1 := g0_h1.mono hle4
          replace g0_h2 := g0_h2.mono hle4
          refine l_nil ?_
          refine e_drop ?_
          refine e_blk ?_
          refine e_perm (fr1_perm 1 _) ?_
          refine e_perm (fr1_perm 1 _) ?_
          refine e_perm (fr1_perm 7 _) ?_
          refine e_perm (fr1_perm 7 _) ?_
          refine e_perm (fr1_perm 7 _) ?_
          refine e_imp (OwnS.mono (PH.le_trans hle2 hle4)) ?_
          refine e_perm (fr1_perm 5 _) ?_
          refine e_perm (fr1_perm 7 _) ?_
          refine e_perm (fr1_perm 7 _) ?_
          obtain rfl := Option.some.inj hx2
          exact e_cut ⟨(r2.2.2, r2.2.1, l5, r2.1), a6, cp24, ⟨rfl, rfl, rfl, rfl, rfl, trivial⟩, (PH.le_trans (PH.le_trans hD1 hle2) hle4), rfl, hs2⟩
      · skip
        replace hx2 := if_f ht1 hx2
        refine c_exit ?_
        refine e_then_exit ?_
        refine e_then_exit ?_
        obtain rfl := Option.some.inj hx2
        obtain rfl := hs2
        refine e_blk_exit ?_
        refine e_perm (fr1_perm 7 _) ?_
        refine e_perm (fr1_perm 7 _) ?_
        refine e_perm (fr1_perm 7 _) ?_
        refine e_perm (fr1_perm 7 _) ?_
        refine e_perm (fr1_perm 7 _) ?_
        refine e_perm (fr1_perm 7 _) ?_
        refine e_perm (fr1_perm 7 _) ?_
        refine e_perm (fr1_perm 7 _) ?_
        exact e_cut ⟨a2, cp20, ⟨rfl, rfl, trivial⟩, hD1, rfl⟩
    · skip
      rintro φ3 D1 As7 ⟨a1, cp19, hI3, hD2, hA6⟩
      subst As7
      replace g0_h1 := g0_h1.mono hD2
      replace g0_h2 := g0_h2.mono hD2
      refine e_frame _ hI3 ?_
      refine e_then ?_
      refine c_seq ?_
      refine c_region ?_
      refine l_q rfl (qs_ldpt (encW 3 (by decide)) fitv95 rfl 6 rfl (.agg #[.int .i64 from0, .slice (some ⟨b10, 0, none⟩) l1.length cp4, .slice (some ⟨b9, 0, none⟩) l2.length cp3]) (Nat.le_of_ble_eq_true rfl) rfl) ?_
      refine l_perm (fr1_perm 4 _) ?_
      refine l_store (dd := none) (vs := [.int .i64 from0, .slice (some ⟨b10, 0, none⟩) l1.length cp4, .slice (some ⟨b9, 0, none⟩) l2.length cp3]) (cs' := [.int .i64 from0, .slice (some ⟨b10, 0, none⟩) l1.length cp4, .slice (some ⟨b9, 0, none⟩) l2.length cp3]) rfl (by kernel_rfl) (by kernel_rfl) rfl rfl (Nat.le_of_ble_eq_true rfl) rfl rfl ?_
      refine l_nil ?_
      refine e_perm (fr1_perm 1 _) ?_
      refine e_drop ?_
      refine e_perm (fr1_perm 1 _) ?_
      refine e_drop ?_
      refine e_perm (fr1_perm 2 _) ?_
      refine e_drop ?_
      refine e_perm (fr1_perm 2 _) ?_
      refine e_drop ?_
      refine e_perm (fr1_perm 2 _) ?_
      refine e_drop ?_
      refine e_then ?_
      refine c_ret ?_
      refine e_perm (fr1_perm 2 _) ?_
      refine e_adr (fun b37 hb4 hl9 hbd4 hcap4 => ?_)
      refine e_layS (PH.le_refl _) (fun D7 hle5 h1 => ?_)
      replace g0_h1 := g0_h1.mono hle5
      replace g0_h2 := g0_h2.mono hle5
      refine e_perm (fr1_perm 1 _) ?_
      refine e_adr (fun b38 hb5 hl10 hbd5 hcap5 => ?_)
      refine e_layS hle5 (fun D8 hle6 h2 => ?_)
      replace g0_h1 := g0_h1.mono hle6
      replace g0_h2 := g0_h2.mono hle6
      replace h1 := h1.mono hle6
      obtain rfl := Option.some.inj hp
      exact post_all (vs := [.agg #[.int .i64 from0, .slice (some ⟨b10, 0, none⟩) l1.length cp4, .slice (some ⟨b9, 0, none⟩) l2.length cp3]]) (.agg #[.int .i64 from0, .slice (some ⟨b10, 0, none⟩) l1.length cp4, .slice (some ⟨b9, 0, none⟩) l2.length cp3]) ⟨⟨_, 0, _, _, 3, by decide, rfl, rfl, .inr ⟨fitv95, rfl, rfl⟩⟩, trivial⟩ rfl (.inl rfl) (fun w hS => ⟨D8, some ⟨b10, 0, none⟩, cp4, some ⟨b9, 0, none⟩, cp3, (PH.le_trans (PH.le_trans hD2 hle5) hle6), (by simp only [hl9, hl10]), (by rw [hl9]; exact h1), (by rw [hl10]; exact h2), (by have h2 : SInv D8 (F) w := hS.tail; simpa only [hl9, hl10] using h2)⟩)

-- tarnfell/road.pricesFrom
set_option maxRecDepth 100000 in
set_option maxHeartbeats 2000000 in
theorem road_pricesFrom_s (f0 : S_api_Field) (f0_v1a : Option Addr) (f0_v1c : Nat) (s0 : S_api_RoadRules) (s0_v1a : Option Addr) (s0_v1c : Nat) (from0 : S_api_Point) (D : PH) (f0_h1 : RO (encF .f32) D (.slice f0_v1a f0.V.length f0_v1c) f0.V) (s0_h1 : RO encS_api_Field D (.slice s0_v1a s0.Costly.length s0_v1c) s0.Costly) (F : List Assert) (r : S_road_prices × Int) (hp : road_pricesFrom_p f0 s0 from0 = some r) : ∀ w : World, SInv D (F) w → Calls Tryz.prog 43 #[.agg #[.int .i64 f0.Region.X, .int .i64 f0.Region.Y, .int .i64 f0.Region.W, .int .i64 f0.Region.H, .slice f0_v1a f0.V.length f0_v1c], .agg #[.float .f32 s0.Grade, .float .f32 s0.Weight, .float .f32 s0.Bridge, .float .f32 s0.Dear, .int .i64 s0.Span, .slice s0_v1a s0.Costly.length s0_v1c], .agg #[.int .i64 from0.X, .int .i64 from0.Y]] w (fun e w' => ∃ (D1 : PH) (q_a1 : Option Addr) (q_cp1 : Nat) (q_a2 : Option Addr) (q_cp2 : Nat), PH.le D D1 ∧ e = .returned (.tuple #[.agg #[.int .i64 r.1.from0, .slice q_a1 r.1.price.length q_cp1, .slice q_a2 r.1.ok.length q_cp2], .int .i64 r.2]) ∧ RO (encF .f32) D1 (.slice q_a1 r.1.price.length q_cp1) r.1.price ∧ RO encB D1 (.slice q_a2 r.1.ok.length q_cp2) r.1.ok ∧ SInv D1 (F) w') := by
  intro w hS
  refine call_intro Tryz.func43 rfl Tryz.ntmps43 (Nat.le_of_ble_eq_true rfl) hS ?_
  clear hS w
  unfold road_pricesFrom_p at hp
  refine c_seq ?_
  refine c_region ?_
  refine l_box (cs := [.int .i64 f0.Region.X, .int .i64 f0.Region.Y, .int .i64 f0.Region.W, .int .i64 f0.Region.H, .slice f0_v1a f0.V.length f0_v1c]) rfl rfl (fun b5 => ?_)
  refine l_box (cs := [.float .f32 s0.Grade, .float .f32 s0.Weight, .float .f32 s0.Bridge, .float .f32 s0.Dear, .int .i64 s0.Span, .slice s0_v1a s0.Costly.length s0_v1c]) rfl rfl (fun b6 => ?_)
  refine l_box (cs := [.int .i64 from0.X, .int .i64 from0.Y]) rfl rfl (fun b7 => ?_)
  refine l_alloc (zs := [.int .i64 0, .slice none 0 0, .slice none 0 0]) rfl (by kernel_rfl) (fun b8 => ?_)
  refine l_s (.int .i64 0) (by kernel_rfl) ?_
  refine l_nil ?_
  refine e_then ?_
  refine c_seq ?_
  refine c_seq ?_
  obtain ⟨r1, hr1, hp⟩ := bnd_some hp
  refine c_quiet ?_
  refine ql_q rfl (qs_ldpt (encW 5 (by decide)) fitv61 rfl 3 rfl (.agg #[.int .i64 f0.Region.X, .int .i64 f0.Region.Y, .int .i64 f0.Region.W, .int .i64 f0.Region.H, .slice f0_v1a f0.V.length f0_v1c]) (Nat.le_of_ble_eq_true rfl) rfl) ?_
  refine ql_q rfl (qs_ldpt (encW 6 (by decide)) fitv66 rfl 2 rfl (.agg #[.float .f32 s0.Grade, .float .f32 s0.Weight, .float .f32 s0.Bridge, .float .f32 s0.Dear, .int .i64 s0.Span, .slice s0_v1a s0.Costly.length s0_v1c]) (Nat.le_of_ble_eq_true rfl) rfl) ?_
  refine ql_call (v := .int .i64 r1) rfl (run_call (vs := [.agg #[.int .i64 f0.Region.X, .int .i64 f0.Region.Y, .int .i64 f0.Region.W, .int .i64 f0.Region.H, .slice f0_v1a f0.V.length f0_v1c], .agg #[.float .f32 s0.Grade, .float .f32 s0.Weight, .float .f32 s0.Bridge, .float .f32 s0.Dear, .int .i64 s0.Span, .slice s0_v1a s0.Costly.length s0_v1c]]) rfl Tryz.call41 rfl) (fun w hS => (road_check_s f0 f0_v1a f0_v1c s0 s0_v1a s0_v1c _ f0_h1 s0_h1 _ _ hr1 w (hS)).mono fun e w' h => ⟨h.1, h.2⟩) ?_
  refine ql_s (.int .i64 r1) (by kernel_rfl) ?_
  refine ql_nil ?_
  refine e_then ?_
  refine c_seq ?_
  refine c_quiet ?_
  refine ql_s (.int .i64 r1) (by kernel_rfl) ?_
  refine ql_s (.bool (r1 != 0)) (by kernel_rfl) ?_
  refine ql_nil ?_
  refine e_then ?_
  refine c_cond ((r1 != 0)) rfl (fun ht1 => ?_) (fun ht1 => ?_)
  · skip
    replace hp := if_t ht1 hp
    refine c_seq ?_
    refine c_region ?_
    refine l_s (.agg #[.int .i64 0, .slice none 0 0, .slice none 0 0]) (by kernel_rfl) ?_
    refine l_s (.int .i64 r1) (by kernel_rfl) ?_
    refine l_store (dd := none) (vs := [.int .i64 0, .slice none 0 0, .slice none 0 0]) (cs' := [.int .i64 0, .slice none 0 0, .slice none 0 0]) rfl (by kernel_rfl) (by kernel_rfl) rfl rfl (Nat.le_of_ble_eq_true rfl) rfl rfl ?_
    refine l_s (.int .i64 r1) (by kernel_rfl) ?_
    refine l_nil ?_
    refine e_perm (fr1_perm 1 _) ?_
    refine e_drop ?_
    refine e_perm (fr1_perm 1 _) ?_
    refine e_drop ?_
    refine e_perm (fr1_perm 1 _) ?_
    refine e_drop ?_
    refine e_then ?_
    refine c_ret ?_
    refine e_then_ret ?_
    obtain rfl := Option.some.inj hp
    exact post_all (vs := [.agg #[.int .i64 0, .slice none 0 0, .slice none 0 0], .int .i64 r1]) (.tuple #[.agg #[.int .i64 0, .slice none 0 0, .slice none 0 0], .int .i64 r1]) ⟨⟨_, 0, _, _, 3, by decide, rfl, rfl, .inr ⟨fitv95, rfl, rfl⟩⟩, rfl, trivial⟩ rfl (.inl rfl) (fun w hS => ⟨D, none, 0, none, 0, (PH.le_refl _), rfl, (RO.nil _ _), (RO.nil _ _), hS.tail⟩)
  · skip
    replace hp := if_f ht1 hp
    refine c_skip ?_
    refine e_then ?_
    refine c_seq ?_
    refine c_seq ?_
    obtain ⟨r2, hr2, hp⟩ := bnd_some hp
    refine c_region ?_
    refine l_q rfl (qs_ldpt (encW 5 (by decide)) fitv61 rfl 3 rfl (.agg #[.int .i64 f0.Region.X, .int .i64 f0.Region.Y, .int .i64 f0.Region.W, .int .i64 f0.Region.H, .slice f0_v1a f0.V.length f0_v1c]) (Nat.le_of_ble_eq_true rfl) rfl) ?_
    refine l_q rfl (qs_ldpt (encW 2 (by decide)) fitv43 rfl 1 rfl (.agg #[.int .i64 from0.X, .int .i64 from0.Y]) (Nat.le_of_ble_eq_true rfl) rfl) ?_
    refine l_bslS (cs := [.int .i64 from0.X, .int .i64 from0.Y]) (E := 43) (e := encS_api_Point) ([from0] : List S_api_Point) rfl (by kernel_rfl) rfl rfl (Nat.le_of_ble_eq_true rfl) ⟨rfl, trivial⟩ (fun b10 cp2 => ?_)
    refine l_callq (v := .int .i64 r2) rfl rfl Tryz.call42 (vs := [.agg #[.int .i64 f0.Region.X, .int .i64 f0.Region.Y, .int .i64 f0.Region.W, .int .i64 f0.Region.H, .slice f0_v1a f0.V.length f0_v1c], .slice (some ⟨b10, 0, none⟩) ([from0] : List S_api_Point).length cp2]) rfl (fun w hS => (calls_thaw (PH.le_refl _) (hS) (fun D0' hLl0 hLr0 hS => (road_inside_s f0 f0_v1a f0_v1c ([from0] : List S_api_Point) (some ⟨b10, 0, none⟩) cp2 _ (f0_h1.mono hLl0) hLr0 _ _ hr2 w (hS)).mono fun e w' h => ⟨h.1, h.2⟩)).mono fun e w' h => ⟨h.1, h.2⟩) ?_
    refine l_s (.int .i64 r2) (by kernel_rfl) ?_
    refine l_nil ?_
    refine e_drop ?_
    refine e_then ?_
    refine c_seq ?_
    refine c_quiet ?_
    refine ql_s (.int .i64 r2) (by kernel_rfl) ?_
    refine ql_s (.bool (r2 != 0)) (by kernel_rfl) ?_
    refine ql_nil ?_
    refine e_then ?_
    refine c_cond ((r2 != 0)) rfl (fun ht2 => ?_) (fun ht2 => ?_)
    · skip
      replace hp := if_t ht2 hp
      refine c_seq ?_
      refine c_region ?_
      refine l_s (.agg #[.int .i64 0, .slice none 0 0, .slice none 0 0]) (by kernel_rfl) ?_
      refine l_s (.int .i64 r2) (by kernel_rfl) ?_
      refine l_store (dd := none) (vs := [.int .i64 0, .slice none 0 0, .slice none 0 0]) (cs' := [.int .i64 0, .slice none 0 0, .slice none 0 0]) rfl (by kernel_rfl) (by kernel_rfl) rfl rfl (Nat.le_of_ble_eq_true rfl) rfl rfl ?_
      refine l_s (.int .i64 r2) (by kernel_rfl) ?_
      refine l_nil ?_
      refine e_perm (fr1_perm 1 _) ?_
      refine e_drop ?_
      refine e_perm (fr1_perm 1 _) ?_
      refine e_drop ?_
      refine e_perm (fr1_perm 1 _) ?_
      refine e_drop ?_
      refine e_then ?_
      refine c_ret ?_
      refine e_then_ret ?_
      obtain rfl := Option.some.inj hp
      exact post_all (vs := [.agg #[.int .i64 0, .slice none 0 0, .slice none 0 0], .int .i64 r2]) (.tuple #[.agg #[.int .i64 0, .slice none 0 0, .slice none 0 0], .int .i64 r2]) ⟨⟨_, 0, _, _, 3, by decide, rfl, rfl, .inr ⟨fitv95, rfl, rfl⟩⟩, rfl, trivial⟩ rfl (.inl rfl) (fun w hS => ⟨D, none, 0, none, 0, (PH.le_refl _), rfl, (RO.nil _ _), (RO.nil _ _), hS.tail⟩)
    · skip
      replace hp := if_f ht2 hp
      refine c_skip ?_
      refine e_then ?_
      refine c_seq ?_
      obtain ⟨r3, hr3, hp⟩ := bnd_some hp
      refine c_quiet ?_
      refine ql_s (.pointer (some ⟨b5, 0, none⟩)) (by kernel_rfl) ?_
      refine ql_q rfl (qs_ldpt (encW 4 (by decide)) fitv59 rfl 3 rfl (.agg #[.int .i64 f0.Region.X, .int .i64 f0.Region.Y, .int .i64 f0.Region.W, .int .i64 f0.Region.H]) (Nat.le_of_ble_eq_true rfl) rfl) ?_
      refine ql_s (.pointer (some ⟨b7, 0, none⟩)) (by kernel_rfl) ?_
      refine ql_q rfl (qs_ldpt encV fitv3 rfl 1 rfl (.int .i64 from0.X) (Nat.le_of_ble_eq_true rfl) rfl) ?_
      refine ql_s (.pointer (some ⟨b7, 1, none⟩)) (by kernel_rfl) ?_
      refine ql_q rfl (qs_ldpt encV fitv3 rfl 1 rfl (.int .i64 from0.Y) (Nat.le_of_ble_eq_true rfl) rfl) ?_
      refine ql_call (v := .tuple #[.int .i64 r3.1, .bool r3.2]) rfl (run_call (vs := [.agg #[.int .i64 f0.Region.X, .int .i64 f0.Region.Y, .int .i64 f0.Region.W, .int .i64 f0.Region.H], .int .i64 from0.X, .int .i64 from0.Y]) rfl Tryz.call44 rfl) (fun w hS => (field_Place_s f0.Region from0.X from0.Y _  _ _ hr3 w (hS)).mono fun e w' h => ⟨h.1, h.2⟩) ?_
      refine ql_s (.tuple #[.int .i64 r3.1, .bool r3.2]) (by kernel_rfl) ?_
      refine ql_s (.int .i64 r3.1) (by kernel_rfl) ?_
      refine ql_s (.bool r3.2) (by kernel_rfl) ?_
      refine ql_s (.int .i64 r3.1) (by kernel_rfl) ?_
      refine ql_s (.bool r3.2) (by kernel_rfl) ?_
      refine ql_nil ?_
      refine e_perm (fr1_perm 1 _) ?_
      refine e_drop ?_
      refine e_then ?_
      refine c_seq ?_
      obtain ⟨r4, hr4, hp⟩ := bnd_some hp
      refine c_region ?_
      refine l_q rfl (qs_ldpt (encW 5 (by decide)) fitv61 rfl 2 rfl (.agg #[.int .i64 f0.Region.X, .int .i64 f0.Region.Y, .int .i64 f0.Region.W, .int .i64 f0.Region.H, .slice f0_v1a f0.V.length f0_v1c]) (Nat.le_of_ble_eq_true rfl) rfl) ?_
      refine l_q rfl (qs_ldpt (encW 6 (by decide)) fitv66 rfl 1 rfl (.agg #[.float .f32 s0.Grade, .float .f32 s0.Weight, .float .f32 s0.Bridge, .float .f32 s0.Dear, .int .i64 s0.Span, .slice s0_v1a s0.Costly.length s0_v1c]) (Nat.le_of_ble_eq_true rfl) rfl) ?_
      refine l_s (.agg #[.int .i64 f0.Region.X, .int .i64 f0.Region.Y, .int .i64 f0.Region.W, .int .i64 f0.Region.H, .slice f0_v1a f0.V.length f0_v1c, .float .f32 s0.Grade, .float .f32 s0.Weight, .float .f32 s0.Bridge, .float .f32 s0.Dear, .int .i64 s0.Span, .slice s0_v1a s0.Costly.length s0_v1c]) (by kernel_rfl) ?_
      refine l_s (.int .i64 r3.1) (by kernel_rfl) ?_
      refine l_call rfl rfl Tryz.call61 (vs := [.agg #[.int .i64 f0.Region.X, .int .i64 f0.Region.Y, .int .i64 f0.Region.W, .int .i64 f0.Region.H, .slice f0_v1a f0.V.length f0_v1c, .float .f32 s0.Grade, .float .f32 s0.Weight, .float .f32 s0.Bridge, .float .f32 s0.Dear, .int .i64 s0.Span, .slice s0_v1a s0.Costly.length s0_v1c], .int .i64 r3.1]) rfl (fun v D2 As2 => ∃ (a3 : Option Addr) (cp5 : Nat) (a4 : Option Addr) (cp6 : Nat), PH.le D D2 ∧ v = .agg #[.int .i64 r4.from0, .slice a3 r4.price.length cp5, .slice a4 r4.ok.length cp6] ∧ RO (encF .f32) D2 (.slice a3 r4.price.length cp5) r4.price ∧ RO encB D2 (.slice a4 r4.ok.length cp6) r4.ok ∧ As2 = pt b8 [.int .i64 0, .slice none 0 0, .slice none 0 0] 95 :: pt b6 [.float .f32 s0.Grade, .float .f32 s0.Weight, .float .f32 s0.Bridge, .float .f32 s0.Dear, .int .i64 s0.Span, .slice s0_v1a s0.Costly.length s0_v1c] 66 :: pt b5 [.int .i64 f0.Region.X, .int .i64 f0.Region.Y, .int .i64 f0.Region.W, .int .i64 f0.Region.H, .slice f0_v1a f0.V.length f0_v1c] 61 :: F) (fun w hS => (road_ground_prices_s (⟨f0, s0⟩ : S_road_ground) f0_v1a f0_v1c s0_v1a s0_v1c r3.1 _ f0_h1 s0_h1 _ _ hr4 w (hS)).mono fun e w' ⟨D2, a3, cp5, a4, cp6, hle2, he, h3, h4, hS2⟩ => ⟨_, D2, _, he, ⟨a3, cp5, a4, cp6, hle2, rfl, h3, h4, rfl⟩, hS2⟩) ?_
      rintro _ D2 As2 ⟨a3, cp5, a4, cp6, hle2, rfl, h3, h4, hA2⟩
      subst As2
      replace f0_h1 := f0_h1.mono hle2
      replace s0_h1 := s0_h1.mono hle2
      refine l_store (dd := none) (vs := [.int .i64 r4.from0, .slice a3 r4.price.length cp5, .slice a4 r4.ok.length cp6]) (cs' := [.int .i64 r4.from0, .slice a3 r4.price.length cp5, .slice a4 r4.ok.length cp6]) rfl (by kernel_rfl) (by kernel_rfl) rfl rfl (Nat.le_of_ble_eq_true rfl) rfl rfl ?_
      refine l_s (.int .i64 0) (by kernel_rfl) ?_
      refine l_nil ?_
      refine e_perm (fr1_perm 1 _) ?_
      refine e_drop ?_
      refine e_perm (fr1_perm 1 _) ?_
      refine e_drop ?_
      refine e_then ?_
      refine c_ret ?_
      obtain rfl := Option.some.inj hp
      exact post_all (vs := [.agg #[.int .i64 r4.from0, .slice a3 r4.price.length cp5, .slice a4 r4.ok.length cp6], .int .i64 0]) (.tuple #[.agg #[.int .i64 r4.from0, .slice a3 r4.price.length cp5, .slice a4 r4.ok.length cp6], .int .i64 0]) ⟨⟨_, 0, _, _, 3, by decide, rfl, rfl, .inr ⟨fitv95, rfl, rfl⟩⟩, rfl, trivial⟩ rfl (.inl rfl) (fun w hS => ⟨D2, a3, cp5, a4, cp6, hle2, rfl, h3, h4, hS.tail⟩)

-- (tarnfell/road.ground).hops$1
set_option maxRecDepth 100000 in
set_option maxHeartbeats 2000000 in
theorem road_ground_hops_1_s (to0 : Int) (c0 : Nat) (b_p0 : Nat) (p0 : List Int) (p0_a : Option Addr) (p0_c : Nat) (b_p00 : Nat) (p00 : S_road_prices) (p00_v1a : Option Addr) (p00_v1c : Nat) (p00_v2a : Option Addr) (p00_v2c : Nat) (b_p000 : Nat) (p000 : Int) (b_p0000 : Nat) (p0000 : List Int) (p0000_a : Option Addr) (p0000_c : Nat) (D : PH) (p00_h1 : RO (encF .f32) D (.slice p00_v1a p00.price.length p00_v1c) p00.price) (p00_h2 : RO encB D (.slice p00_v2a p00.ok.length p00_v2c) p00.ok) (F : List Assert) (r : (List Int) × (List Int)) (hp : road_ground_hops_1_p to0 c0 p0 p00 p000 p0000 = some r) : ∀ w : World, SInv D (pt b_p0 [.slice p0_a p0.length p0_c] 32 :: OwnS D (encI .i64) 3 (.slice p0_a p0.length p0_c) p0 :: pt b_p00 [.int .i64 p00.from0, .slice p00_v1a p00.price.length p00_v1c, .slice p00_v2a p00.ok.length p00_v2c] 95 :: pt b_p000 [.int .i64 p000] 3 :: pt b_p0000 [.slice p0000_a p0000.length p0000_c] 32 :: OwnS D (encI .i64) 3 (.slice p0000_a p0000.length p0000_c) p0000 :: F) w → Calls Tryz.prog 89 #[.int .i64 to0, .float .f32 c0, .pointer (some ⟨b_p0, 0, none⟩), .pointer (some ⟨b_p00, 0, none⟩), .pointer (some ⟨b_p000, 0, none⟩), .pointer (some ⟨b_p0000, 0, none⟩)] w (fun e w' => ∃ (D1 : PH) (q_a1 : Option Addr) (q_cp1 : Nat), PH.le D D1 ∧ e = .returned (.tuple #[]) ∧ SInv D1 (pt b_p0 [.slice p0_a p0.length p0_c] 32 :: OwnS D1 (encI .i64) 3 (.slice p0_a p0.length p0_c) r.1 :: pt b_p00 [.int .i64 p00.from0, .slice p00_v1a p00.price.length p00_v1c, .slice p00_v2a p00.ok.length p00_v2c] 95 :: pt b_p000 [.int .i64 p000] 3 :: pt b_p0000 [.slice q_a1 r.2.length q_cp1] 32 :: OwnS D1 (encI .i64) 3 (.slice q_a1 r.2.length q_cp1) r.2 :: F) w') := by
  intro w hS
  refine call_intro Tryz.func89 rfl Tryz.ntmps89 (Nat.le_of_ble_eq_true rfl) hS ?_
  clear hS w
  unfold road_ground_hops_1_p at hp
  refine c_seq ?_
  refine c_perm (fr1_perm 1 _) ?_
  refine c_adr (fun b1 hb1 hl1 hbd1 hcap1 => ?_)
  obtain ⟨c1, hc1, hp⟩ := bnd_some hp
  refine c_cutq_end [(0, .int .i64 to0), (2, .pointer (some ⟨b_p0, 0, none⟩)), (4, .pointer (some ⟨b_p000, 0, none⟩)), (5, .pointer (some ⟨b_p0000, 0, none⟩)), (27, .bool c1)] ?_ ?_
  · skip
    refine c_quiet_draw hmix (by kernel_rfl) ?_
    refine ql_q rfl (qs_ldpt encV fitv32 rfl 1 rfl (.slice p0_a p0.length p0_c) (Nat.le_of_ble_eq_true rfl) rfl) ?_
    refine ql_s (.int .i64 to0) (by kernel_rfl) ?_
    obtain ⟨x1, hx1, hc1⟩ := bnd_some hc1
    refine ql_q rfl (qs_idx (IsIdx.beg (e := encI .i64) hb1 rfl hx1) Tryz.underlying32 fit3 rfl rfl) ?_
    obtain ⟨x2, hx2, hc1⟩ := bnd_some hc1
    refine ql_q rfl (qs_ldS fit3 hb1 rfl rfl 0 rfl (idx_some hx2).2.2 (v := .int .i64 x2) valI) ?_
    refine ql_s (.bool (x2 == (-1))) (by kernel_rfl) ?_
    refine ql_s (.bool (x2 == (-1))) (by kernel_rfl) ?_
    refine ql_case 13 ((x2 == (-1))) rfl (fun hg1 => ?_) (fun hg1 => ?_)
    · skip
      replace hc1 := if_t hg1 hc1
      refine ql_s (.pointer (some ⟨b_p00, 1, none⟩)) (by kernel_rfl) ?_
      refine ql_q rfl (qs_ldpt encV fitv38 rfl 2 rfl (.slice p00_v1a p00.price.length p00_v1c) (Nat.le_of_ble_eq_true rfl) rfl) ?_
      refine ql_q rfl (qs_ldpt encV fitv3 rfl 3 rfl (.int .i64 p000) (Nat.le_of_ble_eq_true rfl) rfl) ?_
      obtain ⟨x3, hx3, hc1⟩ := bnd_some hc1
      obtain ⟨b2, o1, h1, hq1⟩ := RO.at p00_h1 hx3
      refine ql_q rfl (qs_idx hq1 Tryz.underlying38 fit35 rfl rfl) ?_
      refine ql_q rfl (qs_ldAtV fit35 rfl h1 valF) ?_
      refine ql_s (.float .f32 c0) (by kernel_rfl) ?_
      obtain ⟨r1, hr1, hc1⟩ := bnd_some hc1
      refine ql_q rfl (qs_fop hr1 rfl rfl) ?_
      refine ql_s (.pointer (some ⟨b_p00, 1, none⟩)) (by kernel_rfl) ?_
      refine ql_q rfl (qs_ldpt encV fitv38 rfl 2 rfl (.slice p00_v1a p00.price.length p00_v1c) (Nat.le_of_ble_eq_true rfl) rfl) ?_
      refine ql_s (.int .i64 to0) (by kernel_rfl) ?_
      obtain ⟨x4, hx4, hc1⟩ := bnd_some hc1
      obtain ⟨b3, o2, h2, hq2⟩ := RO.at p00_h1 hx4
      refine ql_q rfl (qs_idx hq2 Tryz.underlying38 fit35 rfl rfl) ?_
      refine ql_q rfl (qs_ldAtV fit35 rfl h2 valF) ?_
      refine ql_s (.bool (feq .f32 r1 x4)) (by kernel_rfl) ?_
      refine ql_s (.bool (feq .f32 r1 x4)) (by kernel_rfl) ?_
      refine ql_nil (e_cutq ?_)
      obtain rfl := Option.some.inj hc1
      exact ⟨rfl, rfl, rfl, rfl, rfl, trivial⟩
    · skip
      replace hc1 := if_f hg1 hc1
      refine ql_s undef (by kernel_rfl) ?_
      refine ql_s undef (by kernel_rfl) ?_
      refine ql_s undef (by kernel_rfl) ?_
      refine ql_s undef (by kernel_rfl) ?_
      refine ql_s undef (by kernel_rfl) ?_
      refine ql_s undef (by kernel_rfl) ?_
      refine ql_s undef (by kernel_rfl) ?_
      refine ql_s undef (by kernel_rfl) ?_
      refine ql_s undef (by kernel_rfl) ?_
      refine ql_s undef (by kernel_rfl) ?_
      refine ql_s undef (by kernel_rfl) ?_
      refine ql_s undef (by kernel_rfl) ?_
      refine ql_s undef (by kernel_rfl) ?_
      refine ql_s (.bool false) (by kernel_rfl) ?_
      refine ql_nil (e_cutq ?_)
      obtain rfl := Option.some.inj hc1
      exact ⟨rfl, rfl, rfl, rfl, rfl, trivial⟩
  intro _
  refine e_then ?_
  refine c_cond (c1) rfl (fun ht1 => ?_) (fun ht1 => ?_)
  · skip
    replace hp := if_t ht1 hp
    refine c_seq ?_
    obtain ⟨x5, hx5, hp⟩ := bnd_some hp
    obtain ⟨x6, hx6, hp⟩ := bnd_some hp
    obtain ⟨l1, hl2, hp⟩ := bnd_some hp
    replace hl2 := Option.some.inj hl2
    refine c_perm (fr1_perm 5 _) ?_
    refine c_perm (fr1_perm 5 _) ?_
    refine c_perm (fr1_perm 5 _) ?_
    refine c_perm (fr1_perm 5 _) ?_
    refine c_perm (fr1_perm 5 _) ?_
    refine c_order (B := [pt b_p0 [.slice p0_a p0.length p0_c] 32, pt b_p00 [.int .i64 p00.from0, .slice p00_v1a p00.price.length p00_v1c, .slice p00_v2a p00.ok.length p00_v2c] 95, pt b_p000 [.int .i64 p000] 3, pt b_p0000 [.slice p0000_a p0000.length p0000_c] 32, OwnS D (encI .i64) 3 (.slice p0000_a p0000.length p0000_c) p0000]) (.q 0 (.q 1 (.q 2 (.q 3 (.q 4 (.e 5 (.q 6 (.q 7 (.e 8 .nil))))))))) hmix (by kernel_rfl) (NoPanic.then NoPanic.post) ?_
    refine o_qs rfl rfl (qs_ldpt encV fitv32 rfl 0 rfl (.slice p0_a p0.length p0_c) (Nat.le_of_ble_eq_true rfl) rfl) ?_
    refine o_s (.int .i64 to0) rfl (by kernel_rfl) ?_
    refine o_qs rfl rfl (qs_ldpt encV fitv32 rfl 0 rfl (.slice p0_a p0.length p0_c) (Nat.le_of_ble_eq_true rfl) rfl) ?_
    refine o_qs rfl rfl (qs_ldpt encV fitv3 rfl 2 rfl (.int .i64 p000) (Nat.le_of_ble_eq_true rfl) rfl) ?_
    refine o_qs rfl rfl (qs_idx (IsIdx.beg (e := encI .i64) hb1 rfl hx5) Tryz.underlying32 fit3 rfl rfl) ?_
    refine o_qe rfl rfl (PH.le_refl _) (qs_ldS fit3 hb1 rfl rfl 5 rfl (idx_some hx5).2.2 (v := .int .i64 x5) valI) ?_
    refine o_s (.int .i64 (addI x5 1)) rfl (by kernel_rfl) ?_
    refine o_qs rfl rfl (qs_idx (IsIdx.beg (e := encI .i64) hb1 rfl hx6) Tryz.underlying32 fit3 rfl rfl) ?_
    refine o_stS (vs := [.int .i64 (addI x5 1)]) hb1 rfl hl2 rfl rfl (PH.le_refl _) fit3 rfl rfl rfl rfl (idx_some hx6).2.1 ?_
    refine o_nil ?_
    refine e_then ?_
    obtain ⟨l2, hl3, hp⟩ := bnd_some hp
    refine c_region ?_
    refine l_q rfl (qs_ldpt encV fitv32 rfl 3 rfl (.slice p0000_a p0000.length p0000_c) (Nat.le_of_ble_eq_true rfl) rfl) ?_
    refine l_s (.int .i64 to0) (by kernel_rfl) ?_
    refine l_bslS (cs := [.int .i64 to0]) (E := 3) (e := encI .i64) ([to0] : List Int) rfl (by kernel_rfl) rfl rfl (Nat.le_of_ble_eq_true rfl) ⟨rfl, trivial⟩ (fun b5 cp3 => ?_)
    refine l_perm (fr1_perm 5 _) ?_
    refine l_app hl3 rfl elem32 Tryz.underlying32 rfl rfl rfl (OwnS.src 1 rfl ⟨_, _, rfl⟩) (fun a2 cp4 => ?_)
    refine l_perm (fr1_perm 5 _) ?_
    refine l_store (dd := none) (vs := [.slice a2 l2.length cp4]) (cs' := [.slice a2 l2.length cp4]) rfl (by kernel_rfl) (by kernel_rfl) rfl rfl (Nat.le_of_ble_eq_true rfl) rfl rfl ?_
    refine l_nil ?_
    refine e_perm (fr1_perm 2 _) ?_
    refine e_drop ?_
    obtain rfl := Option.some.inj hp
    refine e_perm (fr1_perm 5 _) ?_
    refine e_perm (fr1_perm 2 _) ?_
    refine e_perm (fr1_perm 2 _) ?_
    refine e_perm (fr1_perm 5 _) ?_
    refine e_perm (fr1_perm 5 _) ?_
    refine e_perm (fr1_perm 4 _) ?_
    refine e_perm (fr1_perm 5 _) ?_
    exact post_all (vs := []) (.tuple #[]) trivial rfl (.inr rfl) (fun w hS => ⟨D, a2, cp4, (PH.le_refl _), rfl, hS⟩)
  · skip
    replace hp := if_f ht1 hp
    refine c_skip ?_
    obtain rfl := Option.some.inj hp
    refine e_perm (fr1_perm 5 _) ?_
    refine e_perm (fr1_perm 5 _) ?_
    refine e_perm (fr1_perm 5 _) ?_
    refine e_perm (fr1_perm 5 _) ?_
    refine e_perm (fr1_perm 4 _) ?_
    refine e_perm (fr1_perm 5 _) ?_
    exact post_all (vs := []) (.tuple #[]) trivial rfl (.inr rfl) (fun w hS => ⟨D, p0000_a, p0000_c, (PH.le_refl _), rfl, hS⟩)

-- (tarnfell/road.ground).each
set_option maxRecDepth 100000 in
set_option maxHeartbeats 2000000 in
theorem road_ground_each_v1_s (g0 : S_road_ground) (g0_v1a : Option Addr) (g0_v1c : Nat) (g0_v2a : Option Addr) (g0_v2c : Nat) (k0 : Int) (b_visit0_c0 : Nat) (visit0_c0 : List Int) (visit0_c0_a : Option Addr) (visit0_c0_c : Nat) (b_visit0_c1 : Nat) (visit0_c1 : S_road_prices) (visit0_c1_v1a : Option Addr) (visit0_c1_v1c : Nat) (visit0_c1_v2a : Option Addr) (visit0_c1_v2c : Nat) (b_visit0_c2 : Nat) (visit0_c2 : Int) (b_visit0_c3 : Nat) (visit0_c3 : List Int) (visit0_c3_a : Option Addr) (visit0_c3_c : Nat) (D : PH) (g0_h1 : RO (encF .f32) D (.slice g0_v1a g0.f.V.length g0_v1c) g0.f.V) (g0_h2 : RO encS_api_Field D (.slice g0_v2a g0.s.Costly.length g0_v2c) g0.s.Costly) (visit0_c1_h1 : RO (encF .f32) D (.slice visit0_c1_v1a visit0_c1.price.length visit0_c1_v1c) visit0_c1.price) (visit0_c1_h2 : RO encB D (.slice visit0_c1_v2a visit0_c1.ok.length visit0_c1_v2c) visit0_c1.ok) (F : List Assert) (r : (List Int) × (List Int)) (hp : road_ground_each_v1_p g0 k0 visit0_c0 visit0_c1 visit0_c2 visit0_c3 = some r) : ∀ w : World, SInv D (pt b_visit0_c0 [.slice visit0_c0_a visit0_c0.length visit0_c0_c] 32 :: OwnS D (encI .i64) 3 (.slice visit0_c0_a visit0_c0.length visit0_c0_c) visit0_c0 :: pt b_visit0_c1 [.int .i64 visit0_c1.from0, .slice visit0_c1_v1a visit0_c1.price.length visit0_c1_v1c, .slice visit0_c1_v2a visit0_c1.ok.length visit0_c1_v2c] 95 :: pt b_visit0_c2 [.int .i64 visit0_c2] 3 :: pt b_visit0_c3 [.slice visit0_c3_a visit0_c3.length visit0_c3_c] 32 :: OwnS D (encI .i64) 3 (.slice visit0_c3_a visit0_c3.length visit0_c3_c) visit0_c3 :: F) w → Calls Tryz.prog 86 #[.agg #[.int .i64 g0.f.Region.X, .int .i64 g0.f.Region.Y, .int .i64 g0.f.Region.W, .int .i64 g0.f.Region.H, .slice g0_v1a g0.f.V.length g0_v1c, .float .f32 g0.s.Grade, .float .f32 g0.s.Weight, .float .f32 g0.s.Bridge, .float .f32 g0.s.Dear, .int .i64 g0.s.Span, .slice g0_v2a g0.s.Costly.length g0_v2c], .int .i64 k0, .func (.func 89) #[] #[.pointer (some ⟨b_visit0_c0, 0, none⟩), .pointer (some ⟨b_visit0_c1, 0, none⟩), .pointer (some ⟨b_visit0_c2, 0, none⟩), .pointer (some ⟨b_visit0_c3, 0, none⟩)]] w (fun e w' => ∃ (D1 : PH) (q_a1 : Option Addr) (q_cp1 : Nat), PH.le D D1 ∧ e = .returned (.tuple #[]) ∧ SInv D1 (pt b_visit0_c0 [.slice visit0_c0_a visit0_c0.length visit0_c0_c] 32 :: OwnS D1 (encI .i64) 3 (.slice visit0_c0_a visit0_c0.length visit0_c0_c) r.1 :: pt b_visit0_c1 [.int .i64 visit0_c1.from0, .slice visit0_c1_v1a visit0_c1.price.length visit0_c1_v1c, .slice visit0_c1_v2a visit0_c1.ok.length visit0_c1_v2c] 95 :: pt b_visit0_c2 [.int .i64 visit0_c2] 3 :: pt b_visit0_c3 [.slice q_a1 r.2.length q_cp1] 32 :: OwnS D1 (encI .i64) 3 (.slice q_a1 r.2.length q_cp1) r.2 :: F) w') := by
  intro w hS
  refine call_intro Tryz.func86 rfl Tryz.ntmps86 (Nat.le_of_ble_eq_true rfl) hS ?_
  clear hS w
  unfold road_ground_each_v1_p at hp
  refine c_seq ?_
  refine c_region ?_
  refine l_box (cs := [.int .i64 g0.f.Region.X, .int .i64 g0.f.Region.Y, .int .i64 g0.f.Region.W, .int .i64 g0.f.Region.H, .slice g0_v1a g0.f.V.length g0_v1c, .float .f32 g0.s.Grade, .float .f32 g0.s.Weight, .float .f32 g0.s.Bridge, .float .f32 g0.s.Dear, .int .i64 g0.s.Span, .slice g0_v2a g0.s.Costly.length g0_v2c]) rfl rfl (fun b2 => ?_)
  refine l_nil ?_
  refine e_then ?_
  refine c_seq ?_
  refine c_quiet ?_
  refine ql_s (.int .i64 0) (by kernel_rfl) ?_
  refine ql_nil ?_
  refine e_then ?_
  have hm0 : (8 : Nat) = ((8 : Int)).toNat := rfl
  have hb0 : ((8 : Int)) ≤ 4611686018427387904 := by decide
  have hm1 := hm0; have hb1 := hb0; clear hm0 hb0
  obtain ⟨x1, hs1, hp⟩ := bnd_some hp
  obtain ⟨body1, hbody1, hs1⟩ := forS_gen hs1
  refine c_cut_end (fun φ1 D1 As1 => ∃ (a1 : Option Addr) (cp1 : Nat), Is φ1 [] ∧ PH.le D D1 ∧ As1 = pt b2 [.int .i64 g0.f.Region.X, .int .i64 g0.f.Region.Y, .int .i64 g0.f.Region.W, .int .i64 g0.f.Region.H, .slice g0_v1a g0.f.V.length g0_v1c, .float .f32 g0.s.Grade, .float .f32 g0.s.Weight, .float .f32 g0.s.Bridge, .float .f32 g0.s.Dear, .int .i64 g0.s.Span, .slice g0_v2a g0.s.Costly.length g0_v2c] 100 :: pt b_visit0_c0 [.slice visit0_c0_a visit0_c0.length visit0_c0_c] 32 :: OwnS D1 (encI .i64) 3 (.slice visit0_c0_a visit0_c0.length visit0_c0_c) x1.1 :: pt b_visit0_c1 [.int .i64 visit0_c1.from0, .slice visit0_c1_v1a visit0_c1.price.length visit0_c1_v1c, .slice visit0_c1_v2a visit0_c1.ok.length visit0_c1_v2c] 95 :: pt b_visit0_c2 [.int .i64 visit0_c2] 3 :: pt b_visit0_c3 [.slice a1 x1.2.length cp1] 32 :: OwnS D1 (encI .i64) 3 (.slice a1 x1.2.length cp1) x1.2 :: F) ?_ ?_
  · skip
    refine c_block ?_
    refine c_perm (fr1_perm 6 _) ?_
    refine c_perm (fr1_perm 6 _) ?_
    refine c_perm (fr1_perm 6 _) ?_
    refine c_perm (fr1_perm 6 _) ?_
    refine c_perm (fr1_perm 6 _) ?_
    refine c_perm (fr1_perm 6 _) ?_
    refine c_perm (fr1_perm 6 _) ?_
    refine c_loop (fun k φ1 D2 As1 => ∃ (j1 i1 : Nat) (s1 : (List Int) × (List Int)) (a2 : Option Addr) (cp2 : Nat), k = j1 + 1 ∧ i1 + j1 = 8 ∧ Is φ1 [(1, .int .i64 k0), (2, .func (.func 89) #[] #[.pointer (some ⟨b_visit0_c0, 0, none⟩), .pointer (some ⟨b_visit0_c1, 0, none⟩), .pointer (some ⟨b_visit0_c2, 0, none⟩), .pointer (some ⟨b_visit0_c3, 0, none⟩)]), (3, .pointer (some ⟨b2, 0, none⟩)), (13, .int .i64 (i1 : Int))] ∧ PH.le D D2 ∧ As1 = pt b2 [.int .i64 g0.f.Region.X, .int .i64 g0.f.Region.Y, .int .i64 g0.f.Region.W, .int .i64 g0.f.Region.H, .slice g0_v1a g0.f.V.length g0_v1c, .float .f32 g0.s.Grade, .float .f32 g0.s.Weight, .float .f32 g0.s.Bridge, .float .f32 g0.s.Dear, .int .i64 g0.s.Span, .slice g0_v2a g0.s.Costly.length g0_v2c] 100 :: pt b_visit0_c0 [.slice visit0_c0_a visit0_c0.length visit0_c0_c] 32 :: OwnS D2 (encI .i64) 3 (.slice visit0_c0_a visit0_c0.length visit0_c0_c) s1.1 :: pt b_visit0_c1 [.int .i64 visit0_c1.from0, .slice visit0_c1_v1a visit0_c1.price.length visit0_c1_v1c, .slice visit0_c1_v2a visit0_c1.ok.length visit0_c1_v2c] 95 :: pt b_visit0_c2 [.int .i64 visit0_c2] 3 :: pt b_visit0_c3 [.slice a2 s1.2.length cp2] 32 :: OwnS D2 (encI .i64) 3 (.slice a2 s1.2.length cp2) s1.2 :: F ∧ forS body1 j1 i1 s1 = some x1) ⟨8 + 1, 8, 0, (visit0_c0, visit0_c3), visit0_c3_a, visit0_c3_c, rfl, Nat.zero_add _, ⟨rfl, rfl, rfl, rfl, trivial⟩, (PH.le_refl _), rfl, hs1⟩ ?_ ?_
    · rintro _ _ _ ⟨_, _, _, _, _, h0, _⟩; omega
    intro k1
    rintro φ1 D2 As1 ⟨j1, i1, s1, a2, cp2, hk1, hij1, hI1, hD1, hA1, hs2⟩
    subst As1
    replace visit0_c1_h1 := visit0_c1_h1.mono hD1
    replace visit0_c1_h2 := visit0_c1_h2.mono hD1
    replace g0_h1 := g0_h1.mono hD1
    replace g0_h2 := g0_h2.mono hD1
    refine c_frame _ hI1 ?_
    obtain rfl : k1 = j1 := by omega
    clear hk1
    rcases k1 with _ | j1
    · skip
      refine c_seq ?_
      refine c_quiet ?_
      refine ql_s (.bool (decide ((i1 : Int) < 8))) (by kernel_rfl) ?_
      refine ql_nil ?_
      refine e_then ?_
      refine c_seq ?_
      refine c_cond (decide ((i1 : Int) < 8)) rfl (fun ht1 => absurd ((dec_lt_f hm1 (by omega)).symm.trans ht1) (by simp)) (fun _ => ?_)
      refine c_exit ?_
      refine e_then_exit ?_
      refine e_then_exit ?_
      obtain rfl := Option.some.inj hs2
      refine e_blk_exit ?_
      refine e_perm (fr1_perm 6 _) ?_
      refine e_perm (fr1_perm 6 _) ?_
      refine e_perm (fr1_perm 6 _) ?_
      refine e_perm (fr1_perm 6 _) ?_
      refine e_perm (fr1_perm 6 _) ?_
      refine e_perm (fr1_perm 6 _) ?_
      refine e_perm (fr1_perm 6 _) ?_
      exact e_cut ⟨a2, cp2, trivial, hD1, rfl⟩
    · skip
      obtain ⟨y1, hx1, hs2⟩ := forS_some hs2
      replace hx1 := (congrFun (congrFun hbody1 i1) s1).trans hx1
      refine c_seq ?_
      refine c_quiet ?_
      refine ql_s (.bool (decide ((i1 : Int) < 8))) (by kernel_rfl) ?_
      refine ql_nil ?_
      refine e_then ?_
      refine c_seq ?_
      refine c_cond (decide ((i1 : Int) < 8)) rfl (fun _ => ?_) (fun ht2 => absurd ((dec_lt_t hm1 (by omega)).symm.trans ht2) (by simp))
      refine c_skip ?_
      refine e_then ?_
      refine c_seq ?_
      obtain ⟨s2, hs3, hx1⟩ := bnd_some hx1
      refine c_cut_end (fun φ1 D3 As1 => ∃ (a3 : Option Addr) (cp3 : Nat), Is φ1 [(1, .int .i64 k0), (2, .func (.func 89) #[] #[.pointer (some ⟨b_visit0_c0, 0, none⟩), .pointer (some ⟨b_visit0_c1, 0, none⟩), .pointer (some ⟨b_visit0_c2, 0, none⟩), .pointer (some ⟨b_visit0_c3, 0, none⟩)]), (3, .pointer (some ⟨b2, 0, none⟩)), (13, .int .i64 (i1 : Int))] ∧ PH.le D2 D3 ∧ As1 = pt b2 [.int .i64 g0.f.Region.X, .int .i64 g0.f.Region.Y, .int .i64 g0.f.Region.W, .int .i64 g0.f.Region.H, .slice g0_v1a g0.f.V.length g0_v1c, .float .f32 g0.s.Grade, .float .f32 g0.s.Weight, .float .f32 g0.s.Bridge, .float .f32 g0.s.Dear, .int .i64 g0.s.Span, .slice g0_v2a g0.s.Costly.length g0_v2c] 100 :: pt b_visit0_c0 [.slice visit0_c0_a visit0_c0.length visit0_c0_c] 32 :: OwnS D3 (encI .i64) 3 (.slice visit0_c0_a visit0_c0.length visit0_c0_c) s2.1 :: pt b_visit0_c1 [.int .i64 visit0_c1.from0, .slice visit0_c1_v1a visit0_c1.price.length visit0_c1_v1c, .slice visit0_c1_v2a visit0_c1.ok.length visit0_c1_v2c] 95 :: pt b_visit0_c2 [.int .i64 visit0_c2] 3 :: pt b_visit0_c3 [.slice a3 s2.2.length cp3] 32 :: OwnS D3 (encI .i64) 3 (.slice a3 s2.2.length cp3) s2.2 :: F) ?_ ?_
      · skip
        refine c_block ?_
        refine c_seq ?_
        refine c_quiet ?_
        refine ql_s (.int .i64 (i1 : Int)) (by kernel_rfl) ?_
        refine ql_s (.int .i64 (i1 : Int)) (by kernel_rfl) ?_
        refine ql_nil ?_
        refine e_then ?_
        refine c_seq ?_
        refine c_quiet ?_
        refine ql_s (.float .f32 3380609024) (by kernel_rfl) ?_
        refine ql_nil ?_
        refine e_then ?_
        refine c_seq ?_
        refine c_quiet ?_
        refine ql_s (.int .i64 1) (by kernel_rfl) ?_
        refine ql_nil ?_
        refine e_then ?_
        obtain ⟨x2, hs4, hs3⟩ := bnd_some hs3
        obtain ⟨body2, hbody2, hs4⟩ := loopP_gen hs4
        refine c_cut_end (fun φ1 D4 As1 => ∃ (a4 : Option Addr) (cp4 : Nat), Is φ1 [(1, .int .i64 k0), (2, .func (.func 89) #[] #[.pointer (some ⟨b_visit0_c0, 0, none⟩), .pointer (some ⟨b_visit0_c1, 0, none⟩), .pointer (some ⟨b_visit0_c2, 0, none⟩), .pointer (some ⟨b_visit0_c3, 0, none⟩)]), (3, .pointer (some ⟨b2, 0, none⟩)), (13, .int .i64 (i1 : Int))] ∧ PH.le D2 D4 ∧ As1 = pt b2 [.int .i64 g0.f.Region.X, .int .i64 g0.f.Region.Y, .int .i64 g0.f.Region.W, .int .i64 g0.f.Region.H, .slice g0_v1a g0.f.V.length g0_v1c, .float .f32 g0.s.Grade, .float .f32 g0.s.Weight, .float .f32 g0.s.Bridge, .float .f32 g0.s.Dear, .int .i64 g0.s.Span, .slice g0_v2a g0.s.Costly.length g0_v2c] 100 :: pt b_visit0_c0 [.slice visit0_c0_a visit0_c0.length visit0_c0_c] 32 :: OwnS D4 (encI .i64) 3 (.slice visit0_c0_a visit0_c0.length visit0_c0_c) x2.1 :: pt b_visit0_c1 [.int .i64 visit0_c1.from0, .slice visit0_c1_v1a visit0_c1.price.length visit0_c1_v1c, .slice visit0_c1_v2a visit0_c1.ok.length visit0_c1_v2c] 95 :: pt b_visit0_c2 [.int .i64 visit0_c2] 3 :: pt b_visit0_c3 [.slice a4 x2.2.length cp4] 32 :: OwnS D4 (encI .i64) 3 (.slice a4 x2.2.length cp4) x2.2 :: F) ?_ ?_
        · skip
          refine c_block ?_
          refine c_perm (fr1_perm 6 _) ?_
          refine c_perm (fr1_perm 6 _) ?_
          refine c_perm (fr1_perm 6 _) ?_
          refine c_perm (fr1_perm 6 _) ?_
          refine c_perm (fr1_perm 6 _) ?_
          refine c_perm (fr1_perm 6 _) ?_
          refine c_perm (fr1_perm 6 _) ?_
          obtain ⟨kz1, hs4⟩ := loopP_ex hs4
          refine c_loop (fun k φ1 D5 As1 => ∃ (s3 : Nat × Int × (List Int) × (List Int)) (a5 : Option Addr) (cp5 : Nat), Is φ1 [(1, .int .i64 k0), (2, .func (.func 89) #[] #[.pointer (some ⟨b_visit0_c0, 0, none⟩), .pointer (some ⟨b_visit0_c1, 0, none⟩), .pointer (some ⟨b_visit0_c2, 0, none⟩), .pointer (some ⟨b_visit0_c3, 0, none⟩)]), (3, .pointer (some ⟨b2, 0, none⟩)), (6, .int .i64 (i1 : Int)), (7, .float .f32 s3.1), (8, .int .i64 s3.2.1), (13, .int .i64 (i1 : Int))] ∧ PH.le D2 D5 ∧ As1 = pt b2 [.int .i64 g0.f.Region.X, .int .i64 g0.f.Region.Y, .int .i64 g0.f.Region.W, .int .i64 g0.f.Region.H, .slice g0_v1a g0.f.V.length g0_v1c, .float .f32 g0.s.Grade, .float .f32 g0.s.Weight, .float .f32 g0.s.Bridge, .float .f32 g0.s.Dear, .int .i64 g0.s.Span, .slice g0_v2a g0.s.Costly.length g0_v2c] 100 :: pt b_visit0_c0 [.slice visit0_c0_a visit0_c0.length visit0_c0_c] 32 :: OwnS D5 (encI .i64) 3 (.slice visit0_c0_a visit0_c0.length visit0_c0_c) s3.2.2.1 :: pt b_visit0_c1 [.int .i64 visit0_c1.from0, .slice visit0_c1_v1a visit0_c1.price.length visit0_c1_v1c, .slice visit0_c1_v2a visit0_c1.ok.length visit0_c1_v2c] 95 :: pt b_visit0_c2 [.int .i64 visit0_c2] 3 :: pt b_visit0_c3 [.slice a5 s3.2.2.2.length cp5] 32 :: OwnS D5 (encI .i64) 3 (.slice a5 s3.2.2.2.length cp5) s3.2.2.2 :: F ∧ iter body2 k s3 = some x2) ⟨kz1, (3380609024, 1, s1.1, s1.2), a2, cp2, ⟨rfl, rfl, rfl, rfl, rfl, rfl, rfl, trivial⟩, (PH.le_refl _), rfl, hs4⟩ ?_ ?_
          · rintro _ _ _ ⟨_, _, _, _, _, _, h0⟩; cases h0
          intro k2
          rintro φ2 D5 As2 ⟨s3, a5, cp5, hI2, hD2, hA2, hs5⟩
          subst As2
          replace visit0_c1_h1 := visit0_c1_h1.mono hD2
          replace visit0_c1_h2 := visit0_c1_h2.mono hD2
          replace g0_h1 := g0_h1.mono hD2
          replace g0_h2 := g0_h2.mono hD2
          refine c_frame _ hI2 ?_
          obtain ⟨y2, hx2, hs5⟩ := iter_some hs5
          replace hx2 := (congrFun hbody2 s3).trans hx2
          refine c_seq ?_
          refine c_seq ?_
          refine c_quiet ?_
          refine ql_s (.int .i64 s3.2.1) (by kernel_rfl) ?_
          refine ql_s (.pointer (some ⟨b2, 5, none⟩)) (by kernel_rfl) ?_
          refine ql_s (.pointer (some ⟨b2, 9, none⟩)) (by kernel_rfl) ?_
          refine ql_q rfl (qs_ldpt encV fitv3 rfl 0 rfl (.int .i64 g0.s.Span) (Nat.le_of_ble_eq_true rfl) rfl) ?_
          refine ql_q rfl (qs_max rfl) ?_
          refine ql_s (.bool (decide (s3.2.1 ≤ (maxI g0.s.Span 1)))) (by kernel_rfl) ?_
          refine ql_nil ?_
          refine e_then ?_
          refine c_cond (decide (s3.2.1 ≤ (maxI g0.s.Span 1))) rfl (fun ht3 => ?_) (fun ht3 => ?_)
          · skip
            replace hx2 := if_t ht3 hx2
            refine c_skip ?_
            refine e_then ?_
            refine c_seq ?_
            refine c_block ?_
            refine c_seq ?_
            obtain ⟨r1, hr1, hx2⟩ := bnd_some hx2
            refine c_quiet ?_
            refine ql_q rfl (qs_ldpt (encW 11 (by decide)) fitv100 rfl 0 rfl (.agg #[.int .i64 g0.f.Region.X, .int .i64 g0.f.Region.Y, .int .i64 g0.f.Region.W, .int .i64 g0.f.Region.H, .slice g0_v1a g0.f.V.length g0_v1c, .float .f32 g0.s.Grade, .float .f32 g0.s.Weight, .float .f32 g0.s.Bridge, .float .f32 g0.s.Dear, .int .i64 g0.s.Span, .slice g0_v2a g0.s.Costly.length g0_v2c]) (Nat.le_of_ble_eq_true rfl) rfl) ?_
            refine ql_s (.int .i64 k0) (by kernel_rfl) ?_
            refine ql_s (.int .i64 (i1 : Int)) (by kernel_rfl) ?_
            refine ql_s (.int .i64 s3.2.1) (by kernel_rfl) ?_
            refine ql_call (v := .tuple #[.int .i64 r1.1, .bool r1.2]) rfl (run_call (vs := [.agg #[.int .i64 g0.f.Region.X, .int .i64 g0.f.Region.Y, .int .i64 g0.f.Region.W, .int .i64 g0.f.Region.H, .slice g0_v1a g0.f.V.length g0_v1c, .float .f32 g0.s.Grade, .float .f32 g0.s.Weight, .float .f32 g0.s.Bridge, .float .f32 g0.s.Dear, .int .i64 g0.s.Span, .slice g0_v2a g0.s.Costly.length g0_v2c], .int .i64 k0, .int .i64 (i1 : Int), .int .i64 s3.2.1]) rfl Tryz.call90 rfl) (fun w hS => (road_ground_beside_s g0 g0_v1a g0_v1c g0_v2a g0_v2c k0 (i1 : Int) s3.2.1 _ g0_h1 g0_h2 _ _ hr1 w (hS)).mono fun e w' h => ⟨h.1, h.2⟩) ?_
            refine ql_s (.tuple #[.int .i64 r1.1, .bool r1.2]) (by kernel_rfl) ?_
            refine ql_s (.int .i64 r1.1) (by kernel_rfl) ?_
            refine ql_s (.bool r1.2) (by kernel_rfl) ?_
            refine ql_s (.int .i64 r1.1) (by kernel_rfl) ?_
            refine ql_s (.bool r1.2) (by kernel_rfl) ?_
            refine ql_nil ?_
            refine e_then ?_
            refine c_seq ?_
            refine c_seq ?_
            refine c_quiet ?_
            refine ql_s (.bool r1.2) (by kernel_rfl) ?_
            refine ql_s (.bool (!r1.2)) (by kernel_rfl) ?_
            refine ql_nil ?_
            refine e_then ?_
            refine c_cond (!r1.2) rfl (fun ht4 => ?_) (fun ht4 => ?_)
            · skip
              replace hx2 := if_t ht4 hx2
              refine c_exit ?_
              refine e_then_exit ?_
              refine e_blk_other (by decide) ?_
              refine e_then_exit ?_
              refine e_then_exit ?_
              obtain rfl := Option.some.inj hx2
              obtain rfl := hs5
              refine e_blk_exit ?_
              refine e_perm (fr1_perm 6 _) ?_
              refine e_perm (fr1_perm 6 _) ?_
              refine e_perm (fr1_perm 6 _) ?_
              refine e_perm (fr1_perm 6 _) ?_
              refine e_perm (fr1_perm 6 _) ?_
              refine e_perm (fr1_perm 6 _) ?_
              refine e_perm (fr1_perm 6 _) ?_
              exact e_cut ⟨a5, cp5, ⟨rfl, rfl, rfl, rfl, trivial⟩, hD2, rfl⟩
            · skip
              replace hx2 := if_f ht4 hx2
              refine c_skip ?_
              refine e_then ?_
              refine c_seq ?_
              refine c_seq ?_
              obtain ⟨r2, hr2, hx2⟩ := bnd_some hx2
              refine c_quiet ?_
              refine ql_q rfl (qs_ldpt (encW 11 (by decide)) fitv100 rfl 0 rfl (.agg #[.int .i64 g0.f.Region.X, .int .i64 g0.f.Region.Y, .int .i64 g0.f.Region.W, .int .i64 g0.f.Region.H, .slice g0_v1a g0.f.V.length g0_v1c, .float .f32 g0.s.Grade, .float .f32 g0.s.Weight, .float .f32 g0.s.Bridge, .float .f32 g0.s.Dear, .int .i64 g0.s.Span, .slice g0_v2a g0.s.Costly.length g0_v2c]) (Nat.le_of_ble_eq_true rfl) rfl) ?_
              refine ql_s (.int .i64 k0) (by kernel_rfl) ?_
              refine ql_s (.int .i64 r1.1) (by kernel_rfl) ?_
              refine ql_s (.int .i64 (i1 : Int)) (by kernel_rfl) ?_
              refine ql_s (.int .i64 s3.2.1) (by kernel_rfl) ?_
              refine ql_s (.float .f32 s3.1) (by kernel_rfl) ?_
              refine ql_call (v := .tuple #[.float .f32 r2.1, .bool r2.2]) rfl (run_call (vs := [.agg #[.int .i64 g0.f.Region.X, .int .i64 g0.f.Region.Y, .int .i64 g0.f.Region.W, .int .i64 g0.f.Region.H, .slice g0_v1a g0.f.V.length g0_v1c, .float .f32 g0.s.Grade, .float .f32 g0.s.Weight, .float .f32 g0.s.Bridge, .float .f32 g0.s.Dear, .int .i64 g0.s.Span, .slice g0_v2a g0.s.Costly.length g0_v2c], .int .i64 k0, .int .i64 r1.1, .int .i64 (i1 : Int), .int .i64 s3.2.1, .float .f32 s3.1]) rfl Tryz.call109 rfl) (fun w hS => (road_ground_cost_s g0 g0_v1a g0_v1c g0_v2a g0_v2c k0 r1.1 (i1 : Int) s3.2.1 s3.1 _ g0_h1 g0_h2 _ _ hr2 w (hS)).mono fun e w' h => ⟨h.1, h.2⟩) ?_
              refine ql_s (.tuple #[.float .f32 r2.1, .bool r2.2]) (by kernel_rfl) ?_
              refine ql_s (.float .f32 r2.1) (by kernel_rfl) ?_
              refine ql_s (.bool r2.2) (by kernel_rfl) ?_
              refine ql_s (.float .f32 r2.1) (by kernel_rfl) ?_
              refine ql_s (.bool r2.2) (by kernel_rfl) ?_
              refine ql_nil ?_
              refine e_then ?_
              refine c_seq ?_
              refine c_quiet ?_
              refine ql_s (.bool r2.2) (by kernel_rfl) ?_
              refine ql_nil ?_
              refine e_then ?_
              obtain ⟨s4, hs6, hx2⟩ := bnd_some hx2
              refine c_cut_end (fun φ1 D6 As1 => ∃ (a6 : Option Addr) (cp6 : Nat), Is φ1 [(1, .int .i64 k0), (2, .func (.func 89) #[] #[.pointer (some ⟨b_visit0_c0, 0, none⟩), .pointer (some ⟨b_visit0_c1, 0, none⟩), .pointer (some ⟨b_visit0_c2, 0, none⟩), .pointer (some ⟨b_visit0_c3, 0, none⟩)]), (3, .pointer (some ⟨b2, 0, none⟩)), (6, .int .i64 (i1 : Int)), (7, .float .f32 s3.1), (8, .int .i64 s3.2.1), (9, .int .i64 r1.1), (13, .int .i64 (i1 : Int))] ∧ PH.le D5 D6 ∧ As1 = pt b2 [.int .i64 g0.f.Region.X, .int .i64 g0.f.Region.Y, .int .i64 g0.f.Region.W, .int .i64 g0.f.Region.H, .slice g0_v1a g0.f.V.length g0_v1c, .float .f32 g0.s.Grade, .float .f32 g0.s.Weight, .float .f32 g0.s.Bridge, .float .f32 g0.s.Dear, .int .i64 g0.s.Span, .slice g0_v2a g0.s.Costly.length g0_v2c] 100 :: pt b_visit0_c0 [.slice visit0_c0_a visit0_c0.length visit0_c0_c] 32 :: OwnS D6 (encI .i64) 3 (.slice visit0_c0_a visit0_c0.length visit0_c0_c) s4.1 :: pt b_visit0_c1 [.int .i64 visit0_c1.from0, .slice visit0_c1_v1a visit0_c1.price.length visit0_c1_v1c, .slice visit0_c1_v2a visit0_c1.ok.length visit0_c1_v2c] 95 :: pt b_visit0_c2 [.int .i64 visit0_c2] 3 :: pt b_visit0_c3 [.slice a6 s4.2.length cp6] 32 :: OwnS D6 (encI .i64) 3 (.slice a6 s4.2.length cp6) s4.2 :: F) ?_ ?_
              · skip
                refine c_cond (r2.2) rfl (fun ht5 => ?_) (fun ht5 => ?_)
                · skip
                  replace hs6 := if_t ht5 hs6
                  obtain ⟨r3, hr3, hs6⟩ := bnd_some hs6
                  refine c_perm (fr1_perm 2 _) ?_
                  refine c_adr (fun b3 hb2 hl1 hbd1 hcap1 => ?_)
                  refine c_region ?_
                  refine l_s (.func (.func 89) #[] #[.pointer (some ⟨b_visit0_c0, 0, none⟩), .pointer (some ⟨b_visit0_c1, 0, none⟩), .pointer (some ⟨b_visit0_c2, 0, none⟩), .pointer (some ⟨b_visit0_c3, 0, none⟩)]) (by kernel_rfl) ?_
                  refine l_s (.int .i64 r1.1) (by kernel_rfl) ?_
                  refine l_s (.float .f32 r2.1) (by kernel_rfl) ?_
                  refine l_call rfl rfl Tryz.call89 (vs := [.int .i64 r1.1, .float .f32 r2.1, .pointer (some ⟨b_visit0_c0, 0, none⟩), .pointer (some ⟨b_visit0_c1, 0, none⟩), .pointer (some ⟨b_visit0_c2, 0, none⟩), .pointer (some ⟨b_visit0_c3, 0, none⟩)]) rfl (fun v D8 As4 => ∃ (a8 : Option Addr) (cp8 : Nat), PH.le D5 D8 ∧ v = .tuple #[] ∧ As4 = pt b_visit0_c0 [.slice visit0_c0_a visit0_c0.length visit0_c0_c] 32 :: OwnS D8 (encI .i64) 3 (.slice visit0_c0_a visit0_c0.length visit0_c0_c) r3.1 :: pt b_visit0_c1 [.int .i64 visit0_c1.from0, .slice visit0_c1_v1a visit0_c1.price.length visit0_c1_v1c, .slice visit0_c1_v2a visit0_c1.ok.length visit0_c1_v2c] 95 :: pt b_visit0_c2 [.int .i64 visit0_c2] 3 :: pt b_visit0_c3 [.slice a8 r3.2.length cp8] 32 :: OwnS D8 (encI .i64) 3 (.slice a8 r3.2.length cp8) r3.2 :: pt b2 [.int .i64 g0.f.Region.X, .int .i64 g0.f.Region.Y, .int .i64 g0.f.Region.W, .int .i64 g0.f.Region.H, .slice g0_v1a g0.f.V.length g0_v1c, .float .f32 g0.s.Grade, .float .f32 g0.s.Weight, .float .f32 g0.s.Bridge, .float .f32 g0.s.Dear, .int .i64 g0.s.Span, .slice g0_v2a g0.s.Costly.length g0_v2c] 100 :: F) (fun w hS => (show Calls Tryz.prog 89 #[.int .i64 r1.1, .float .f32 r2.1, .pointer (some ⟨b_visit0_c0, 0, none⟩), .pointer (some ⟨b_visit0_c1, 0, none⟩), .pointer (some ⟨b_visit0_c2, 0, none⟩), .pointer (some ⟨b_visit0_c3, 0, none⟩)] w (fun e w' => ∃ (D8 : PH) (a8 : Option Addr) (cp8 : Nat), PH.le D5 D8 ∧ e = .returned (.tuple #[]) ∧ SInv D8 (pt b_visit0_c0 [.slice visit0_c0_a visit0_c0.length visit0_c0_c] 32 :: OwnS D8 (encI .i64) 3 (.slice visit0_c0_a visit0_c0.length visit0_c0_c) r3.1 :: pt b_visit0_c1 [.int .i64 visit0_c1.from0, .slice visit0_c1_v1a visit0_c1.price.length visit0_c1_v1c, .slice visit0_c1_v2a visit0_c1.ok.length visit0_c1_v2c] 95 :: pt b_visit0_c2 [.int .i64 visit0_c2] 3 :: pt b_visit0_c3 [.slice a8 r3.2.length cp8] 32 :: OwnS D8 (encI .i64) 3 (.slice a8 r3.2.length cp8) r3.2 :: pt b2 [.int .i64 g0.f.Region.X, .int .i64 g0.f.Region.Y, .int .i64 g0.f.Region.W, .int .i64 g0.f.Region.H, .slice g0_v1a g0.f.V.length g0_v1c, .float .f32 g0.s.Grade, .float .f32 g0.s.Weight, .float .f32 g0.s.Bridge, .float .f32 g0.s.Dear, .int .i64 g0.s.Span, .slice g0_v2a g0.s.Costly.length g0_v2c] 100 :: F) w') from by have hq := road_ground_hops_1_s r1.1 r2.1 b_visit0_c0 s3.2.2.1 visit0_c0_a visit0_c0_c b_visit0_c1 visit0_c1 visit0_c1_v1a visit0_c1_v1c visit0_c1_v2a visit0_c1_v2c b_visit0_c2 visit0_c2 b_visit0_c3 s3.2.2.2 a5 cp5 _ visit0_c1_h1 visit0_c1_h2 _ _ hr3 w (show SInv D5 (pt b_visit0_c0 [.slice visit0_c0_a s3.2.2.1.length visit0_c0_c] 32 :: OwnS D5 (encI .i64) 3 (.slice visit0_c0_a s3.2.2.1.length visit0_c0_c) s3.2.2.1 :: pt b_visit0_c1 [.int .i64 visit0_c1.from0, .slice visit0_c1_v1a visit0_c1.price.length visit0_c1_v1c, .slice visit0_c1_v2a visit0_c1.ok.length visit0_c1_v2c] 95 :: pt b_visit0_c2 [.int .i64 visit0_c2] 3 :: pt b_visit0_c3 [.slice a5 s3.2.2.2.length cp5] 32 :: OwnS D5 (encI .i64) 3 (.slice a5 s3.2.2.2.length cp5) s3.2.2.2 :: pt b2 [.int .i64 g0.f.Region.X, .int .i64 g0.f.Region.Y, .int .i64 g0.f.Region.W, .int .i64 g0.f.Region.H, .slice g0_v1a g0.f.V.length g0_v1c, .float .f32 g0.s.Grade, .float .f32 g0.s.Weight, .float .f32 g0.s.Bridge, .float .f32 g0.s.Dear, .int .i64 g0.s.Span, .slice g0_v2a g0.s.Costly.length g0_v2c] 100 :: F) w from by have h2 : SInv D5 (pt b_visit0_c0 [.slice visit0_c0_a visit0_c0.length visit0_c0_c] 32 :: OwnS D5 (encI .i64) 3 (.slice visit0_c0_a visit0_c0.length visit0_c0_c) s3.2.2.1 :: pt b_visit0_c1 [.int .i64 visit0_c1.from0, .slice visit0_c1_v1a visit0_c1.price.length visit0_c1_v1c, .slice visit0_c1_v2a visit0_c1.ok.length visit0_c1_v2c] 95 :: pt b_visit0_c2 [.int .i64 visit0_c2] 3 :: pt b_visit0_c3 [.slice a5 s3.2.2.2.length cp5] 32 :: OwnS D5 (encI .i64) 3 (.slice a5 s3.2.2.2.length cp5) s3.2.2.2 :: pt b2 [.int .i64 g0.f.Region.X, .int .i64 g0.f.Region.Y, .int .i64 g0.f.Region.W, .int .i64 g0.f.Region.H, .slice g0_v1a g0.f.V.length g0_v1c, .float .f32 g0.s.Grade, .float .f32 g0.s.Weight, .float .f32 g0.s.Bridge, .float .f32 g0.s.Dear, .int .i64 g0.s.Span, .slice g0_v2a g0.s.Costly.length g0_v2c] 100 :: F) w := (((((hS.perm (fr1_perm 6 _)).perm (fr1_perm 6 _)).perm (fr1_perm 6 _)).perm (fr1_perm 6 _)).perm (fr1_perm 4 _)).perm (fr1_perm 6 _); rw [← hl1] at h2; exact h2); (try simp only [hl1] at hq); exact hq).mono fun e w' ⟨D8, a8, cp8, hle2, he, hS2⟩ => ⟨_, D8, _, he, ⟨a8, cp8, hle2, rfl, rfl⟩, hS2⟩) ?_
                  rintro _ D8 As4 ⟨a8, cp8, hle2, rfl, hA4⟩
                  subst As4
                  replace visit0_c1_h1 := visit0_c1_h1.mono hle2
                  replace visit0_c1_h2 := visit0_c1_h2.mono hle2
                  replace g0_h1 := g0_h1.mono hle2
                  replace g0_h2 := g0_h2.mono hle2
                  refine l_nil ?_
                  refine e_perm (fr1_perm 5 _) ?_
                  refine e_perm (fr1_perm 5 _) ?_
                  refine e_perm (fr1_perm 5 _) ?_
                  refine e_perm (fr1_perm 5 _) ?_
                  refine e_perm (fr1_perm 5 _) ?_
                  refine e_perm (fr1_perm 5 _) ?_
                  refine e_perm (fr1_perm 6 _) ?_
                  obtain rfl := Option.some.inj hs6
                  exact e_cut ⟨a8, cp8, ⟨rfl, rfl, rfl, rfl, rfl, rfl, rfl, rfl, trivial⟩, hle2, rfl⟩
                · skip
                  replace hs6 := if_f ht5 hs6
                  refine c_skip ?_
                  refine e_perm (fr1_perm 6 _) ?_
                  refine e_perm (fr1_perm 6 _) ?_
                  refine e_perm (fr1_perm 6 _) ?_
                  refine e_perm (fr1_perm 6 _) ?_
                  refine e_perm (fr1_perm 6 _) ?_
                  refine e_perm (fr1_perm 6 _) ?_
                  refine e_perm (fr1_perm 6 _) ?_
                  obtain rfl := Option.some.inj hs6
                  exact e_cut ⟨a5, cp5, ⟨rfl, rfl, rfl, rfl, rfl, rfl, rfl, rfl, trivial⟩, (PH.le_refl _), rfl⟩
              · skip
                rintro φ3 D6 As5 ⟨a6, cp6, hI3, hD3, hA5⟩
                subst As5
                replace visit0_c1_h1 := visit0_c1_h1.mono hD3
                replace visit0_c1_h2 := visit0_c1_h2.mono hD3
                replace g0_h1 := g0_h1.mono hD3
                replace g0_h2 := g0_h2.mono hD3
                refine e_frame _ hI3 ?_
                refine e_then ?_
                obtain ⟨x3, hx3, hx2⟩ := bnd_some hx2
                obtain ⟨b4, o1, h1, hq1⟩ := RO.at g0_h1 hx3
                obtain ⟨r4, hr4, hx2⟩ := bnd_some hx2
                refine c_quiet ?_
                refine ql_s (.float .f32 s3.1) (by kernel_rfl) ?_
                refine ql_s (.pointer (some ⟨b2, 0, none⟩)) (by kernel_rfl) ?_
                refine ql_s (.pointer (some ⟨b2, 4, none⟩)) (by kernel_rfl) ?_
                refine ql_q rfl (qs_ldpt encV fitv38 rfl 0 rfl (.slice g0_v1a g0.f.V.length g0_v1c) (Nat.le_of_ble_eq_true rfl) rfl) ?_
                refine ql_s (.int .i64 r1.1) (by kernel_rfl) ?_
                refine ql_q rfl (qs_idx hq1 Tryz.underlying38 fit35 rfl rfl) ?_
                refine ql_q rfl (qs_ldAtV fit35 rfl h1 valF) ?_
                refine ql_q rfl (qs_maxF rfl rfl hr4) ?_
                refine ql_s (.float .f32 r4) (by kernel_rfl) ?_
                refine ql_nil ?_
                refine e_blk ?_
                refine e_then ?_
                refine c_quiet ?_
                refine ql_s (.int .i64 s3.2.1) (by kernel_rfl) ?_
                refine ql_s (.int .i64 (addI s3.2.1 1)) (by kernel_rfl) ?_
                refine ql_s (.int .i64 (addI s3.2.1 1)) (by kernel_rfl) ?_
                refine ql_nil ?_
                refine e_perm (fr1_perm 6 _) ?_
                refine e_perm (fr1_perm 6 _) ?_
                refine e_perm (fr1_perm 6 _) ?_
                refine e_perm (fr1_perm 6 _) ?_
                refine e_perm (fr1_perm 6 _) ?_
                refine e_perm (fr1_perm 6 _) ?_
                refine e_perm (fr1_perm 6 _) ?_
                obtain rfl := Option.some.inj hx2
                exact e_cut ⟨(r4, addI s3.2.1 1, s4.1, s4.2), a6, cp6, ⟨rfl, rfl, rfl, rfl, rfl, rfl, rfl, trivial⟩, (PH.le_trans hD2 hD3), rfl, hs5⟩
          · skip
            replace hx2 := if_f ht3 hx2
            refine c_exit ?_
            refine e_then_exit ?_
            refine e_then_exit ?_
            obtain rfl := Option.some.inj hx2
            obtain rfl := hs5
            refine e_blk_exit ?_
            refine e_perm (fr1_perm 6 _) ?_
            refine e_perm (fr1_perm 6 _) ?_
            refine e_perm (fr1_perm 6 _) ?_
            refine e_perm (fr1_perm 6 _) ?_
            refine e_perm (fr1_perm 6 _) ?_
            refine e_perm (fr1_perm 6 _) ?_
            refine e_perm (fr1_perm 6 _) ?_
            exact e_cut ⟨a5, cp5, ⟨rfl, rfl, rfl, rfl, trivial⟩, hD2, rfl⟩
        · skip
          rintro φ4 D4 As6 ⟨a4, cp4, hI4, hD4, hA6⟩
          subst As6
          replace visit0_c1_h1 := visit0_c1_h1.mono hD4
          replace visit0_c1_h2 := visit0_c1_h2.mono hD4
          replace g0_h1 := g0_h1.mono hD4
          replace g0_h2 := g0_h2.mono hD4
          refine e_frame _ hI4 ?_
          refine e_blk ?_
          refine e_perm (fr1_perm 6 _) ?_
          refine e_perm (fr1_perm 6 _) ?_
          refine e_perm (fr1_perm 6 _) ?_
          refine e_perm (fr1_perm 6 _) ?_
          refine e_perm (fr1_perm 6 _) ?_
          refine e_perm (fr1_perm 6 _) ?_
          refine e_perm (fr1_perm 6 _) ?_
          obtain rfl := Option.some.inj hs3
          exact e_cut ⟨a4, cp4, ⟨rfl, rfl, rfl, rfl, trivial⟩, hD4, rfl⟩
      · skip
        rintro φ5 D3 As7 ⟨a3, cp3, hI5, hD5, hA7⟩
        subst As7
        replace visit0_c1_h1 := visit0_c1_h1.mono hD5
        replace visit0_c1_h2 := visit0_c1_h2.mono hD5
        replace g0_h1 := g0_h1.mono hD5
        replace g0_h2 := g0_h2.mono hD5
        refine e_frame _ hI5 ?_
        refine e_then ?_
        refine c_quiet ?_
        refine ql_s (.int .i64 (addI (i1 : Int) 1)) (by kernel_rfl) ?_
        refine ql_s (.int .i64 (addI (i1 : Int) 1)) (by kernel_rfl) ?_
        refine ql_nil ?_
        refine e_perm (fr1_perm 6 _) ?_
        refine e_perm (fr1_perm 6 _) ?_
        refine e_perm (fr1_perm 6 _) ?_
        refine e_perm (fr1_perm 6 _) ?_
        refine e_perm (fr1_perm 6 _) ?_
        refine e_perm (fr1_perm 6 _) ?_
        refine e_perm (fr1_perm 6 _) ?_
        obtain rfl := Option.some.inj hx1
        exact e_cut ⟨j1, i1 + 1, (s2.1, s2.2), a3, cp3, by omega, by omega, ⟨rfl, rfl, rfl, (congrArg (Value.int .i64) (addI_succ (by omega))), trivial⟩, (PH.le_trans hD1 hD5), rfl, hs2⟩
  · skip
    rintro φ6 D1 As8 ⟨a1, cp1, hI6, hD6, hA8⟩
    subst As8
    replace visit0_c1_h1 := visit0_c1_h1.mono hD6
    replace visit0_c1_h2 := visit0_c1_h2.mono hD6
    replace g0_h1 := g0_h1.mono hD6
    replace g0_h2 := g0_h2.mono hD6
    refine e_frame _ hI6 ?_
    obtain rfl := Option.some.inj hp
    refine e_perm (fr1_perm 2 _) ?_
    refine e_perm (fr1_perm 6 _) ?_
    refine e_perm (fr1_perm 6 _) ?_
    refine e_perm (fr1_perm 6 _) ?_
    refine e_perm (fr1_perm 6 _) ?_
    refine e_perm (fr1_perm 4 _) ?_
    refine e_perm (fr1_perm 6 _) ?_
    refine e_perm (fr1_perm 6 _) ?_
    exact post_all (vs := []) (.tuple #[]) trivial rfl (.inr rfl) (fun w hS => ⟨D1, a1, cp1, hD6, rfl, hS.tail⟩)

-- (tarnfell/road.ground).hops
set_option maxRecDepth 100000 in
set_option maxHeartbeats 2000000 in
theorem road_ground_hops_s (g0 : S_road_ground) (g0_v1a : Option Addr) (g0_v1c : Nat) (g0_v2a : Option Addr) (g0_v2c : Nat) (p0 : S_road_prices) (p0_v1a : Option Addr) (p0_v1c : Nat) (p0_v2a : Option Addr) (p0_v2c : Nat) (D : PH) (g0_h1 : RO (encF .f32) D (.slice g0_v1a g0.f.V.length g0_v1c) g0.f.V) (g0_h2 : RO encS_api_Field D (.slice g0_v2a g0.s.Costly.length g0_v2c) g0.s.Costly) (p0_h1 : RO (encF .f32) D (.slice p0_v1a p0.price.length p0_v1c) p0.price) (p0_h2 : RO encB D (.slice p0_v2a p0.ok.length p0_v2c) p0.ok) (F : List Assert) (r : (List Int)) (hp : road_ground_hops_p g0 p0 = some r) : ∀ w : World, SInv D (F) w → Calls Tryz.prog 62 #[.agg #[.int .i64 g0.f.Region.X, .int .i64 g0.f.Region.Y, .int .i64 g0.f.Region.W, .int .i64 g0.f.Region.H, .slice g0_v1a g0.f.V.length g0_v1c, .float .f32 g0.s.Grade, .float .f32 g0.s.Weight, .float .f32 g0.s.Bridge, .float .f32 g0.s.Dear, .int .i64 g0.s.Span, .slice g0_v2a g0.s.Costly.length g0_v2c], .agg #[.int .i64 p0.from0, .slice p0_v1a p0.price.length p0_v1c, .slice p0_v2a p0.ok.length p0_v2c]] w (fun e w' => ∃ (D1 : PH) (q_a1 : Option Addr) (q_cp1 : Nat), PH.le D D1 ∧ e = .returned (.slice q_a1 r.length q_cp1) ∧ RO (encI .i64) D1 (.slice q_a1 r.length q_cp1) r ∧ SInv D1 (F) w') := by
  intro w hS
  refine call_intro Tryz.func62 rfl Tryz.ntmps62 (Nat.le_of_ble_eq_true rfl) hS ?_
  clear hS w
  unfold road_ground_hops_p at hp
  refine c_seq ?_
  refine c_region ?_
  refine l_box (cs := [.int .i64 g0.f.Region.X, .int .i64 g0.f.Region.Y, .int .i64 g0.f.Region.W, .int .i64 g0.f.Region.H, .slice g0_v1a g0.f.V.length g0_v1c, .float .f32 g0.s.Grade, .float .f32 g0.s.Weight, .float .f32 g0.s.Bridge, .float .f32 g0.s.Dear, .int .i64 g0.s.Span, .slice g0_v2a g0.s.Costly.length g0_v2c]) rfl rfl (fun b3 => ?_)
  refine l_box (cs := [.int .i64 p0.from0, .slice p0_v1a p0.price.length p0_v1c, .slice p0_v2a p0.ok.length p0_v2c]) rfl rfl (fun b4 => ?_)
  refine l_s (.slice none 0 0) (by kernel_rfl) ?_
  refine l_nil ?_
  refine e_then ?_
  refine c_seq ?_
  obtain ⟨l1, hl1, hp⟩ := bnd_some hp
  refine c_region ?_
  refine l_s (.pointer (some ⟨b4, 1, none⟩)) (by kernel_rfl) ?_
  refine l_q rfl (qs_ldpt encV fitv38 rfl 0 rfl (.slice p0_v1a p0.price.length p0_v1c) (Nat.le_of_ble_eq_true rfl) rfl) ?_
  refine l_s (.int .i64 (p0.price.length : Int)) (by kernel_rfl) ?_
  refine l_mkS (zs := [.int .i64 0]) hl1 rfl elem32 (by kernel_rfl) rfl rfl rfl (fun b7 cp2 => ?_)
  refine l_alloc (zs := [.slice none 0 0]) rfl (by kernel_rfl) (fun b8 => ?_)
  refine l_nilS D (encI .i64) 3 ?_
  refine l_perm (fr1_perm 1 _) ?_
  refine l_store (dd := none) (vs := [.slice (some ⟨b7, 0, none⟩) l1.length cp2]) (cs' := [.slice (some ⟨b7, 0, none⟩) l1.length cp2]) rfl (by kernel_rfl) (by kernel_rfl) rfl rfl (Nat.le_of_ble_eq_true rfl) rfl rfl ?_
  refine l_nil ?_
  refine e_perm (fr1_perm 1 _) ?_
  refine e_drop ?_
  refine e_then ?_
  refine c_seq ?_
  refine c_seq ?_
  refine c_quiet ?_
  refine ql_q rfl (qs_ldpt encV fitv32 rfl 0 rfl (.slice (some ⟨b7, 0, none⟩) l1.length cp2) (Nat.le_of_ble_eq_true rfl) rfl) ?_
  refine ql_s (.int .i64 (l1.length : Int)) (by kernel_rfl) ?_
  refine ql_s (.int .i64 0) (by kernel_rfl) ?_
  refine ql_nil ?_
  refine e_then ?_
  refine c_perm (fr1_perm 1 _) ?_
  refine c_adr (fun b9 hb1 hl2 hbd1 hcap1 => ?_)
  have hb0 : (l1.length : Int) ≤ 4611686018427387904 := by have h1 := (rfl : l1.length = l1.length); have h2 := hbd1; omega
  have hm0 : l1.length = (l1.length : Int).toNat := (Int.toNat_natCast _).symm
  have hm1 := hm0; have hb2 := hb0; clear hm0 hb0
  obtain ⟨x1, hs1, hp⟩ := bnd_some hp
  obtain ⟨body1, hbody1, hs1⟩ := forS_gen hs1
  refine c_cut_end (fun φ1 D1 As1 => Is φ1 [(2, .pointer (some ⟨b3, 0, none⟩)), (3, .pointer (some ⟨b4, 0, none⟩)), (5, .pointer (some ⟨b8, 0, none⟩))] ∧ PH.le D D1 ∧ As1 = OwnS D1 (encI .i64) 3 (.slice (some ⟨b7, 0, none⟩) l1.length cp2) x1 :: pt b8 [.slice (some ⟨b7, 0, none⟩) l1.length cp2] 32 :: pt b4 [.int .i64 p0.from0, .slice p0_v1a p0.price.length p0_v1c, .slice p0_v2a p0.ok.length p0_v2c] 95 :: pt b3 [.int .i64 g0.f.Region.X, .int .i64 g0.f.Region.Y, .int .i64 g0.f.Region.W, .int .i64 g0.f.Region.H, .slice g0_v1a g0.f.V.length g0_v1c, .float .f32 g0.s.Grade, .float .f32 g0.s.Weight, .float .f32 g0.s.Bridge, .float .f32 g0.s.Dear, .int .i64 g0.s.Span, .slice g0_v2a g0.s.Costly.length g0_v2c] 100 :: F) ?_ ?_
  · skip
    refine c_block ?_
    refine c_perm (fr1_perm 3 _) ?_
    refine c_perm (fr1_perm 3 _) ?_
    refine c_perm (fr1_perm 3 _) ?_
    refine c_perm (fr1_perm 3 _) ?_
    refine c_loop (fun k φ1 D2 As1 => ∃ (j1 i1 : Nat) (s1 : (List Int)), k = j1 + 1 ∧ i1 + j1 = l1.length ∧ Is φ1 [(2, .pointer (some ⟨b3, 0, none⟩)), (3, .pointer (some ⟨b4, 0, none⟩)), (5, .pointer (some ⟨b8, 0, none⟩)), (15, .int .i64 (l1.length : Int)), (16, .int .i64 (i1 : Int))] ∧ PH.le D D2 ∧ As1 = OwnS D2 (encI .i64) 3 (.slice (some ⟨b7, 0, none⟩) l1.length cp2) s1 :: pt b8 [.slice (some ⟨b7, 0, none⟩) l1.length cp2] 32 :: pt b4 [.int .i64 p0.from0, .slice p0_v1a p0.price.length p0_v1c, .slice p0_v2a p0.ok.length p0_v2c] 95 :: pt b3 [.int .i64 g0.f.Region.X, .int .i64 g0.f.Region.Y, .int .i64 g0.f.Region.W, .int .i64 g0.f.Region.H, .slice g0_v1a g0.f.V.length g0_v1c, .float .f32 g0.s.Grade, .float .f32 g0.s.Weight, .float .f32 g0.s.Bridge, .float .f32 g0.s.Dear, .int .i64 g0.s.Span, .slice g0_v2a g0.s.Costly.length g0_v2c] 100 :: F ∧ forS body1 j1 i1 s1 = some x1) ⟨l1.length + 1, l1.length, 0, l1, rfl, Nat.zero_add _, ⟨rfl, rfl, rfl, rfl, rfl, trivial⟩, (PH.le_refl _), rfl, hs1⟩ ?_ ?_
    · rintro _ _ _ ⟨_, _, _, h0, _⟩; omega
    intro k1
    rintro φ1 D2 As1 ⟨j1, i1, s1, hk1, hij1, hI1, hD1, hA1, hs2⟩
    subst As1
    replace g0_h1 := g0_h1.mono hD1
    replace g0_h2 := g0_h2.mono hD1
    replace p0_h1 := p0_h1.mono hD1
    replace p0_h2 := p0_h2.mono hD1
    refine c_frame _ hI1 ?_
    obtain rfl : k1 = j1 := by omega
    clear hk1
    rcases k1 with _ | j1
    · skip
      refine c_seq ?_
      refine c_quiet ?_
      refine ql_s (.bool (decide ((i1 : Int) < (l1.length : Int)))) (by kernel_rfl) ?_
      refine ql_nil ?_
      refine e_then ?_
      refine c_seq ?_
      refine c_cond (decide ((i1 : Int) < (l1.length : Int))) rfl (fun ht1 => absurd ((dec_lt_f hm1 (by omega)).symm.trans ht1) (by simp)) (fun _ => ?_)
      refine c_exit ?_
      refine e_then_exit ?_
      refine e_then_exit ?_
      obtain rfl := Option.some.inj hs2
      refine e_blk_exit ?_
      refine e_perm (fr1_perm 3 _) ?_
      refine e_perm (fr1_perm 3 _) ?_
      refine e_perm (fr1_perm 3 _) ?_
      refine e_perm (fr1_perm 3 _) ?_
      exact e_cut ⟨⟨rfl, rfl, rfl, trivial⟩, hD1, rfl⟩
    · skip
      obtain ⟨y1, hx1, hs2⟩ := forS_some hs2
      replace hx1 := (congrFun (congrFun hbody1 i1) s1).trans hx1
      refine c_seq ?_
      refine c_quiet ?_
      refine ql_s (.bool (decide ((i1 : Int) < (l1.length : Int)))) (by kernel_rfl) ?_
      refine ql_nil ?_
      refine e_then ?_
      refine c_seq ?_
      refine c_cond (decide ((i1 : Int) < (l1.length : Int))) rfl (fun _ => ?_) (fun ht2 => absurd ((dec_lt_t hm1 (by omega)).symm.trans ht2) (by simp))
      refine c_skip ?_
      refine e_then ?_
      refine c_seq ?_
      refine c_block ?_
      refine c_seq ?_
      refine c_quiet ?_
      refine ql_s (.int .i64 (i1 : Int)) (by kernel_rfl) ?_
      refine ql_s (.int .i64 (i1 : Int)) (by kernel_rfl) ?_
      refine ql_nil ?_
      refine e_then ?_
      obtain ⟨x2, hx2, hx1⟩ := bnd_some hx1
      obtain ⟨l2, hl3, hx1⟩ := bnd_some hx1
      replace hl3 := Option.some.inj hl3
      refine c_adr (fun b10 hb3 hl4 hbd2 hcap2 => ?_)
      refine c_region ?_
      refine l_q rfl (qs_ldpt encV fitv32 rfl 1 rfl (.slice (some ⟨b7, 0, none⟩) l1.length cp2) (Nat.le_of_ble_eq_true rfl) rfl) ?_
      refine l_s (.int .i64 (i1 : Int)) (by kernel_rfl) ?_
      refine l_q rfl (qs_idx (IsIdx.beg (e := encI .i64) hb3 hl4 hx2) Tryz.underlying32 fit3 rfl rfl) ?_
      refine l_stS (vs := [.int .i64 (-1)]) hb3 hl4 hl3 rfl fit3 rfl rfl rfl rfl (idx_some hx2).2.1 ?_
      refine l_nil ?_
      refine e_blk ?_
      refine e_then ?_
      refine c_quiet ?_
      refine ql_s (.int .i64 (addI (i1 : Int) 1)) (by kernel_rfl) ?_
      refine ql_s (.int .i64 (addI (i1 : Int) 1)) (by kernel_rfl) ?_
      refine ql_nil ?_
      refine e_perm (fr1_perm 3 _) ?_
      refine e_perm (fr1_perm 3 _) ?_
      refine e_perm (fr1_perm 3 _) ?_
      refine e_perm (fr1_perm 3 _) ?_
      obtain rfl := Option.some.inj hx1
      exact e_cut ⟨j1, i1 + 1, l2, by omega, by omega, ⟨rfl, rfl, rfl, rfl, (congrArg (Value.int .i64) (addI_succ (by omega))), trivial⟩, hD1, rfl, hs2⟩
  · skip
    rintro φ2 D1 As2 ⟨hI2, hD2, hA2⟩
    subst As2
    replace g0_h1 := g0_h1.mono hD2
    replace g0_h2 := g0_h2.mono hD2
    replace p0_h1 := p0_h1.mono hD2
    replace p0_h2 := p0_h2.mono hD2
    refine e_frame _ hI2 ?_
    refine e_then ?_
    refine c_seq ?_
    obtain ⟨x3, hx3, hp⟩ := bnd_some hp
    obtain ⟨l3, hl5, hp⟩ := bnd_some hp
    replace hl5 := Option.some.inj hl5
    refine c_adr (fun b11 hb4 hl6 hbd3 hcap3 => ?_)
    refine c_region ?_
    refine l_q rfl (qs_ldpt encV fitv32 rfl 1 rfl (.slice (some ⟨b7, 0, none⟩) l1.length cp2) (Nat.le_of_ble_eq_true rfl) rfl) ?_
    refine l_s (.pointer (some ⟨b4, 0, none⟩)) (by kernel_rfl) ?_
    refine l_q rfl (qs_ldpt encV fitv3 rfl 2 rfl (.int .i64 p0.from0) (Nat.le_of_ble_eq_true rfl) rfl) ?_
    refine l_q rfl (qs_idx (IsIdx.beg (e := encI .i64) hb4 hl6 hx3) Tryz.underlying32 fit3 rfl rfl) ?_
    refine l_stS (vs := [.int .i64 0]) hb4 hl6 hl5 rfl fit3 rfl rfl rfl rfl (idx_some hx3).2.1 ?_
    refine l_nil ?_
    refine e_then ?_
    refine c_seq ?_
    refine c_region ?_
    refine l_s (.pointer (some ⟨b4, 0, none⟩)) (by kernel_rfl) ?_
    refine l_q rfl (qs_ldpt encV fitv3 rfl 2 rfl (.int .i64 p0.from0) (Nat.le_of_ble_eq_true rfl) rfl) ?_
    refine l_bslS (cs := [.int .i64 p0.from0]) (E := 3) (e := encI .i64) ([p0.from0] : List Int) rfl (by kernel_rfl) rfl rfl (Nat.le_of_ble_eq_true rfl) ⟨rfl, trivial⟩ (fun b14 cp4 => ?_)
    refine l_alloc (zs := [.slice none 0 0]) rfl (by kernel_rfl) (fun b15 => ?_)
    refine l_nilS D1 (encI .i64) 3 ?_
    refine l_perm (fr1_perm 1 _) ?_
    refine l_store (dd := none) (vs := [.slice (some ⟨b14, 0, none⟩) (([p0.from0] : List Int).length) cp4]) (cs' := [.slice (some ⟨b14, 0, none⟩) (([p0.from0] : List Int).length) cp4]) rfl (by kernel_rfl) (by kernel_rfl) rfl rfl (Nat.le_of_ble_eq_true rfl) rfl rfl ?_
    refine l_nil ?_
    refine e_perm (fr1_perm 1 _) ?_
    refine e_drop ?_
    refine e_then ?_
    refine c_seq ?_
    refine c_seq ?_
    refine c_quiet ?_
    refine ql_s (.int .i64 0) (by kernel_rfl) ?_
    refine ql_nil ?_
    refine e_then ?_
    obtain ⟨x4, hs3, hp⟩ := bnd_some hp
    obtain ⟨body2, hbody2, hs3⟩ := loopP_gen hs3
    refine c_cut_end (fun φ1 D3 As1 => ∃ (a1 : Option Addr) (cp5 : Nat), Is φ1 [(5, .pointer (some ⟨b8, 0, none⟩))] ∧ PH.le D1 D3 ∧ As1 = pt b15 [.slice a1 x4.1.length cp5] 32 :: OwnS D3 (encI .i64) 3 (.slice a1 x4.1.length cp5) x4.1 :: OwnS D3 (encI .i64) 3 (.slice (some ⟨b7, 0, none⟩) l1.length cp2) x4.2 :: pt b8 [.slice (some ⟨b7, 0, none⟩) l1.length cp2] 32 :: pt b4 [.int .i64 p0.from0, .slice p0_v1a p0.price.length p0_v1c, .slice p0_v2a p0.ok.length p0_v2c] 95 :: pt b3 [.int .i64 g0.f.Region.X, .int .i64 g0.f.Region.Y, .int .i64 g0.f.Region.W, .int .i64 g0.f.Region.H, .slice g0_v1a g0.f.V.length g0_v1c, .float .f32 g0.s.Grade, .float .f32 g0.s.Weight, .float .f32 g0.s.Bridge, .float .f32 g0.s.Dear, .int .i64 g0.s.Span, .slice g0_v2a g0.s.Costly.length g0_v2c] 100 :: F) ?_ ?_
    · skip
      refine c_block ?_
      refine c_perm (fr1_perm 5 _) ?_
      refine c_perm (fr1_perm 5 _) ?_
      refine c_perm (fr1_perm 5 _) ?_
      refine c_perm (fr1_perm 5 _) ?_
      refine c_perm (fr1_perm 5 _) ?_
      refine c_perm (fr1_perm 5 _) ?_
      obtain ⟨kz1, hs3⟩ := loopP_ex hs3
      refine c_loop (fun k φ1 D4 As1 => ∃ (s2 : Int × (List Int) × (List Int)) (a2 : Option Addr) (cp6 : Nat), Is φ1 [(2, .pointer (some ⟨b3, 0, none⟩)), (3, .pointer (some ⟨b4, 0, none⟩)), (5, .pointer (some ⟨b8, 0, none⟩)), (7, .pointer (some ⟨b15, 0, none⟩)), (8, .int .i64 s2.1)] ∧ PH.le D1 D4 ∧ As1 = pt b15 [.slice a2 s2.2.1.length cp6] 32 :: OwnS D4 (encI .i64) 3 (.slice a2 s2.2.1.length cp6) s2.2.1 :: OwnS D4 (encI .i64) 3 (.slice (some ⟨b7, 0, none⟩) l1.length cp2) s2.2.2 :: pt b8 [.slice (some ⟨b7, 0, none⟩) l1.length cp2] 32 :: pt b4 [.int .i64 p0.from0, .slice p0_v1a p0.price.length p0_v1c, .slice p0_v2a p0.ok.length p0_v2c] 95 :: pt b3 [.int .i64 g0.f.Region.X, .int .i64 g0.f.Region.Y, .int .i64 g0.f.Region.W, .int .i64 g0.f.Region.H, .slice g0_v1a g0.f.V.length g0_v1c, .float .f32 g0.s.Grade, .float .f32 g0.s.Weight, .float .f32 g0.s.Bridge, .float .f32 g0.s.Dear, .int .i64 g0.s.Span, .slice g0_v2a g0.s.Costly.length g0_v2c] 100 :: F ∧ iter body2 k s2 = some x4) ⟨kz1, (0, ([p0.from0] : List Int), l3), some ⟨b14, 0, none⟩, cp4, ⟨rfl, rfl, rfl, rfl, rfl, trivial⟩, (PH.le_refl _), rfl, hs3⟩ ?_ ?_
      · rintro _ _ _ ⟨_, _, _, _, _, _, h0⟩; cases h0
      intro k2
      rintro φ3 D4 As3 ⟨s2, a2, cp6, hI3, hD3, hA3, hs4⟩
      subst As3
      replace g0_h1 := g0_h1.mono hD3
      replace g0_h2 := g0_h2.mono hD3
      replace p0_h1 := p0_h1.mono hD3
      replace p0_h2 := p0_h2.mono hD3
      refine c_frame _ hI3 ?_
      obtain ⟨y2, hx4, hs4⟩ := iter_some hs4
      replace hx4 := (congrFun hbody2 s2).trans hx4
      refine c_seq ?_
      refine c_seq ?_
      refine c_quiet ?_
      refine ql_s (.int .i64 s2.1) (by kernel_rfl) ?_
      refine ql_q rfl (qs_ldpt encV fitv32 rfl 0 rfl (.slice a2 s2.2.1.length cp6) (Nat.le_of_ble_eq_true rfl) rfl) ?_
      refine ql_s (.int .i64 (s2.2.1.length : Int)) (by kernel_rfl) ?_
      refine ql_s (.bool (decide (s2.1 < (s2.2.1.length : Int)))) (by kernel_rfl) ?_
      refine ql_nil ?_
      refine e_then ?_
      refine c_cond (decide (s2.1 < (s2.2.1.length : Int))) rfl (fun ht3 => ?_) (fun ht3 => ?_)
      · skip
        replace hx4 := if_t ht3 hx4
        refine c_skip ?_
        refine e_then ?_
        refine c_seq ?_
        refine c_block ?_
        refine c_seq ?_
        obtain ⟨x5, hx5, hx4⟩ := bnd_some hx4
        refine c_perm (fr1_perm 1 _) ?_
        refine c_adr (fun b17 hb5 hl7 hbd4 hcap4 => ?_)
        refine c_region ?_
        refine l_q rfl (qs_ldpt encV fitv32 rfl 1 rfl (.slice a2 s2.2.1.length cp6) (Nat.le_of_ble_eq_true rfl) rfl) ?_
        refine l_s (.int .i64 s2.1) (by kernel_rfl) ?_
        refine l_q rfl (qs_idx (IsIdx.beg (e := encI .i64) hb5 rfl hx5) Tryz.underlying32 fit3 rfl rfl) ?_
        refine l_q rfl (qs_ldS fit3 hb5 rfl rfl 0 rfl (idx_some hx5).2.2 (v := .int .i64 x5) valI) ?_
        refine l_alloc (zs := [.int .i64 0]) rfl (by kernel_rfl) (fun b18 => ?_)
        refine l_store (dd := none) (vs := [.int .i64 x5]) (cs' := [.int .i64 x5]) rfl (by kernel_rfl) (by kernel_rfl) rfl rfl (Nat.le_of_ble_eq_true rfl) rfl rfl ?_
        refine l_nil ?_
        refine e_then ?_
        obtain ⟨r1, hr1, hx4⟩ := bnd_some hx4
        refine c_perm (fr1_perm 3 _) ?_
        refine c_adr (fun b19 hb6 hl8 hbd5 hcap5 => ?_)
        refine c_region ?_
        refine l_q rfl (qs_ldpt (encW 11 (by decide)) fitv100 rfl 6 rfl (.agg #[.int .i64 g0.f.Region.X, .int .i64 g0.f.Region.Y, .int .i64 g0.f.Region.W, .int .i64 g0.f.Region.H, .slice g0_v1a g0.f.V.length g0_v1c, .float .f32 g0.s.Grade, .float .f32 g0.s.Weight, .float .f32 g0.s.Bridge, .float .f32 g0.s.Dear, .int .i64 g0.s.Span, .slice g0_v2a g0.s.Costly.length g0_v2c]) (Nat.le_of_ble_eq_true rfl) rfl) ?_
        refine l_q rfl (qs_ldpt encV fitv3 rfl 1 rfl (.int .i64 x5) (Nat.le_of_ble_eq_true rfl) rfl) ?_
        refine l_s (.func (.func 89) #[] #[.pointer (some ⟨b8, 0, none⟩), .pointer (some ⟨b4, 0, none⟩), .pointer (some ⟨b18, 0, none⟩), .pointer (some ⟨b15, 0, none⟩)]) (by kernel_rfl) ?_
        refine l_call rfl rfl Tryz.call86 (vs := [.agg #[.int .i64 g0.f.Region.X, .int .i64 g0.f.Region.Y, .int .i64 g0.f.Region.W, .int .i64 g0.f.Region.H, .slice g0_v1a g0.f.V.length g0_v1c, .float .f32 g0.s.Grade, .float .f32 g0.s.Weight, .float .f32 g0.s.Bridge, .float .f32 g0.s.Dear, .int .i64 g0.s.Span, .slice g0_v2a g0.s.Costly.length g0_v2c], .int .i64 x5, .func (.func 89) #[] #[.pointer (some ⟨b8, 0, none⟩), .pointer (some ⟨b4, 0, none⟩), .pointer (some ⟨b18, 0, none⟩), .pointer (some ⟨b15, 0, none⟩)]]) rfl (fun v D6 As5 => ∃ (a4 : Option Addr) (cp8 : Nat), PH.le D4 D6 ∧ v = .tuple #[] ∧ As5 = pt b8 [.slice (some ⟨b7, 0, none⟩) l1.length cp2] 32 :: OwnS D6 (encI .i64) 3 (.slice (some ⟨b7, 0, none⟩) l1.length cp2) r1.1 :: pt b4 [.int .i64 p0.from0, .slice p0_v1a p0.price.length p0_v1c, .slice p0_v2a p0.ok.length p0_v2c] 95 :: pt b18 [.int .i64 x5] 3 :: pt b15 [.slice a4 r1.2.length cp8] 32 :: OwnS D6 (encI .i64) 3 (.slice a4 r1.2.length cp8) r1.2 :: pt b3 [.int .i64 g0.f.Region.X, .int .i64 g0.f.Region.Y, .int .i64 g0.f.Region.W, .int .i64 g0.f.Region.H, .slice g0_v1a g0.f.V.length g0_v1c, .float .f32 g0.s.Grade, .float .f32 g0.s.Weight, .float .f32 g0.s.Bridge, .float .f32 g0.s.Dear, .int .i64 g0.s.Span, .slice g0_v2a g0.s.Costly.length g0_v2c] 100 :: F) (fun w hS => (show Calls Tryz.prog 86 #[.agg #[.int .i64 g0.f.Region.X, .int .i64 g0.f.Region.Y, .int .i64 g0.f.Region.W, .int .i64 g0.f.Region.H, .slice g0_v1a g0.f.V.length g0_v1c, .float .f32 g0.s.Grade, .float .f32 g0.s.Weight, .float .f32 g0.s.Bridge, .float .f32 g0.s.Dear, .int .i64 g0.s.Span, .slice g0_v2a g0.s.Costly.length g0_v2c], .int .i64 x5, .func (.func 89) #[] #[.pointer (some ⟨b8, 0, none⟩), .pointer (some ⟨b4, 0, none⟩), .pointer (some ⟨b18, 0, none⟩), .pointer (some ⟨b15, 0, none⟩)]] w (fun e w' => ∃ (D6 : PH) (a4 : Option Addr) (cp8 : Nat), PH.le D4 D6 ∧ e = .returned (.tuple #[]) ∧ SInv D6 (pt b8 [.slice (some ⟨b7, 0, none⟩) l1.length cp2] 32 :: OwnS D6 (encI .i64) 3 (.slice (some ⟨b7, 0, none⟩) l1.length cp2) r1.1 :: pt b4 [.int .i64 p0.from0, .slice p0_v1a p0.price.length p0_v1c, .slice p0_v2a p0.ok.length p0_v2c] 95 :: pt b18 [.int .i64 x5] 3 :: pt b15 [.slice a4 r1.2.length cp8] 32 :: OwnS D6 (encI .i64) 3 (.slice a4 r1.2.length cp8) r1.2 :: pt b3 [.int .i64 g0.f.Region.X, .int .i64 g0.f.Region.Y, .int .i64 g0.f.Region.W, .int .i64 g0.f.Region.H, .slice g0_v1a g0.f.V.length g0_v1c, .float .f32 g0.s.Grade, .float .f32 g0.s.Weight, .float .f32 g0.s.Bridge, .float .f32 g0.s.Dear, .int .i64 g0.s.Span, .slice g0_v2a g0.s.Costly.length g0_v2c] 100 :: F) w') from by have hq := road_ground_each_v1_s g0 g0_v1a g0_v1c g0_v2a g0_v2c x5 b8 s2.2.2 (some ⟨b7, 0, none⟩) cp2 b4 p0 p0_v1a p0_v1c p0_v2a p0_v2c b18 x5 b15 s2.2.1 a2 cp6 _ g0_h1 g0_h2 p0_h1 p0_h2 _ _ hr1 w (show SInv D4 (pt b8 [.slice (some ⟨b7, 0, none⟩) s2.2.2.length cp2] 32 :: OwnS D4 (encI .i64) 3 (.slice (some ⟨b7, 0, none⟩) s2.2.2.length cp2) s2.2.2 :: pt b4 [.int .i64 p0.from0, .slice p0_v1a p0.price.length p0_v1c, .slice p0_v2a p0.ok.length p0_v2c] 95 :: pt b18 [.int .i64 x5] 3 :: pt b15 [.slice a2 s2.2.1.length cp6] 32 :: OwnS D4 (encI .i64) 3 (.slice a2 s2.2.1.length cp6) s2.2.1 :: pt b3 [.int .i64 g0.f.Region.X, .int .i64 g0.f.Region.Y, .int .i64 g0.f.Region.W, .int .i64 g0.f.Region.H, .slice g0_v1a g0.f.V.length g0_v1c, .float .f32 g0.s.Grade, .float .f32 g0.s.Weight, .float .f32 g0.s.Bridge, .float .f32 g0.s.Dear, .int .i64 g0.s.Span, .slice g0_v2a g0.s.Costly.length g0_v2c] 100 :: F) w from by have h2 : SInv D4 (pt b8 [.slice (some ⟨b7, 0, none⟩) l1.length cp2] 32 :: OwnS D4 (encI .i64) 3 (.slice (some ⟨b7, 0, none⟩) l1.length cp2) s2.2.2 :: pt b4 [.int .i64 p0.from0, .slice p0_v1a p0.price.length p0_v1c, .slice p0_v2a p0.ok.length p0_v2c] 95 :: pt b18 [.int .i64 x5] 3 :: pt b15 [.slice a2 s2.2.1.length cp6] 32 :: OwnS D4 (encI .i64) 3 (.slice a2 s2.2.1.length cp6) s2.2.1 :: pt b3 [.int .i64 g0.f.Region.X, .int .i64 g0.f.Region.Y, .int .i64 g0.f.Region.W, .int .i64 g0.f.Region.H, .slice g0_v1a g0.f.V.length g0_v1c, .float .f32 g0.s.Grade, .float .f32 g0.s.Weight, .float .f32 g0.s.Bridge, .float .f32 g0.s.Dear, .int .i64 g0.s.Span, .slice g0_v2a g0.s.Costly.length g0_v2c] 100 :: F) w := (((((hS.perm (fr1_perm 2 _)).perm (fr1_perm 3 _)).perm (fr1_perm 3 _)).perm (fr1_perm 5 _)).perm (fr1_perm 4 _)).perm (fr1_perm 5 _); rw [← hl8] at h2; exact h2); (try simp only [hl8] at hq); exact hq).mono fun e w' ⟨D6, a4, cp8, hle2, he, hS2⟩ => ⟨_, D6, _, he, ⟨a4, cp8, hle2, rfl, rfl⟩, hS2⟩) ?_
        rintro _ D6 As5 ⟨a4, cp8, hle2, rfl, hA5⟩
        subst As5
        replace g0_h1 := g0_h1.mono hle2
        replace g0_h2 := g0_h2.mono hle2
        replace p0_h1 := p0_h1.mono hle2
        replace p0_h2 := p0_h2.mono hle2
        refine l_nil ?_
        refine e_perm (fr1_perm 3 _) ?_
        refine e_drop ?_
        refine e_blk ?_
        refine e_then ?_
        refine c_quiet ?_
        refine ql_s (.int .i64 s2.1) (by kernel_rfl) ?_
        refine ql_s (.int .i64 (addI s2.1 1)) (by kernel_rfl) ?_
        refine ql_s (.int .i64 (addI s2.1 1)) (by kernel_rfl) ?_
        refine ql_nil ?_
        refine e_perm (fr1_perm 5 _) ?_
        refine e_perm (fr1_perm 3 _) ?_
        refine e_perm (fr1_perm 2 _) ?_
        refine e_perm (fr1_perm 3 _) ?_
        refine e_perm (fr1_perm 5 _) ?_
        refine e_perm (fr1_perm 5 _) ?_
        obtain rfl := Option.some.inj hx4
        exact e_cut ⟨(addI s2.1 1, r1.2, r1.1), a4, cp8, ⟨rfl, rfl, rfl, rfl, rfl, trivial⟩, (PH.le_trans hD3 hle2), rfl, hs4⟩
      · skip
        replace hx4 := if_f ht3 hx4
        refine c_exit ?_
        refine e_then_exit ?_
        refine e_then_exit ?_
        obtain rfl := Option.some.inj hx4
        obtain rfl := hs4
        refine e_blk_exit ?_
        refine e_perm (fr1_perm 5 _) ?_
        refine e_perm (fr1_perm 5 _) ?_
        refine e_perm (fr1_perm 5 _) ?_
        refine e_perm (fr1_perm 5 _) ?_
        refine e_perm (fr1_perm 5 _) ?_
        refine e_perm (fr1_perm 5 _) ?_
        exact e_cut ⟨a2, cp6, ⟨rfl, trivial⟩, hD3, rfl⟩
    · skip
      rintro φ4 D3 As6 ⟨a1, cp5, hI4, hD4, hA6⟩
      subst As6
      replace g0_h1 := g0_h1.mono hD4
      replace g0_h2 := g0_h2.mono hD4
      replace p0_h1 := p0_h1.mono hD4
      replace p0_h2 := p0_h2.mono hD4
      refine e_frame _ hI4 ?_
      refine e_then ?_
      refine c_seq ?_
      refine c_quiet ?_
      refine ql_q rfl (qs_ldpt encV fitv32 rfl 3 rfl (.slice (some ⟨b7, 0, none⟩) l1.length cp2) (Nat.le_of_ble_eq_true rfl) rfl) ?_
      refine ql_s (.slice (some ⟨b7, 0, none⟩) l1.length cp2) (by kernel_rfl) ?_
      refine ql_nil ?_
      refine e_drop ?_
      refine e_drop ?_
      refine e_perm (fr1_perm 1 _) ?_
      refine e_drop ?_
      refine e_perm (fr1_perm 1 _) ?_
      refine e_drop ?_
      refine e_perm (fr1_perm 1 _) ?_
      refine e_drop ?_
      refine e_then ?_
      refine c_ret ?_
      refine e_adr (fun b20 hb7 hl9 hbd6 hcap6 => ?_)
      refine e_layS (PH.le_refl _) (fun D7 hle3 h1 => ?_)
      replace g0_h1 := g0_h1.mono hle3
      replace g0_h2 := g0_h2.mono hle3
      replace p0_h1 := p0_h1.mono hle3
      replace p0_h2 := p0_h2.mono hle3
      obtain rfl := Option.some.inj hp
      exact post_all (vs := [.slice (some ⟨b7, 0, none⟩) l1.length cp2]) (.slice (some ⟨b7, 0, none⟩) l1.length cp2) ⟨rfl, trivial⟩ rfl (.inl rfl) (fun w hS => ⟨D7, some ⟨b7, 0, none⟩, cp2, (PH.le_trans (PH.le_trans hD2 hD4) hle3), (by simp only [hl9]), (by rw [hl9]; exact h1), (by have h2 : SInv D7 (F) w := hS; simpa only [hl9] using h2)⟩)

-- (tarnfell/road.ground).point
set_option maxRecDepth 100000 in
set_option maxHeartbeats 2000000 in
theorem road_ground_point_s (g0 : S_road_ground) (g0_v1a : Option Addr) (g0_v1c : Nat) (g0_v2a : Option Addr) (g0_v2c : Nat) (k0 : Int) (D : PH) (g0_h1 : RO (encF .f32) D (.slice g0_v1a g0.f.V.length g0_v1c) g0.f.V) (g0_h2 : RO encS_api_Field D (.slice g0_v2a g0.s.Costly.length g0_v2c) g0.s.Costly) (F : List Assert) (r : S_api_Point) (hp : road_ground_point_p g0 k0 = some r) : ∀ w : World, SInv D (F) w → Calls Tryz.prog 63 #[.agg #[.int .i64 g0.f.Region.X, .int .i64 g0.f.Region.Y, .int .i64 g0.f.Region.W, .int .i64 g0.f.Region.H, .slice g0_v1a g0.f.V.length g0_v1c, .float .f32 g0.s.Grade, .float .f32 g0.s.Weight, .float .f32 g0.s.Bridge, .float .f32 g0.s.Dear, .int .i64 g0.s.Span, .slice g0_v2a g0.s.Costly.length g0_v2c], .int .i64 k0] w (fun e w' => e = .returned (.agg #[.int .i64 r.X, .int .i64 r.Y]) ∧ SInv D (F) w') := by
  intro w hS
  refine call_intro Tryz.func63 rfl Tryz.ntmps63 (Nat.le_of_ble_eq_true rfl) hS ?_
  clear hS w
  unfold road_ground_point_p at hp
  refine c_seq ?_
  refine c_region ?_
  refine l_box (cs := [.int .i64 g0.f.Region.X, .int .i64 g0.f.Region.Y, .int .i64 g0.f.Region.W, .int .i64 g0.f.Region.H, .slice g0_v1a g0.f.V.length g0_v1c, .float .f32 g0.s.Grade, .float .f32 g0.s.Weight, .float .f32 g0.s.Bridge, .float .f32 g0.s.Dear, .int .i64 g0.s.Span, .slice g0_v2a g0.s.Costly.length g0_v2c]) rfl rfl (fun b3 => ?_)
  refine l_alloc (zs := [.int .i64 0, .int .i64 0]) rfl (by kernel_rfl) (fun b4 => ?_)
  refine l_nil ?_
  refine e_then ?_
  refine c_seq ?_
  obtain ⟨u1, hu1, hp⟩ := bnd_some hp
  replace hu1 := guardP_some hu1
  refine c_perm (fr1_perm 1 _) ?_
  refine c_order (B := [pt b3 [.int .i64 g0.f.Region.X, .int .i64 g0.f.Region.Y, .int .i64 g0.f.Region.W, .int .i64 g0.f.Region.H, .slice g0_v1a g0.f.V.length g0_v1c, .float .f32 g0.s.Grade, .float .f32 g0.s.Weight, .float .f32 g0.s.Bridge, .float .f32 g0.s.Dear, .int .i64 g0.s.Span, .slice g0_v2a g0.s.Costly.length g0_v2c] 100]) (.q 0 (.q 1 (.q 2 (.q 3 (.q 4 (.q 5 (.q 6 (.q 7 (.q 8 (.q 9 (.q 10 (.q 11 (.q 12 (.q 13 (.q 14 (.q 15 (.q 16 (.q 17 (.q 18 (.q 19 (.q 20 (.q 21 (.q 22 (.e 23 .nil)))))))))))))))))))))))) hmix (by kernel_rfl) (NoPanic.then NoPanic.post) ?_
  refine o_s (.pointer (some ⟨b3, 0, none⟩)) rfl (by kernel_rfl) ?_
  refine o_s (.pointer (some ⟨b3, 0, none⟩)) rfl (by kernel_rfl) ?_
  refine o_s (.pointer (some ⟨b3, 0, none⟩)) rfl (by kernel_rfl) ?_
  refine o_qs rfl rfl (qs_ldpt encV fitv3 rfl 0 rfl (.int .i64 g0.f.Region.X) (Nat.le_of_ble_eq_true rfl) rfl) ?_
  refine o_s (.int .i64 k0) rfl (by kernel_rfl) ?_
  refine o_s (.pointer (some ⟨b3, 0, none⟩)) rfl (by kernel_rfl) ?_
  refine o_s (.pointer (some ⟨b3, 0, none⟩)) rfl (by kernel_rfl) ?_
  refine o_s (.pointer (some ⟨b3, 2, none⟩)) rfl (by kernel_rfl) ?_
  refine o_qs rfl rfl (qs_ldpt encV fitv3 rfl 0 rfl (.int .i64 g0.f.Region.W) (Nat.le_of_ble_eq_true rfl) rfl) ?_
  refine o_qs rfl rfl (qs_idiv (r := remI k0 g0.f.Region.W) (by simpa using hu1) rfl rfl rfl) ?_
  refine o_s (.int .i64 (addI g0.f.Region.X (remI k0 g0.f.Region.W))) rfl (by kernel_rfl) ?_
  refine o_s (.pointer (some ⟨b3, 0, none⟩)) rfl (by kernel_rfl) ?_
  refine o_s (.pointer (some ⟨b3, 0, none⟩)) rfl (by kernel_rfl) ?_
  refine o_s (.pointer (some ⟨b3, 1, none⟩)) rfl (by kernel_rfl) ?_
  refine o_qs rfl rfl (qs_ldpt encV fitv3 rfl 0 rfl (.int .i64 g0.f.Region.Y) (Nat.le_of_ble_eq_true rfl) rfl) ?_
  refine o_s (.int .i64 k0) rfl (by kernel_rfl) ?_
  refine o_s (.pointer (some ⟨b3, 0, none⟩)) rfl (by kernel_rfl) ?_
  refine o_s (.pointer (some ⟨b3, 0, none⟩)) rfl (by kernel_rfl) ?_
  refine o_s (.pointer (some ⟨b3, 2, none⟩)) rfl (by kernel_rfl) ?_
  refine o_qs rfl rfl (qs_ldpt encV fitv3 rfl 0 rfl (.int .i64 g0.f.Region.W) (Nat.le_of_ble_eq_true rfl) rfl) ?_
  refine o_qs rfl rfl (qs_idiv (r := quoI k0 g0.f.Region.W) (by simpa using hu1) rfl rfl rfl) ?_
  refine o_s (.int .i64 (addI g0.f.Region.Y (quoI k0 g0.f.Region.W))) rfl (by kernel_rfl) ?_
  refine o_s (.agg #[.int .i64 (addI g0.f.Region.X (remI k0 g0.f.Region.W)), .int .i64 (addI g0.f.Region.Y (quoI k0 g0.f.Region.W))]) rfl (by kernel_rfl) ?_
  refine o_store (vs := [.int .i64 (addI g0.f.Region.X (remI k0 g0.f.Region.W)), .int .i64 (addI g0.f.Region.Y (quoI k0 g0.f.Region.W))]) (cs' := [.int .i64 (addI g0.f.Region.X (remI k0 g0.f.Region.W)), .int .i64 (addI g0.f.Region.Y (quoI k0 g0.f.Region.W))]) rfl rfl (PH.le_refl _) (by kernel_rfl) (by kernel_rfl) rfl rfl (Nat.le_of_ble_eq_true rfl) rfl rfl ?_
  refine o_nil ?_
  refine e_drop ?_
  refine e_then ?_
  refine c_ret ?_
  obtain rfl := Option.some.inj hp
  exact post_all (vs := [.agg #[.int .i64 (addI g0.f.Region.X (remI k0 g0.f.Region.W)), .int .i64 (addI g0.f.Region.Y (quoI k0 g0.f.Region.W))]]) (.agg #[.int .i64 (addI g0.f.Region.X (remI k0 g0.f.Region.W)), .int .i64 (addI g0.f.Region.Y (quoI k0 g0.f.Region.W))]) ⟨⟨_, 0, _, _, 2, by decide, rfl, rfl, .inr ⟨fitv43, rfl, rfl⟩⟩, trivial⟩ rfl (.inl rfl) (fun w hS => ⟨rfl, hS.tail⟩)

end Go.Proofs.YtlngccfplnbeiaaGreatDoor
