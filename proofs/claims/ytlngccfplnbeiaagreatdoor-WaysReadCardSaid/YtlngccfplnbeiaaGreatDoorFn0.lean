/- Own text, by program: that the code computes the pure functions. -/
import Derived.Test.YtlngccfplnbeiaaGreatDoorPu
namespace Go.Proofs.YtlngccfplnbeiaaGreatDoor
open Sx
set_option linter.all false
variable [WB] [GV Tryz.prog]

-- strings.Split
set_option maxRecDepth 100000 in
set_option maxHeartbeats 2000000 in
theorem strings_Split_s (s0 : ByteArray) (sep0 : ByteArray) (D : PH)  (F : List Assert) (r : (List ByteArray)) (hp : splitP s0 sep0 = some r) : ∀ w : World, SInv D (F) w → Calls Tryz.prog 18 #[.string s0, .string sep0] w (fun e w' => ∃ (D1 : PH) (q_a1 : Option Addr) (q_cp1 : Nat), PH.le D D1 ∧ e = .returned (.slice q_a1 r.length q_cp1) ∧ RO encStr D1 (.slice q_a1 r.length q_cp1) r ∧ SInv D1 (F) w') := by
  exact given_split (P := Tryz.prog) (g := 1) (by kernel_rfl) GV.maxLen (fun s sep m w hs hm h1 => Tryz.strings_Split s sep m w hs hm h1) hp

-- internal/stringslite.HasPrefix
set_option maxRecDepth 100000 in
set_option maxHeartbeats 2000000 in
theorem internal_stringslite_HasPrefix_s (s0 : ByteArray) (prefix0 : ByteArray) (D : PH)  (F : List Assert) (r : Bool) (hp : internal_stringslite_HasPrefix_p s0 prefix0 = some r) : ∀ w : World, SInv D (F) w → Calls Tryz.prog 74 #[.string s0, .string prefix0] w (fun e w' => e = .returned (.bool r) ∧ SInv D (F) w') := by
  intro w hS
  refine call_intro Tryz.func74 rfl Tryz.ntmps74 (Nat.le_of_ble_eq_true rfl) hS ?_
  clear hS w
  unfold internal_stringslite_HasPrefix_p at hp
  refine c_seq ?_
  refine c_quiet ?_
  refine ql_s (.bool false) (by kernel_rfl) ?_
  refine ql_nil ?_
  refine e_then ?_
  refine c_seq ?_
  obtain ⟨c1, hc1, hp⟩ := bnd_some hp
  refine c_cutq_end [(4, .bool c1)] ?_ ?_
  · skip
    refine c_quiet ?_
    refine ql_s (.string s0) (by kernel_rfl) ?_
    refine ql_q rfl (qs_strLen Tryz.underlying9 rfl) ?_
    refine ql_s (.string prefix0) (by kernel_rfl) ?_
    refine ql_q rfl (qs_strLen Tryz.underlying9 rfl) ?_
    refine ql_s (.bool (decide ((s0.size : Int) ≥ (prefix0.size : Int)))) (by kernel_rfl) ?_
    refine ql_s (.bool (decide ((s0.size : Int) ≥ (prefix0.size : Int)))) (by kernel_rfl) ?_
    refine ql_case 10 (decide ((s0.size : Int) ≥ (prefix0.size : Int))) rfl (fun hg1 => ?_) (fun hg1 => ?_)
    · skip
      replace hc1 := if_t hg1 hc1
      refine ql_s (.string s0) (by kernel_rfl) ?_
      refine ql_s (.string prefix0) (by kernel_rfl) ?_
      refine ql_q rfl (qs_strLen Tryz.underlying9 rfl) ?_
      obtain ⟨z1, hz1, hc1⟩ := bnd_some hc1
      refine ql_q rfl (qs_strSlc Tryz.underlying9 rfl rfl ⟨_, rfl⟩ hz1) ?_
      refine ql_s (.string prefix0) (by kernel_rfl) ?_
      refine ql_q rfl (qs_strCmp (op := .eql) (v := strEq z1 prefix0) rfl rfl rfl rfl) ?_
      refine ql_s (.bool (strEq z1 prefix0)) (by kernel_rfl) ?_
      refine ql_s (.bool (strEq z1 prefix0)) (by kernel_rfl) ?_
      refine ql_nil (e_cutq ?_)
      obtain rfl := Option.some.inj hc1
      exact ⟨rfl, trivial⟩
    · skip
      replace hc1 := if_f hg1 hc1
      refine ql_s undef (by kernel_rfl) ?_
      refine ql_s undef (by kernel_rfl) ?_
      refine ql_s undef (by kernel_rfl) ?_
      refine ql_s undef (by kernel_rfl) ?_
      refine ql_s undef (by kernel_rfl) ?_
      refine ql_s undef (by kernel_rfl) ?_
      refine ql_s (.bool false) (by kernel_rfl) ?_
      refine ql_s (.bool false) (by kernel_rfl) ?_
      refine ql_nil (e_cutq ?_)
      obtain rfl := Option.some.inj hc1
      exact ⟨rfl, trivial⟩
  intro _
  refine e_then ?_
  refine c_ret ?_
  obtain rfl := Option.some.inj hp
  exact post_all (vs := [.bool c1]) (.bool c1) ⟨rfl, trivial⟩ rfl (.inl rfl) (fun w hS => ⟨rfl, hS⟩)

-- internal/stringslite.CutPrefix
set_option maxRecDepth 100000 in
set_option maxHeartbeats 2000000 in
theorem internal_stringslite_CutPrefix_s (s0 : ByteArray) (prefix0 : ByteArray) (D : PH)  (F : List Assert) (r : ByteArray × Bool) (hp : internal_stringslite_CutPrefix_p s0 prefix0 = some r) : ∀ w : World, SInv D (F) w → Calls Tryz.prog 56 #[.string s0, .string prefix0] w (fun e w' => e = .returned (.tuple #[.string r.1, .bool r.2]) ∧ SInv D (F) w') := by
  intro w hS
  refine call_intro Tryz.func56 rfl Tryz.ntmps56 (Nat.le_of_ble_eq_true rfl) hS ?_
  clear hS w
  unfold internal_stringslite_CutPrefix_p at hp
  refine c_seq ?_
  refine c_quiet ?_
  refine ql_s (.string (⟨#[]⟩ : ByteArray)) (by kernel_rfl) ?_
  refine ql_s (.bool false) (by kernel_rfl) ?_
  refine ql_nil ?_
  refine e_then ?_
  refine c_seq ?_
  refine c_seq ?_
  obtain ⟨r1, hr1, hp⟩ := bnd_some hp
  refine c_quiet ?_
  refine ql_s (.string s0) (by kernel_rfl) ?_
  refine ql_s (.string prefix0) (by kernel_rfl) ?_
  refine ql_call (v := .bool r1) rfl (run_call (vs := [.string s0, .string prefix0]) rfl Tryz.call74 rfl) (fun w hS => (internal_stringslite_HasPrefix_s s0 prefix0 _  _ _ hr1 w (hS)).mono fun e w' h => ⟨h.1, h.2⟩) ?_
  refine ql_s (.bool (!r1)) (by kernel_rfl) ?_
  refine ql_nil ?_
  refine e_then ?_
  refine c_cond (!r1) rfl (fun ht1 => ?_) (fun ht1 => ?_)
  · skip
    replace hp := if_t ht1 hp
    refine c_seq ?_
    refine c_quiet ?_
    refine ql_s (.string s0) (by kernel_rfl) ?_
    refine ql_s (.string s0) (by kernel_rfl) ?_
    refine ql_s (.bool false) (by kernel_rfl) ?_
    refine ql_nil ?_
    refine e_then ?_
    refine c_ret ?_
    refine e_then_ret ?_
    obtain rfl := Option.some.inj hp
    exact post_all (vs := [.string s0, .bool false]) (.tuple #[.string s0, .bool false]) ⟨rfl, rfl, trivial⟩ rfl (.inl rfl) (fun w hS => ⟨rfl, hS⟩)
  · skip
    replace hp := if_f ht1 hp
    refine c_skip ?_
    refine e_then ?_
    refine c_seq ?_
    obtain ⟨z1, hz1, hp⟩ := bnd_some hp
    refine c_quiet ?_
    refine ql_s (.string s0) (by kernel_rfl) ?_
    refine ql_s (.string prefix0) (by kernel_rfl) ?_
    refine ql_q rfl (qs_strLen Tryz.underlying9 rfl) ?_
    refine ql_q rfl (qs_strSlc Tryz.underlying9 rfl ⟨_, rfl⟩ rfl hz1) ?_
    refine ql_s (.string z1) (by kernel_rfl) ?_
    refine ql_s (.bool true) (by kernel_rfl) ?_
    refine ql_nil ?_
    refine e_then ?_
    refine c_ret ?_
    obtain rfl := Option.some.inj hp
    exact post_all (vs := [.string z1, .bool true]) (.tuple #[.string z1, .bool true]) ⟨rfl, rfl, trivial⟩ rfl (.inl rfl) (fun w hS => ⟨rfl, hS⟩)

-- strings.CutPrefix
set_option maxRecDepth 100000 in
set_option maxHeartbeats 2000000 in
theorem strings_CutPrefix_s (s0 : ByteArray) (prefix0 : ByteArray) (D : PH)  (F : List Assert) (r : ByteArray × Bool) (hp : strings_CutPrefix_p s0 prefix0 = some r) : ∀ w : World, SInv D (F) w → Calls Tryz.prog 36 #[.string s0, .string prefix0] w (fun e w' => e = .returned (.tuple #[.string r.1, .bool r.2]) ∧ SInv D (F) w') := by
  intro w hS
  refine call_intro Tryz.func36 rfl Tryz.ntmps36 (Nat.le_of_ble_eq_true rfl) hS ?_
  clear hS w
  unfold strings_CutPrefix_p at hp
  refine c_seq ?_
  refine c_quiet ?_
  refine ql_s (.string (⟨#[]⟩ : ByteArray)) (by kernel_rfl) ?_
  refine ql_s (.bool false) (by kernel_rfl) ?_
  refine ql_nil ?_
  refine e_then ?_
  refine c_seq ?_
  obtain ⟨r1, hr1, hp⟩ := bnd_some hp
  refine c_quiet ?_
  refine ql_s (.string s0) (by kernel_rfl) ?_
  refine ql_s (.string prefix0) (by kernel_rfl) ?_
  refine ql_call (v := .tuple #[.string r1.1, .bool r1.2]) rfl (run_call (vs := [.string s0, .string prefix0]) rfl Tryz.call56 rfl) (fun w hS => (internal_stringslite_CutPrefix_s s0 prefix0 _  _ _ hr1 w (hS)).mono fun e w' h => ⟨h.1, h.2⟩) ?_
  refine ql_s (.string r1.1) (by kernel_rfl) ?_
  refine ql_s (.bool r1.2) (by kernel_rfl) ?_
  refine ql_s (.string r1.1) (by kernel_rfl) ?_
  refine ql_s (.bool r1.2) (by kernel_rfl) ?_
  refine ql_nil ?_
  refine e_then ?_
  refine c_ret ?_
  obtain rfl := Option.some.inj hp
  exact post_all (vs := [.string r1.1, .bool r1.2]) (.tuple #[.string r1.1, .bool r1.2]) ⟨rfl, rfl, trivial⟩ rfl (.inl rfl) (fun w hS => ⟨rfl, hS⟩)

-- tarnfell/field.digits
set_option maxRecDepth 100000 in
set_option maxHeartbeats 2000000 in
theorem field_digits_s (s0 : ByteArray) (D : PH)  (F : List Assert) (r : Int) (hp : field_digits_p s0 = some r) : ∀ w : World, SInv D (F) w → Calls Tryz.prog 37 #[.string s0] w (fun e w' => e = .returned (.int .i64 r) ∧ SInv D (F) w') := by
  intro w hS
  refine call_intro Tryz.func37 rfl Tryz.ntmps37 (Nat.le_of_ble_eq_true rfl) hS ?_
  clear hS w
  unfold field_digits_p at hp
  refine c_seq ?_
  refine c_quiet ?_
  refine ql_s (.int .i64 0) (by kernel_rfl) ?_
  refine ql_nil ?_
  refine e_then ?_
  refine c_seq ?_
  refine c_quiet ?_
  refine ql_s (.int .i64 0) (by kernel_rfl) ?_
  refine ql_nil ?_
  refine e_then ?_
  refine c_seq ?_
  obtain ⟨x1, hs1, hp⟩ := bnd_some hp
  obtain ⟨body1, hbody1, hs1⟩ := loopP_gen hs1
  refine c_cut_end (fun φ1 D1 As1 => Is φ1 [(3, .int .i64 x1)] ∧ PH.le D D1 ∧ As1 = F) ?_ ?_
  · skip
    refine c_block ?_
    obtain ⟨kz1, hs1⟩ := loopP_ex hs1
    refine c_loop (fun k φ1 D2 As1 => ∃ (s1 : Int), Is φ1 [(0, .string s0), (3, .int .i64 s1)] ∧ PH.le D D2 ∧ As1 = F ∧ iter body1 k s1 = some x1) ⟨kz1, 0, ⟨rfl, rfl, trivial⟩, (PH.le_refl _), rfl, hs1⟩ ?_ ?_
    · rintro _ _ _ ⟨_, _, _, _, h0⟩; cases h0
    intro k1
    rintro φ1 D2 As1 ⟨s1, hI1, hD1, hA1, hs2⟩
    subst As1
    refine c_frame _ hI1 ?_
    obtain ⟨y1, hx1, hs2⟩ := iter_some hs2
    replace hx1 := (congrFun hbody1 s1).trans hx1
    refine c_seq ?_
    refine c_seq ?_
    obtain ⟨c1, hc1, hx1⟩ := bnd_some hx1
    refine c_cutq_end [(0, .string s0), (3, .int .i64 s1), (19, .bool c1)] ?_ ?_
    · skip
      refine c_quiet ?_
      refine ql_s (.int .i64 s1) (by kernel_rfl) ?_
      refine ql_s (.string s0) (by kernel_rfl) ?_
      refine ql_q rfl (qs_strLen Tryz.underlying9 rfl) ?_
      refine ql_s (.bool (decide (s1 < (s0.size : Int)))) (by kernel_rfl) ?_
      refine ql_s (.bool (decide (s1 < (s0.size : Int)))) (by kernel_rfl) ?_
      refine ql_case 8 (decide (s1 < (s0.size : Int))) rfl (fun hg1 => ?_) (fun hg1 => ?_)
      · skip
        replace hc1 := if_t hg1 hc1
        refine ql_s (.string s0) (by kernel_rfl) ?_
        refine ql_s (.int .i64 s1) (by kernel_rfl) ?_
        obtain ⟨x2, hx2, hc1⟩ := bnd_some hc1
        refine ql_q rfl (qs_strIdx Tryz.underlying9 rfl rfl hx2) ?_
        refine ql_s (.bool (decide ((byteI x2) ≥ 48))) (by kernel_rfl) ?_
        refine ql_s (.bool (decide ((byteI x2) ≥ 48))) (by kernel_rfl) ?_
        refine ql_s (.bool (decide ((byteI x2) ≥ 48))) (by kernel_rfl) ?_
        refine ql_case 14 (decide ((byteI x2) ≥ 48)) rfl (fun hg2 => ?_) (fun hg2 => ?_)
        · skip
          replace hc1 := if_t hg2 hc1
          refine ql_s (.string s0) (by kernel_rfl) ?_
          refine ql_s (.int .i64 s1) (by kernel_rfl) ?_
          obtain ⟨x3, hx3, hc1⟩ := bnd_some hc1
          refine ql_q rfl (qs_strIdx Tryz.underlying9 rfl rfl hx3) ?_
          refine ql_s (.bool (decide ((byteI x3) ≤ 57))) (by kernel_rfl) ?_
          refine ql_s (.bool (decide ((byteI x3) ≤ 57))) (by kernel_rfl) ?_
          refine ql_nil (e_cutq ?_)
          obtain rfl := Option.some.inj hc1
          exact ⟨rfl, rfl, rfl, trivial⟩
        · skip
          replace hc1 := if_f hg2 hc1
          refine ql_s undef (by kernel_rfl) ?_
          refine ql_s undef (by kernel_rfl) ?_
          refine ql_s undef (by kernel_rfl) ?_
          refine ql_s undef (by kernel_rfl) ?_
          refine ql_s (.bool false) (by kernel_rfl) ?_
          refine ql_nil (e_cutq ?_)
          obtain rfl := Option.some.inj hc1
          exact ⟨rfl, rfl, rfl, trivial⟩
      · skip
        replace hc1 := if_f hg1 hc1
        refine ql_s undef (by kernel_rfl) ?_
        refine ql_s undef (by kernel_rfl) ?_
        refine ql_s undef (by kernel_rfl) ?_
        refine ql_s undef (by kernel_rfl) ?_
        refine ql_s (.bool false) (by kernel_rfl) ?_
        refine ql_s (.bool false) (by kernel_rfl) ?_
        refine ql_s undef (by kernel_rfl) ?_
        refine ql_s undef (by kernel_rfl) ?_
        refine ql_s undef (by kernel_rfl) ?_
        refine ql_s undef (by kernel_rfl) ?_
        refine ql_s (.bool false) (by kernel_rfl) ?_
        refine ql_nil (e_cutq ?_)
        obtain rfl := Option.some.inj hc1
        exact ⟨rfl, rfl, rfl, trivial⟩
    intro _
    refine e_then ?_
    refine c_cond (c1) rfl (fun ht1 => ?_) (fun ht1 => ?_)
    · skip
      replace hx1 := if_t ht1 hx1
      refine c_skip ?_
      refine e_then ?_
      refine c_block ?_
      refine c_quiet ?_
      refine ql_s (.int .i64 s1) (by kernel_rfl) ?_
      refine ql_s (.int .i64 (addI s1 1)) (by kernel_rfl) ?_
      refine ql_s (.int .i64 (addI s1 1)) (by kernel_rfl) ?_
      refine ql_nil ?_
      refine e_blk ?_
      obtain rfl := Option.some.inj hx1
      exact e_cut ⟨addI s1 1, ⟨rfl, rfl, trivial⟩, hD1, rfl, hs2⟩
    · skip
      replace hx1 := if_f ht1 hx1
      refine c_exit ?_
      refine e_then_exit ?_
      refine e_then_exit ?_
      obtain rfl := Option.some.inj hx1
      obtain rfl := hs2
      refine e_blk_exit ?_
      exact e_cut ⟨⟨rfl, trivial⟩, hD1, rfl⟩
  · skip
    rintro φ2 D1 As2 ⟨hI2, hD2, hA2⟩
    subst As2
    refine e_frame _ hI2 ?_
    refine e_then ?_
    refine c_seq ?_
    refine c_quiet ?_
    refine ql_s (.int .i64 x1) (by kernel_rfl) ?_
    refine ql_s (.int .i64 x1) (by kernel_rfl) ?_
    refine ql_nil ?_
    refine e_then ?_
    refine c_ret ?_
    obtain rfl := Option.some.inj hp
    exact post_all (vs := [.int .i64 x1]) (.int .i64 x1) ⟨rfl, trivial⟩ rfl (.inl rfl) (fun w hS => ⟨rfl, (hS.lower hD2)⟩)

-- strconv.Atoi
set_option maxRecDepth 100000 in
set_option maxHeartbeats 2000000 in
theorem strconv_Atoi_s (s0 : ByteArray) (D : PH)  (F : List Assert) (r : Int × Bool) (hp : atoiP s0 = some r) : ∀ w : World, SInv D (F) w → Calls Tryz.prog 38 #[.string s0] w (fun e w' => ∃ (D1 : PH) (q_ev1 : Value), PH.le D D1 ∧ e = .returned (.tuple #[.int .i64 r.1, q_ev1]) ∧ ErrIs q_ev1 r.2 ∧ SInv D1 (F) w') := by
  exact given_atoi (P := Tryz.prog) GV.errS GV.errR (fun s h v hv w => Tryz.strconv_Atoi_ok s h v hv w) (fun s h hv tp p w hw => (Tryz.strconv_Atoi_syntax_var s h hv tp p w hw).mono fun e w2 ⟨N, h1, _, _, h4⟩ => ⟨_, N, h1, h4⟩) (fun s h hv tp p w hw => (Tryz.strconv_Atoi_range_var s h hv tp p w hw).mono fun e w2 ⟨N, h1, _, _, h4⟩ => ⟨_, N, h1, h4⟩) hp

-- tarnfell/field.Integer
set_option maxRecDepth 100000 in
set_option maxHeartbeats 2000000 in
theorem field_Integer_s (s0 : ByteArray) (D : PH)  (F : List Assert) (r : Int × Bool) (hp : field_Integer_p s0 = some r) : ∀ w : World, SInv D (F) w → Calls Tryz.prog 19 #[.string s0] w (fun e w' => e = .returned (.tuple #[.int .i64 r.1, .bool r.2]) ∧ SInv D (F) w') := by
  intro w hS
  refine call_intro Tryz.func19 rfl Tryz.ntmps19 (Nat.le_of_ble_eq_true rfl) hS ?_
  clear hS w
  unfold field_Integer_p at hp
  refine c_seq ?_
  refine c_quiet ?_
  refine ql_s (.int .i64 0) (by kernel_rfl) ?_
  refine ql_s (.bool false) (by kernel_rfl) ?_
  refine ql_nil ?_
  refine e_then ?_
  refine c_seq ?_
  obtain ⟨r1, hr1, hp⟩ := bnd_some hp
  refine c_quiet ?_
  refine ql_s (.string s0) (by kernel_rfl) ?_
  refine ql_call (v := .tuple #[.string r1.1, .bool r1.2]) rfl (run_call (vs := [.string s0, .string (⟨#[45]⟩ : ByteArray)]) rfl Tryz.call36 rfl) (fun w hS => (strings_CutPrefix_s s0 (⟨#[45]⟩ : ByteArray) _  _ _ hr1 w (hS)).mono fun e w' h => ⟨h.1, h.2⟩) ?_
  refine ql_s (.tuple #[.string r1.1, .bool r1.2]) (by kernel_rfl) ?_
  refine ql_s (.string r1.1) (by kernel_rfl) ?_
  refine ql_s (.bool r1.2) (by kernel_rfl) ?_
  refine ql_s (.string r1.1) (by kernel_rfl) ?_
  refine ql_s (.bool r1.2) (by kernel_rfl) ?_
  refine ql_nil ?_
  refine e_then ?_
  refine c_seq ?_
  refine c_seq ?_
  obtain ⟨c1, hc1, hp⟩ := bnd_some hp
  refine c_cutq_end [(0, .string s0), (34, .bool c1)] ?_ ?_
  · skip
    refine c_quiet ?_
    refine ql_s (.string r1.1) (by kernel_rfl) ?_
    refine ql_q rfl (qs_strCmp (op := .eql) (v := strEq r1.1 (⟨#[]⟩ : ByteArray)) rfl rfl rfl rfl) ?_
    refine ql_s (.bool (strEq r1.1 (⟨#[]⟩ : ByteArray))) (by kernel_rfl) ?_
    refine ql_case 15 (strEq r1.1 (⟨#[]⟩ : ByteArray)) rfl (fun hg1 => ?_) (fun hg1 => ?_)
    · skip
      replace hc1 := if_t hg1 hc1
      refine ql_s undef (by kernel_rfl) ?_
      refine ql_s undef (by kernel_rfl) ?_
      refine ql_s undef (by kernel_rfl) ?_
      refine ql_s undef (by kernel_rfl) ?_
      refine ql_s undef (by kernel_rfl) ?_
      refine ql_s (.bool true) (by kernel_rfl) ?_
      refine ql_s (.bool true) (by kernel_rfl) ?_
      refine ql_s undef (by kernel_rfl) ?_
      refine ql_s undef (by kernel_rfl) ?_
      refine ql_s undef (by kernel_rfl) ?_
      refine ql_s undef (by kernel_rfl) ?_
      refine ql_s undef (by kernel_rfl) ?_
      refine ql_s undef (by kernel_rfl) ?_
      refine ql_s undef (by kernel_rfl) ?_
      refine ql_s undef (by kernel_rfl) ?_
      refine ql_s undef (by kernel_rfl) ?_
      refine ql_s undef (by kernel_rfl) ?_
      refine ql_s undef (by kernel_rfl) ?_
      refine ql_s (.bool true) (by kernel_rfl) ?_
      refine ql_nil (e_cutq ?_)
      obtain rfl := Option.some.inj hc1
      exact ⟨rfl, rfl, trivial⟩
    · skip
      replace hc1 := if_f hg1 hc1
      refine ql_s (.string r1.1) (by kernel_rfl) ?_
      obtain ⟨r2, hr2, hc1⟩ := bnd_some hc1
      refine ql_call (v := .int .i64 r2) rfl (run_call (vs := [.string r1.1]) rfl Tryz.call37 rfl) (fun w hS => (field_digits_s r1.1 _  _ _ hr2 w (hS)).mono fun e w' h => ⟨h.1, h.2⟩) ?_
      refine ql_s (.string r1.1) (by kernel_rfl) ?_
      refine ql_q rfl (qs_strLen Tryz.underlying9 rfl) ?_
      refine ql_s (.bool (r2 != (r1.1.size : Int))) (by kernel_rfl) ?_
      refine ql_s (.bool (r2 != (r1.1.size : Int))) (by kernel_rfl) ?_
      refine ql_s (.bool (r2 != (r1.1.size : Int))) (by kernel_rfl) ?_
      refine ql_case 22 ((r2 != (r1.1.size : Int))) rfl (fun hg2 => ?_) (fun hg2 => ?_)
      · skip
        replace hc1 := if_t hg2 hc1
        refine ql_s undef (by kernel_rfl) ?_
        refine ql_s undef (by kernel_rfl) ?_
        refine ql_s undef (by kernel_rfl) ?_
        refine ql_s undef (by kernel_rfl) ?_
        refine ql_s undef (by kernel_rfl) ?_
        refine ql_s undef (by kernel_rfl) ?_
        refine ql_s undef (by kernel_rfl) ?_
        refine ql_s undef (by kernel_rfl) ?_
        refine ql_s undef (by kernel_rfl) ?_
        refine ql_s undef (by kernel_rfl) ?_
        refine ql_s undef (by kernel_rfl) ?_
        refine ql_s (.bool true) (by kernel_rfl) ?_
        refine ql_nil (e_cutq ?_)
        obtain rfl := Option.some.inj hc1
        exact ⟨rfl, rfl, trivial⟩
      · skip
        replace hc1 := if_f hg2 hc1
        refine ql_s (.string r1.1) (by kernel_rfl) ?_
        obtain ⟨x1, hx1, hc1⟩ := bnd_some hc1
        refine ql_q rfl (qs_strIdx Tryz.underlying9 rfl rfl hx1) ?_
        refine ql_s (.bool ((byteI x1) == 48)) (by kernel_rfl) ?_
        refine ql_s (.bool ((byteI x1) == 48)) (by kernel_rfl) ?_
        refine ql_case 26 (((byteI x1) == 48)) rfl (fun hg3 => ?_) (fun hg3 => ?_)
        · skip
          replace hc1 := if_t hg3 hc1
          refine ql_s (.string r1.1) (by kernel_rfl) ?_
          refine ql_q rfl (qs_strLen Tryz.underlying9 rfl) ?_
          refine ql_s (.bool (decide ((r1.1.size : Int) > 1))) (by kernel_rfl) ?_
          refine ql_s (.bool (decide ((r1.1.size : Int) > 1))) (by kernel_rfl) ?_
          refine ql_case 30 (decide ((r1.1.size : Int) > 1)) rfl (fun hg4 => ?_) (fun hg4 => ?_)
          · skip
            replace hc1 := if_t hg4 hc1
            refine ql_s undef (by kernel_rfl) ?_
            refine ql_s (.bool true) (by kernel_rfl) ?_
            refine ql_s (.bool true) (by kernel_rfl) ?_
            refine ql_s (.bool true) (by kernel_rfl) ?_
            refine ql_nil (e_cutq ?_)
            obtain rfl := Option.some.inj hc1
            exact ⟨rfl, rfl, trivial⟩
          · skip
            replace hc1 := if_f hg4 hc1
            refine ql_s (.bool r1.2) (by kernel_rfl) ?_
            refine ql_s (.bool r1.2) (by kernel_rfl) ?_
            refine ql_s (.bool r1.2) (by kernel_rfl) ?_
            refine ql_s (.bool r1.2) (by kernel_rfl) ?_
            refine ql_nil (e_cutq ?_)
            obtain rfl := Option.some.inj hc1
            exact ⟨rfl, rfl, trivial⟩
        · skip
          replace hc1 := if_f hg3 hc1
          refine ql_s undef (by kernel_rfl) ?_
          refine ql_s undef (by kernel_rfl) ?_
          refine ql_s undef (by kernel_rfl) ?_
          refine ql_s undef (by kernel_rfl) ?_
          refine ql_s undef (by kernel_rfl) ?_
          refine ql_s undef (by kernel_rfl) ?_
          refine ql_s (.bool false) (by kernel_rfl) ?_
          refine ql_s (.bool false) (by kernel_rfl) ?_
          refine ql_nil (e_cutq ?_)
          obtain rfl := Option.some.inj hc1
          exact ⟨rfl, rfl, trivial⟩
  intro _
  refine e_then ?_
  refine c_cond (c1) rfl (fun ht1 => ?_) (fun ht1 => ?_)
  · skip
    replace hp := if_t ht1 hp
    refine c_seq ?_
    refine c_quiet ?_
    refine ql_s (.int .i64 0) (by kernel_rfl) ?_
    refine ql_s (.bool false) (by kernel_rfl) ?_
    refine ql_nil ?_
    refine e_then ?_
    refine c_ret ?_
    refine e_then_ret ?_
    obtain rfl := Option.some.inj hp
    exact post_all (vs := [.int .i64 0, .bool false]) (.tuple #[.int .i64 0, .bool false]) ⟨rfl, rfl, trivial⟩ rfl (.inl rfl) (fun w hS => ⟨rfl, hS⟩)
  · skip
    replace hp := if_f ht1 hp
    refine c_skip ?_
    refine e_then ?_
    refine c_seq ?_
    obtain ⟨r3, hr3, hp⟩ := bnd_some hp
    refine c_region ?_
    refine l_s (.string s0) (by kernel_rfl) ?_
    refine l_call rfl rfl Tryz.call38 (vs := [.string s0]) rfl (fun v D2 As2 => ∃ (ev2 : Value), PH.le D D2 ∧ v = .tuple #[.int .i64 r3.1, ev2] ∧ ErrIs ev2 r3.2 ∧ As2 = F) (fun w hS => (strconv_Atoi_s s0 _  _ _ hr3 w (hS)).mono fun e w' ⟨D2, ev2, hle2, he, he2, hS2⟩ => ⟨_, D2, _, he, ⟨ev2, hle2, rfl, he2, rfl⟩, hS2⟩) ?_
    rintro _ D2 As2 ⟨ev2, hle2, rfl, he2, hA2⟩
    subst As2
    refine l_s (.tuple #[.int .i64 r3.1, ev2]) (by kernel_rfl) ?_
    refine l_s (.int .i64 r3.1) (by kernel_rfl) ?_
    refine l_s (ev2) (by kernel_rfl) ?_
    refine l_s (.int .i64 r3.1) (by kernel_rfl) ?_
    refine l_s (ev2) (by kernel_rfl) ?_
    refine l_nil ?_
    refine e_then ?_
    refine c_seq ?_
    refine c_quiet_draw hmix (by kernel_rfl) ?_
    refine ql_s (.int .i64 r3.1) (by kernel_rfl) ?_
    refine ql_s (ev2) (by kernel_rfl) ?_
    refine ql_q rfl (qs_errnil (op := .eql) Tryz.underlying75 rfl he2 (.inl rfl) (r := r3.2) rfl) ?_
    refine ql_s (.int .i64 r3.1) (by kernel_rfl) ?_
    refine ql_s (.bool r3.2) (by kernel_rfl) ?_
    refine ql_nil ?_
    refine e_then ?_
    refine c_ret ?_
    obtain rfl := Option.some.inj hp
    exact post_all (vs := [.int .i64 r3.1, .bool r3.2]) (.tuple #[.int .i64 r3.1, .bool r3.2]) ⟨rfl, rfl, trivial⟩ rfl (.inl rfl) (fun w hS => ⟨rfl, (hS.lower hle2)⟩)

-- tarnfell/road.readStep
set_option maxRecDepth 100000 in
set_option maxHeartbeats 2000000 in
theorem road_readStep_s (s0 : ByteArray) (D : PH)  (F : List Assert) (r : Int × Int × Bool) (hp : road_readStep_p s0 = some r) : ∀ w : World, SInv D (F) w → Calls Tryz.prog 20 #[.string s0] w (fun e w' => e = .returned (.tuple #[.int .i64 r.1, .int .i64 r.2.1, .bool r.2.2]) ∧ SInv D (F) w') := by
  intro w hS
  refine call_intro Tryz.func20 rfl Tryz.ntmps20 (Nat.le_of_ble_eq_true rfl) hS ?_
  clear hS w
  unfold road_readStep_p at hp
  refine c_seq ?_
  refine c_quiet ?_
  refine ql_s (.int .i64 0) (by kernel_rfl) ?_
  refine ql_s (.int .i64 0) (by kernel_rfl) ?_
  refine ql_s (.bool false) (by kernel_rfl) ?_
  refine ql_nil ?_
  refine e_then ?_
  refine c_seq ?_
  refine c_seq ?_
  obtain ⟨c1, hc1, hp⟩ := bnd_some hp
  refine c_cutq_end [(0, .string s0), (17, .bool c1)] ?_ ?_
  · skip
    refine c_quiet ?_
    refine ql_s (.string s0) (by kernel_rfl) ?_
    refine ql_q rfl (qs_strCmp (op := .eql) (v := strEq s0 (⟨#[]⟩ : ByteArray)) rfl rfl rfl rfl) ?_
    refine ql_s (.bool (strEq s0 (⟨#[]⟩ : ByteArray))) (by kernel_rfl) ?_
    refine ql_case 8 (strEq s0 (⟨#[]⟩ : ByteArray)) rfl (fun hg1 => ?_) (fun hg1 => ?_)
    · skip
      replace hc1 := if_t hg1 hc1
      refine ql_s undef (by kernel_rfl) ?_
      refine ql_s undef (by kernel_rfl) ?_
      refine ql_s undef (by kernel_rfl) ?_
      refine ql_s (.bool true) (by kernel_rfl) ?_
      refine ql_s (.bool true) (by kernel_rfl) ?_
      refine ql_s undef (by kernel_rfl) ?_
      refine ql_s undef (by kernel_rfl) ?_
      refine ql_s undef (by kernel_rfl) ?_
      refine ql_s (.bool true) (by kernel_rfl) ?_
      refine ql_nil (e_cutq ?_)
      obtain rfl := Option.some.inj hc1
      exact ⟨rfl, rfl, trivial⟩
    · skip
      replace hc1 := if_f hg1 hc1
      refine ql_s (.string s0) (by kernel_rfl) ?_
      obtain ⟨x1, hx1, hc1⟩ := bnd_some hc1
      refine ql_q rfl (qs_strIdx Tryz.underlying9 rfl rfl hx1) ?_
      refine ql_s (.bool (decide ((byteI x1) < 48))) (by kernel_rfl) ?_
      refine ql_s (.bool (decide ((byteI x1) < 48))) (by kernel_rfl) ?_
      refine ql_s (.bool (decide ((byteI x1) < 48))) (by kernel_rfl) ?_
      refine ql_case 13 (decide ((byteI x1) < 48)) rfl (fun hg2 => ?_) (fun hg2 => ?_)
      · skip
        replace hc1 := if_t hg2 hc1
        refine ql_s undef (by kernel_rfl) ?_
        refine ql_s undef (by kernel_rfl) ?_
        refine ql_s undef (by kernel_rfl) ?_
        refine ql_s (.bool true) (by kernel_rfl) ?_
        refine ql_nil (e_cutq ?_)
        obtain rfl := Option.some.inj hc1
        exact ⟨rfl, rfl, trivial⟩
      · skip
        replace hc1 := if_f hg2 hc1
        refine ql_s (.string s0) (by kernel_rfl) ?_
        obtain ⟨x2, hx2, hc1⟩ := bnd_some hc1
        refine ql_q rfl (qs_strIdx Tryz.underlying9 rfl rfl hx2) ?_
        refine ql_s (.bool (decide ((byteI x2) > 55))) (by kernel_rfl) ?_
        refine ql_s (.bool (decide ((byteI x2) > 55))) (by kernel_rfl) ?_
        refine ql_nil (e_cutq ?_)
        obtain rfl := Option.some.inj hc1
        exact ⟨rfl, rfl, trivial⟩
  intro _
  refine e_then ?_
  refine c_cond (c1) rfl (fun ht1 => ?_) (fun ht1 => ?_)
  · skip
    replace hp := if_t ht1 hp
    refine c_seq ?_
    refine c_quiet ?_
    refine ql_s (.int .i64 0) (by kernel_rfl) ?_
    refine ql_s (.int .i64 0) (by kernel_rfl) ?_
    refine ql_s (.bool false) (by kernel_rfl) ?_
    refine ql_nil ?_
    refine e_then ?_
    refine c_ret ?_
    refine e_then_ret ?_
    obtain rfl := Option.some.inj hp
    exact post_all (vs := [.int .i64 0, .int .i64 0, .bool false]) (.tuple #[.int .i64 0, .int .i64 0, .bool false]) ⟨rfl, rfl, rfl, trivial⟩ rfl (.inl rfl) (fun w hS => ⟨rfl, hS⟩)
  · skip
    replace hp := if_f ht1 hp
    refine c_skip ?_
    refine e_then ?_
    refine c_seq ?_
    obtain ⟨x3, hx3, hp⟩ := bnd_some hp
    obtain ⟨d_1, hd_1, hp⟩ := bnd_some hp
    replace hd_1 := Option.some.inj hd_1
    refine c_quiet ?_
    refine ql_s (.string s0) (by kernel_rfl) ?_
    refine ql_q rfl (qs_strIdx Tryz.underlying9 rfl rfl hx3) ?_
    refine ql_s (.int .u8 (IntKind.wrap .u8 ((byteI x3) - 48))) (by kernel_rfl) ?_
    refine ql_s (.int .i64 (IntKind.wrap .i64 (IntKind.wrap .u8 ((byteI x3) - 48)))) (by kernel_rfl) ?_
    refine ql_s (.int .i64 d_1) (congrArg (fun z => some (Value.int .i64 z)) hd_1) ?_
    refine ql_s (.int .i64 1) (by kernel_rfl) ?_
    refine ql_nil ?_
    refine e_then ?_
    refine c_seq ?_
    refine c_seq ?_
    obtain ⟨z1, hz1, hp⟩ := bnd_some hp
    refine c_quiet ?_
    refine ql_s (.string s0) (by kernel_rfl) ?_
    refine ql_q rfl (qs_strSlc Tryz.underlying9 rfl ⟨_, rfl⟩ rfl hz1) ?_
    refine ql_s (.string z1) (by kernel_rfl) ?_
    refine ql_nil ?_
    refine e_then ?_
    refine c_seq ?_
    refine c_quiet ?_
    refine ql_s (.string z1) (by kernel_rfl) ?_
    refine ql_q rfl (qs_strCmp (op := .eql) (v := strEq z1 (⟨#[]⟩ : ByteArray)) rfl rfl rfl rfl) ?_
    refine ql_nil ?_
    refine e_then ?_
    refine c_cond (strEq z1 (⟨#[]⟩ : ByteArray)) rfl (fun ht2 => ?_) (fun ht2 => ?_)
    · skip
      replace hp := if_t ht2 hp
      refine c_seq ?_
      refine c_quiet ?_
      refine ql_s (.int .i64 d_1) (by kernel_rfl) ?_
      refine ql_s (.int .i64 1) (by kernel_rfl) ?_
      refine ql_s (.int .i64 d_1) (by kernel_rfl) ?_
      refine ql_s (.int .i64 1) (by kernel_rfl) ?_
      refine ql_s (.bool true) (by kernel_rfl) ?_
      refine ql_nil ?_
      refine e_then ?_
      refine c_ret ?_
      refine e_then_ret ?_
      obtain rfl := Option.some.inj hp
      exact post_all (vs := [.int .i64 d_1, .int .i64 1, .bool true]) (.tuple #[.int .i64 d_1, .int .i64 1, .bool true]) ⟨rfl, rfl, rfl, trivial⟩ rfl (.inl rfl) (fun w hS => ⟨rfl, hS⟩)
    · skip
      replace hp := if_f ht2 hp
      refine c_skip ?_
      refine e_then ?_
      refine c_seq ?_
      obtain ⟨r1, hr1, hp⟩ := bnd_some hp
      refine c_quiet ?_
      refine ql_s (.string z1) (by kernel_rfl) ?_
      refine ql_call (v := .tuple #[.string r1.1, .bool r1.2]) rfl (run_call (vs := [.string z1, .string (⟨#[120]⟩ : ByteArray)]) rfl Tryz.call36 rfl) (fun w hS => (strings_CutPrefix_s z1 (⟨#[120]⟩ : ByteArray) _  _ _ hr1 w (hS)).mono fun e w' h => ⟨h.1, h.2⟩) ?_
      refine ql_s (.tuple #[.string r1.1, .bool r1.2]) (by kernel_rfl) ?_
      refine ql_s (.string r1.1) (by kernel_rfl) ?_
      refine ql_s (.bool r1.2) (by kernel_rfl) ?_
      refine ql_s (.string r1.1) (by kernel_rfl) ?_
      refine ql_s (.bool r1.2) (by kernel_rfl) ?_
      refine ql_nil ?_
      refine e_then ?_
      refine c_seq ?_
      refine c_seq ?_
      refine c_quiet ?_
      refine ql_s (.bool r1.2) (by kernel_rfl) ?_
      refine ql_s (.bool (!r1.2)) (by kernel_rfl) ?_
      refine ql_nil ?_
      refine e_then ?_
      refine c_cond (!r1.2) rfl (fun ht3 => ?_) (fun ht3 => ?_)
      · skip
        replace hp := if_t ht3 hp
        refine c_seq ?_
        refine c_quiet ?_
        refine ql_s (.int .i64 0) (by kernel_rfl) ?_
        refine ql_s (.int .i64 0) (by kernel_rfl) ?_
        refine ql_s (.bool false) (by kernel_rfl) ?_
        refine ql_nil ?_
        refine e_then ?_
        refine c_ret ?_
        refine e_then_ret ?_
        obtain rfl := Option.some.inj hp
        exact post_all (vs := [.int .i64 0, .int .i64 0, .bool false]) (.tuple #[.int .i64 0, .int .i64 0, .bool false]) ⟨rfl, rfl, rfl, trivial⟩ rfl (.inl rfl) (fun w hS => ⟨rfl, hS⟩)
      · skip
        replace hp := if_f ht3 hp
        refine c_skip ?_
        refine e_then ?_
        refine c_seq ?_
        obtain ⟨r2, hr2, hp⟩ := bnd_some hp
        refine c_quiet ?_
        refine ql_s (.string r1.1) (by kernel_rfl) ?_
        refine ql_call (v := .tuple #[.int .i64 r2.1, .bool r2.2]) rfl (run_call (vs := [.string r1.1]) rfl Tryz.call19 rfl) (fun w hS => (field_Integer_s r1.1 _  _ _ hr2 w (hS)).mono fun e w' h => ⟨h.1, h.2⟩) ?_
        refine ql_s (.tuple #[.int .i64 r2.1, .bool r2.2]) (by kernel_rfl) ?_
        refine ql_s (.int .i64 r2.1) (by kernel_rfl) ?_
        refine ql_s (.bool r2.2) (by kernel_rfl) ?_
        refine ql_s (.int .i64 r2.1) (by kernel_rfl) ?_
        refine ql_s (.bool r2.2) (by kernel_rfl) ?_
        refine ql_nil ?_
        refine e_then ?_
        refine c_seq ?_
        refine c_cutq_end [(2, .int .i64 d_1), (3, .int .i64 r2.1), (4, .bool (r2.2 && ((decide (r2.1 ≥ 2)) && (decide (r2.1 ≤ 12)))))] ?_ ?_
        · skip
          refine c_quiet ?_
          refine ql_s (.int .i64 d_1) (by kernel_rfl) ?_
          refine ql_s (.int .i64 r2.1) (by kernel_rfl) ?_
          refine ql_s (.bool r2.2) (by kernel_rfl) ?_
          refine ql_s (.bool r2.2) (by kernel_rfl) ?_
          refine ql_case 43 (r2.2) rfl (fun hg3 => ?_) (fun hg3 => ?_)
          · skip
            refine ql_s (.int .i64 r2.1) (by kernel_rfl) ?_
            refine ql_s (.bool (decide (r2.1 ≥ 2))) (by kernel_rfl) ?_
            refine ql_s (.bool (decide (r2.1 ≥ 2))) (by kernel_rfl) ?_
            refine ql_s (.bool (decide (r2.1 ≥ 2))) (by kernel_rfl) ?_
            refine ql_case 47 (decide (r2.1 ≥ 2)) rfl (fun hg4 => ?_) (fun hg4 => ?_)
            · skip
              refine ql_s (.int .i64 r2.1) (by kernel_rfl) ?_
              refine ql_s (.bool (decide (r2.1 ≤ 12))) (by kernel_rfl) ?_
              refine ql_s (.bool (decide (r2.1 ≤ 12))) (by kernel_rfl) ?_
              refine ql_s (.int .i64 d_1) (by kernel_rfl) ?_
              refine ql_s (.int .i64 r2.1) (by kernel_rfl) ?_
              refine ql_s (.bool (decide (r2.1 ≤ 12))) (by kernel_rfl) ?_
              refine ql_nil (e_cutq ?_)
              exact ⟨rfl, rfl, (congrArg Value.bool (by first | rfl | (rw [hg3, hg4]; rfl) | simp [hg3, hg4])), trivial⟩
            · skip
              refine ql_s undef (by kernel_rfl) ?_
              refine ql_s undef (by kernel_rfl) ?_
              refine ql_s (.bool false) (by kernel_rfl) ?_
              refine ql_s (.int .i64 d_1) (by kernel_rfl) ?_
              refine ql_s (.int .i64 r2.1) (by kernel_rfl) ?_
              refine ql_s (.bool false) (by kernel_rfl) ?_
              refine ql_nil (e_cutq ?_)
              exact ⟨rfl, rfl, (congrArg Value.bool (by first | rfl | (rw [hg3, hg4]; rfl) | simp [hg3, hg4])), trivial⟩
          · skip
            refine ql_s undef (by kernel_rfl) ?_
            refine ql_s undef (by kernel_rfl) ?_
            refine ql_s (.bool false) (by kernel_rfl) ?_
            refine ql_s (.bool false) (by kernel_rfl) ?_
            refine ql_s undef (by kernel_rfl) ?_
            refine ql_s undef (by kernel_rfl) ?_
            refine ql_s (.bool false) (by kernel_rfl) ?_
            refine ql_s (.int .i64 d_1) (by kernel_rfl) ?_
            refine ql_s (.int .i64 r2.1) (by kernel_rfl) ?_
            refine ql_s (.bool false) (by kernel_rfl) ?_
            refine ql_nil (e_cutq ?_)
            exact ⟨rfl, rfl, (congrArg Value.bool (by first | rfl | (rw [hg3]; rfl) | simp [hg3])), trivial⟩
        intro _
        refine e_then ?_
        refine c_ret ?_
        obtain rfl := Option.some.inj hp
        exact post_all (vs := [.int .i64 d_1, .int .i64 r2.1, .bool (r2.2 && ((decide (r2.1 ≥ 2)) && (decide (r2.1 ≤ 12))))]) (.tuple #[.int .i64 d_1, .int .i64 r2.1, .bool (r2.2 && ((decide (r2.1 ≥ 2)) && (decide (r2.1 ≤ 12))))]) ⟨rfl, rfl, rfl, trivial⟩ rfl (.inl rfl) (fun w hS => ⟨rfl, hS⟩)

-- tarnfell/water.Toward
set_option maxRecDepth 100000 in
set_option maxHeartbeats 2000000 in
theorem water_Toward_s (d0 : Int) (D : PH)  (F : List Assert) (r : S_api_Point) (hp : water_Toward_p d0 = some r) : ∀ w : World, SInv D (F) w → Calls Tryz.prog 21 #[.int .i64 d0] w (fun e w' => e = .returned (.agg #[.int .i64 r.X, .int .i64 r.Y]) ∧ SInv D (F) w') := by
  intro w hS
  refine call_intro Tryz.func21 rfl Tryz.ntmps21 (Nat.le_of_ble_eq_true rfl) hS ?_
  clear hS w
  unfold water_Toward_p at hp
  refine c_seq ?_
  refine c_region ?_
  refine l_alloc (zs := [.int .i64 0, .int .i64 0]) rfl (by kernel_rfl) (fun b2 => ?_)
  refine l_nil ?_
  refine e_then ?_
  refine c_seq ?_
  refine c_region ?_
  refine l_s (.agg #[.int .i64 1, .int .i64 0]) (by kernel_rfl) ?_
  refine l_s (.agg #[.int .i64 1, .int .i64 1]) (by kernel_rfl) ?_
  refine l_s (.agg #[.int .i64 0, .int .i64 1]) (by kernel_rfl) ?_
  refine l_s (.agg #[.int .i64 (-1), .int .i64 1]) (by kernel_rfl) ?_
  refine l_s (.agg #[.int .i64 (-1), .int .i64 0]) (by kernel_rfl) ?_
  refine l_s (.agg #[.int .i64 (-1), .int .i64 (-1)]) (by kernel_rfl) ?_
  refine l_s (.agg #[.int .i64 0, .int .i64 (-1)]) (by kernel_rfl) ?_
  refine l_s (.agg #[.int .i64 1, .int .i64 (-1)]) (by kernel_rfl) ?_
  refine l_q rfl (qs_bldArr (zs := [.int .i64 0, .int .i64 0, .int .i64 0, .int .i64 0, .int .i64 0, .int .i64 0, .int .i64 0, .int .i64 0, .int .i64 0, .int .i64 0, .int .i64 0, .int .i64 0, .int .i64 0, .int .i64 0, .int .i64 0, .int .i64 0]) (cs := [.int .i64 1, .int .i64 0, .int .i64 1, .int .i64 1, .int .i64 0, .int .i64 1, .int .i64 (-1), .int .i64 1, .int .i64 (-1), .int .i64 0, .int .i64 (-1), .int .i64 (-1), .int .i64 0, .int .i64 (-1), .int .i64 1, .int .i64 (-1)]) Tryz.underlying88 (by kernel_rfl) (by kernel_rfl) (by kernel_rfl)) ?_
  refine l_alloc (zs := [.int .i64 0, .int .i64 0, .int .i64 0, .int .i64 0, .int .i64 0, .int .i64 0, .int .i64 0, .int .i64 0, .int .i64 0, .int .i64 0, .int .i64 0, .int .i64 0, .int .i64 0, .int .i64 0, .int .i64 0, .int .i64 0]) rfl (by kernel_rfl) (fun b4 => ?_)
  refine l_store (dd := none) (vs := [.int .i64 1, .int .i64 0, .int .i64 1, .int .i64 1, .int .i64 0, .int .i64 1, .int .i64 (-1), .int .i64 1, .int .i64 (-1), .int .i64 0, .int .i64 (-1), .int .i64 (-1), .int .i64 0, .int .i64 (-1), .int .i64 1, .int .i64 (-1)]) (cs' := [.int .i64 1, .int .i64 0, .int .i64 1, .int .i64 1, .int .i64 0, .int .i64 1, .int .i64 (-1), .int .i64 1, .int .i64 (-1), .int .i64 0, .int .i64 (-1), .int .i64 (-1), .int .i64 0, .int .i64 (-1), .int .i64 1, .int .i64 (-1)]) rfl (by kernel_rfl) (by kernel_rfl) rfl rfl (Nat.le_of_ble_eq_true rfl) rfl rfl ?_
  refine l_nil ?_
  refine e_then ?_
  refine c_seq ?_
  obtain ⟨x1, hx1, hp⟩ := bnd_some hp
  refine c_region ?_
  refine l_s (.int .i64 d0) (by kernel_rfl) ?_
  refine l_q rfl (qs_idxAP Tryz.underlying88 (by kernel_rfl) (sz := 2) (by kernel_rfl) rfl rfl (idx_some hx1).1 (idx_lt hx1 rfl)) ?_
  refine l_q rfl (qs_ldAP (D0 := D) (cs := [.int .i64 1, .int .i64 0, .int .i64 1, .int .i64 1, .int .i64 0, .int .i64 1, .int .i64 (-1), .int .i64 1, .int .i64 (-1), .int .i64 0, .int .i64 (-1), .int .i64 (-1), .int .i64 0, .int .i64 (-1), .int .i64 1, .int .i64 (-1)]) fit43 (off := 0) (xs := ([(⟨1, 0⟩ : S_api_Point), (⟨1, 1⟩ : S_api_Point), (⟨0, 1⟩ : S_api_Point), (⟨(-1), 1⟩ : S_api_Point), (⟨(-1), 0⟩ : S_api_Point), (⟨(-1), (-1)⟩ : S_api_Point), (⟨0, (-1)⟩ : S_api_Point), (⟨1, (-1)⟩ : S_api_Point)] : List S_api_Point)) rfl rfl 0 rfl ⟨rfl, rfl, rfl, rfl, rfl, rfl, rfl, rfl, trivial⟩ hx1 (v := .agg #[.int .i64 x1.X, .int .i64 x1.Y]) (fun cs hcs => by rw [show cs = _ from hcs]; rfl)) ?_
  refine l_perm (fr1_perm 1 _) ?_
  refine l_store (dd := none) (vs := [.int .i64 x1.X, .int .i64 x1.Y]) (cs' := [.int .i64 x1.X, .int .i64 x1.Y]) rfl (by kernel_rfl) (by kernel_rfl) rfl rfl (Nat.le_of_ble_eq_true rfl) rfl rfl ?_
  refine l_nil ?_
  refine e_perm (fr1_perm 1 _) ?_
  refine e_drop ?_
  refine e_then ?_
  refine c_ret ?_
  obtain rfl := Option.some.inj hp
  exact post_all (vs := [.agg #[.int .i64 x1.X, .int .i64 x1.Y]]) (.agg #[.int .i64 x1.X, .int .i64 x1.Y]) ⟨⟨_, 0, _, _, 2, by decide, rfl, rfl, .inr ⟨fitv43, rfl, rfl⟩⟩, trivial⟩ rfl (.inl rfl) (fun w hS => ⟨rfl, hS.tail⟩)

-- tarnfell/road.amount
set_option maxRecDepth 100000 in
set_option maxHeartbeats 2000000 in
theorem road_amount_s (l0 : List S_api_Point) (l0_v1a : Option Addr) (l0_v1c : Nat) (D : PH) (l0_h1 : RO encS_api_Point D (.slice l0_v1a l0.length l0_v1c) l0) (F : List Assert) (r : Int) (hp : road_amount_p l0 = some r) : ∀ w : World, SInv D (F) w → Calls Tryz.prog 39 #[.slice l0_v1a l0.length l0_v1c] w (fun e w' => e = .returned (.int .i64 r) ∧ SInv D (F) w') := by
  intro w hS
  refine call_intro Tryz.func39 rfl Tryz.ntmps39 (Nat.le_of_ble_eq_true rfl) hS ?_
  clear hS w
  unfold road_amount_p at hp
  refine c_seq ?_
  refine c_quiet ?_
  refine ql_s (.int .i64 0) (by kernel_rfl) ?_
  refine ql_nil ?_
  refine e_then ?_
  refine c_seq ?_
  refine c_block ?_
  refine c_seq ?_
  refine c_quiet ?_
  refine ql_s (.slice l0_v1a l0.length l0_v1c) (by kernel_rfl) ?_
  refine ql_s (.int .i64 (l0.length : Int)) (by kernel_rfl) ?_
  refine ql_s (.bool ((l0.length : Int) == 0)) (by kernel_rfl) ?_
  refine ql_s (.bool ((l0.length : Int) == 0)) (by kernel_rfl) ?_
  refine ql_nil ?_
  refine e_then ?_
  refine c_cond (((l0.length : Int) == 0)) rfl (fun ht1 => ?_) (fun ht1 => ?_)
  · skip
    replace hp := if_t ht1 hp
    refine c_seq ?_
    refine c_quiet ?_
    refine ql_s (.int .i64 10) (by kernel_rfl) ?_
    refine ql_nil ?_
    refine e_then ?_
    refine c_ret ?_
    refine e_blk_ret ?_
    refine e_then_ret ?_
    obtain rfl := Option.some.inj hp
    exact post_all (vs := [.int .i64 10]) (.int .i64 10) ⟨rfl, trivial⟩ rfl (.inl rfl) (fun w hS => ⟨rfl, hS⟩)
  · skip
    replace hp := if_f ht1 hp
    refine c_seq ?_
    refine c_quiet ?_
    refine ql_s (.slice l0_v1a l0.length l0_v1c) (by kernel_rfl) ?_
    refine ql_s (.int .i64 (l0.length : Int)) (by kernel_rfl) ?_
    refine ql_s (.bool (decide ((l0.length : Int) > 65536))) (by kernel_rfl) ?_
    refine ql_s (.bool (decide ((l0.length : Int) > 65536))) (by kernel_rfl) ?_
    refine ql_nil ?_
    refine e_then ?_
    refine c_cond (decide ((l0.length : Int) > 65536)) rfl (fun ht2 => ?_) (fun ht2 => ?_)
    · skip
      replace hp := if_t ht2 hp
      refine c_seq ?_
      refine c_quiet ?_
      refine ql_s (.int .i64 4) (by kernel_rfl) ?_
      refine ql_nil ?_
      refine e_then ?_
      refine c_ret ?_
      refine e_blk_ret ?_
      refine e_then_ret ?_
      obtain rfl := Option.some.inj hp
      exact post_all (vs := [.int .i64 4]) (.int .i64 4) ⟨rfl, trivial⟩ rfl (.inl rfl) (fun w hS => ⟨rfl, hS⟩)
    · skip
      replace hp := if_f ht2 hp
      refine c_skip ?_
      refine e_blk ?_
      refine e_then ?_
      refine c_seq ?_
      refine c_quiet ?_
      refine ql_s (.int .i64 0) (by kernel_rfl) ?_
      refine ql_nil ?_
      refine e_then ?_
      refine c_ret ?_
      obtain rfl := Option.some.inj hp
      exact post_all (vs := [.int .i64 0]) (.int .i64 0) ⟨rfl, trivial⟩ rfl (.inl rfl) (fun w hS => ⟨rfl, hS⟩)

-- tarnfell/noise.CheckPlace
set_option maxRecDepth 100000 in
set_option maxHeartbeats 2000000 in
theorem noise_CheckPlace_s (x0 : Int) (y0 : Int) (D : PH)  (F : List Assert) (r : Int) (hp : noise_CheckPlace_p x0 y0 = some r) : ∀ w : World, SInv D (F) w → Calls Tryz.prog 40 #[.int .i64 x0, .int .i64 y0] w (fun e w' => e = .returned (.int .i64 r) ∧ SInv D (F) w') := by
  intro w hS
  refine call_intro Tryz.func40 rfl Tryz.ntmps40 (Nat.le_of_ble_eq_true rfl) hS ?_
  clear hS w
  unfold noise_CheckPlace_p at hp
  refine c_seq ?_
  refine c_quiet ?_
  refine ql_s (.int .i64 0) (by kernel_rfl) ?_
  refine ql_nil ?_
  refine e_then ?_
  refine c_seq ?_
  refine c_seq ?_
  refine c_cutq_end [(18, .bool ((decide (x0 < (-4194304))) || ((decide (x0 > 4194304)) || ((decide (y0 < (-4194304))) || (decide (y0 > 4194304))))))] ?_ ?_
  · skip
    refine c_quiet ?_
    refine ql_s (.int .i64 x0) (by kernel_rfl) ?_
    refine ql_s (.bool (decide (x0 < (-4194304)))) (by kernel_rfl) ?_
    refine ql_s (.bool (decide (x0 < (-4194304)))) (by kernel_rfl) ?_
    refine ql_case 7 (decide (x0 < (-4194304))) rfl (fun hg1 => ?_) (fun hg1 => ?_)
    · skip
      refine ql_s undef (by kernel_rfl) ?_
      refine ql_s undef (by kernel_rfl) ?_
      refine ql_s (.bool true) (by kernel_rfl) ?_
      refine ql_s (.bool true) (by kernel_rfl) ?_
      refine ql_s undef (by kernel_rfl) ?_
      refine ql_s undef (by kernel_rfl) ?_
      refine ql_s (.bool true) (by kernel_rfl) ?_
      refine ql_s (.bool true) (by kernel_rfl) ?_
      refine ql_s undef (by kernel_rfl) ?_
      refine ql_s undef (by kernel_rfl) ?_
      refine ql_s (.bool true) (by kernel_rfl) ?_
      refine ql_nil (e_cutq ?_)
      exact ⟨(congrArg Value.bool (by first | rfl | (rw [hg1]; rfl) | simp [hg1])), trivial⟩
    · skip
      refine ql_s (.int .i64 x0) (by kernel_rfl) ?_
      refine ql_s (.bool (decide (x0 > 4194304))) (by kernel_rfl) ?_
      refine ql_s (.bool (decide (x0 > 4194304))) (by kernel_rfl) ?_
      refine ql_s (.bool (decide (x0 > 4194304))) (by kernel_rfl) ?_
      refine ql_case 11 (decide (x0 > 4194304)) rfl (fun hg2 => ?_) (fun hg2 => ?_)
      · skip
        refine ql_s undef (by kernel_rfl) ?_
        refine ql_s undef (by kernel_rfl) ?_
        refine ql_s (.bool true) (by kernel_rfl) ?_
        refine ql_s (.bool true) (by kernel_rfl) ?_
        refine ql_s undef (by kernel_rfl) ?_
        refine ql_s undef (by kernel_rfl) ?_
        refine ql_s (.bool true) (by kernel_rfl) ?_
        refine ql_nil (e_cutq ?_)
        exact ⟨(congrArg Value.bool (by first | rfl | (rw [hg1, hg2]; rfl) | simp [hg1, hg2])), trivial⟩
      · skip
        refine ql_s (.int .i64 y0) (by kernel_rfl) ?_
        refine ql_s (.bool (decide (y0 < (-4194304)))) (by kernel_rfl) ?_
        refine ql_s (.bool (decide (y0 < (-4194304)))) (by kernel_rfl) ?_
        refine ql_s (.bool (decide (y0 < (-4194304)))) (by kernel_rfl) ?_
        refine ql_case 15 (decide (y0 < (-4194304))) rfl (fun hg3 => ?_) (fun hg3 => ?_)
        · skip
          refine ql_s undef (by kernel_rfl) ?_
          refine ql_s undef (by kernel_rfl) ?_
          refine ql_s (.bool true) (by kernel_rfl) ?_
          refine ql_nil (e_cutq ?_)
          exact ⟨(congrArg Value.bool (by first | rfl | (rw [hg1, hg2, hg3]; rfl) | simp [hg1, hg2, hg3])), trivial⟩
        · skip
          refine ql_s (.int .i64 y0) (by kernel_rfl) ?_
          refine ql_s (.bool (decide (y0 > 4194304))) (by kernel_rfl) ?_
          refine ql_s (.bool (decide (y0 > 4194304))) (by kernel_rfl) ?_
          refine ql_nil (e_cutq ?_)
          exact ⟨(congrArg Value.bool (by first | rfl | (rw [hg1, hg2, hg3]; rfl) | simp [hg1, hg2, hg3])), trivial⟩
  intro _
  refine e_then ?_
  refine c_cond (((decide (x0 < (-4194304))) || ((decide (x0 > 4194304)) || ((decide (y0 < (-4194304))) || (decide (y0 > 4194304)))))) rfl (fun ht1 => ?_) (fun ht1 => ?_)
  · skip
    replace hp := if_t ht1 hp
    refine c_seq ?_
    refine c_quiet ?_
    refine ql_s (.int .i64 5) (by kernel_rfl) ?_
    refine ql_nil ?_
    refine e_then ?_
    refine c_ret ?_
    refine e_then_ret ?_
    obtain rfl := Option.some.inj hp
    exact post_all (vs := [.int .i64 5]) (.int .i64 5) ⟨rfl, trivial⟩ rfl (.inl rfl) (fun w hS => ⟨rfl, hS⟩)
  · skip
    replace hp := if_f ht1 hp
    refine c_skip ?_
    refine e_then ?_
    refine c_seq ?_
    refine c_quiet ?_
    refine ql_s (.int .i64 0) (by kernel_rfl) ?_
    refine ql_nil ?_
    refine e_then ?_
    refine c_ret ?_
    obtain rfl := Option.some.inj hp
    exact post_all (vs := [.int .i64 0]) (.int .i64 0) ⟨rfl, trivial⟩ rfl (.inl rfl) (fun w hS => ⟨rfl, hS⟩)

-- tarnfell/road.place
set_option maxRecDepth 100000 in
set_option maxHeartbeats 2000000 in
theorem road_place_s (p0 : S_api_Point) (D : PH)  (F : List Assert) (r : Int) (hp : road_place_p p0 = some r) : ∀ w : World, SInv D (F) w → Calls Tryz.prog 23 #[.agg #[.int .i64 p0.X, .int .i64 p0.Y]] w (fun e w' => e = .returned (.int .i64 r) ∧ SInv D (F) w') := by
  intro w hS
  refine call_intro Tryz.func23 rfl Tryz.ntmps23 (Nat.le_of_ble_eq_true rfl) hS ?_
  clear hS w
  unfold road_place_p at hp
  refine c_seq ?_
  refine c_region ?_
  refine l_box (cs := [.int .i64 p0.X, .int .i64 p0.Y]) rfl rfl (fun b2 => ?_)
  refine l_s (.int .i64 0) (by kernel_rfl) ?_
  refine l_nil ?_
  refine e_then ?_
  refine c_seq ?_
  obtain ⟨r1, hr1, hp⟩ := bnd_some hp
  refine c_quiet ?_
  refine ql_s (.pointer (some ⟨b2, 0, none⟩)) (by kernel_rfl) ?_
  refine ql_q rfl (qs_ldpt encV fitv3 rfl 0 rfl (.int .i64 p0.X) (Nat.le_of_ble_eq_true rfl) rfl) ?_
  refine ql_s (.pointer (some ⟨b2, 1, none⟩)) (by kernel_rfl) ?_
  refine ql_q rfl (qs_ldpt encV fitv3 rfl 0 rfl (.int .i64 p0.Y) (Nat.le_of_ble_eq_true rfl) rfl) ?_
  refine ql_call (v := .int .i64 r1) rfl (run_call (vs := [.int .i64 p0.X, .int .i64 p0.Y]) rfl Tryz.call40 rfl) (fun w hS => (noise_CheckPlace_s p0.X p0.Y _  _ _ hr1 w (hS)).mono fun e w' h => ⟨h.1, h.2⟩) ?_
  refine ql_s (.int .i64 r1) (by kernel_rfl) ?_
  refine ql_nil ?_
  refine e_drop ?_
  refine e_then ?_
  refine c_ret ?_
  obtain rfl := Option.some.inj hp
  exact post_all (vs := [.int .i64 r1]) (.int .i64 r1) ⟨rfl, trivial⟩ rfl (.inl rfl) (fun w hS => ⟨rfl, hS⟩)

-- tarnfell/water.Direction
set_option maxRecDepth 100000 in
set_option maxHeartbeats 2000000 in
theorem water_Direction_s (a0 : S_api_Point) (b0 : S_api_Point) (D : PH)  (F : List Assert) (r : Int) (hp : water_Direction_p a0 b0 = some r) : ∀ w : World, SInv D (F) w → Calls Tryz.prog 48 #[.agg #[.int .i64 a0.X, .int .i64 a0.Y], .agg #[.int .i64 b0.X, .int .i64 b0.Y]] w (fun e w' => e = .returned (.int .i64 r) ∧ SInv D (F) w') := by
  intro w hS
  refine call_intro Tryz.func48 rfl Tryz.ntmps48 (Nat.le_of_ble_eq_true rfl) hS ?_
  clear hS w
  unfold water_Direction_p at hp
  refine c_seq ?_
  refine c_region ?_
  refine l_box (cs := [.int .i64 a0.X, .int .i64 a0.Y]) rfl rfl (fun b3 => ?_)
  refine l_box (cs := [.int .i64 b0.X, .int .i64 b0.Y]) rfl rfl (fun b4 => ?_)
  refine l_s (.int .i64 0) (by kernel_rfl) ?_
  refine l_nil ?_
  refine e_then ?_
  refine c_seq ?_
  refine c_seq ?_
  refine c_quiet ?_
  refine ql_s (.int .i64 0) (by kernel_rfl) ?_
  refine ql_nil ?_
  refine e_then ?_
  have hm0 : (8 : Nat) = ((8 : Int)).toNat := rfl
  have hb0 : ((8 : Int)) ≤ 4611686018427387904 := by decide
  have hm1 := hm0; have hb1 := hb0; clear hm0 hb0
  obtain ⟨x1, hs1, hp⟩ := bnd_some hp
  obtain ⟨body1, hbody1, hs1⟩ := forI_gen hs1
  refine c_cut_end (fun φ1 D1 As1 => ∃ (s1 : Unit), x1 = .go s1 ∧ Is φ1 [] ∧ PH.le D D1 ∧ As1 = pt b4 [.int .i64 b0.X, .int .i64 b0.Y] 43 :: pt b3 [.int .i64 a0.X, .int .i64 a0.Y] 43 :: F) ?_ ?_
  · skip
    refine c_block ?_
    refine c_perm (fr1_perm 1 _) ?_
    refine c_perm (fr1_perm 1 _) ?_
    refine c_loop (fun k φ1 D2 As1 => ∃ (j1 i1 : Nat) (s2 : Unit), k = j1 + 1 ∧ i1 + j1 = 8 ∧ Is φ1 [(2, .pointer (some ⟨b3, 0, none⟩)), (3, .pointer (some ⟨b4, 0, none⟩)), (7, .int .i64 (i1 : Int))] ∧ PH.le D D2 ∧ As1 = pt b4 [.int .i64 b0.X, .int .i64 b0.Y] 43 :: pt b3 [.int .i64 a0.X, .int .i64 a0.Y] 43 :: F ∧ forI body1 j1 i1 s2 = some x1) ⟨8 + 1, 8, 0, (), rfl, Nat.zero_add _, ⟨rfl, rfl, rfl, trivial⟩, (PH.le_refl _), rfl, hs1⟩ ?_ ?_
    · rintro _ _ _ ⟨_, _, _, h0, _⟩; omega
    intro k1
    rintro φ1 D2 As1 ⟨j1, i1, s2, hk1, hij1, hI1, hD1, hA1, hs2⟩
    subst As1
    refine c_frame _ hI1 ?_
    obtain rfl : k1 = j1 := by omega
    clear hk1
    rcases k1 with _ | j1
    · skip
      refine c_seq ?_
      refine c_quiet ?_
      refine ql_s (.bool (decide ((i1 : Int) < 8))) (by kernel_rfl) ?_
      refine ql_nil ?_
      refine e_then ?_
      refine c_seq ?_
      refine c_cond (decide ((i1 : Int) < 8)) rfl (fun ht1 => absurd ((dec_lt_f hm1 (by omega)).symm.trans ht1) (by simp)) (fun _ => ?_)
      refine c_exit ?_
      refine e_then_exit ?_
      refine e_then_exit ?_
      obtain rfl := Option.some.inj hs2
      refine e_blk_exit ?_
      refine e_perm (fr1_perm 1 _) ?_
      refine e_perm (fr1_perm 1 _) ?_
      exact e_cut ⟨(), rfl, trivial, hD1, rfl⟩
    · skip
      obtain ⟨y1, hx1, hs2⟩ := forI_some hs2
      replace hx1 := (congrFun (congrFun hbody1 i1) s2).trans hx1
      refine c_seq ?_
      refine c_quiet ?_
      refine ql_s (.bool (decide ((i1 : Int) < 8))) (by kernel_rfl) ?_
      refine ql_nil ?_
      refine e_then ?_
      refine c_seq ?_
      refine c_cond (decide ((i1 : Int) < 8)) rfl (fun _ => ?_) (fun ht2 => absurd ((dec_lt_t hm1 (by omega)).symm.trans ht2) (by simp))
      refine c_skip ?_
      refine e_then ?_
      refine c_seq ?_
      refine c_block ?_
      refine c_seq ?_
      refine c_quiet ?_
      refine ql_s (.int .i64 (i1 : Int)) (by kernel_rfl) ?_
      refine ql_s (.int .i64 (i1 : Int)) (by kernel_rfl) ?_
      refine ql_nil ?_
      refine e_then ?_
      refine c_seq ?_
      obtain ⟨r1, hr1, hx1⟩ := bnd_some hx1
      refine c_region ?_
      refine l_s (.int .i64 (i1 : Int)) (by kernel_rfl) ?_
      refine l_callq (v := .agg #[.int .i64 r1.X, .int .i64 r1.Y]) rfl rfl Tryz.call21 (vs := [.int .i64 (i1 : Int)]) rfl (fun w hS => (water_Toward_s (i1 : Int) _  _ _ hr1 w (hS)).mono fun e w' h => ⟨h.1, h.2⟩) ?_
      refine l_alloc (zs := [.int .i64 0, .int .i64 0]) rfl (by kernel_rfl) (fun b6 => ?_)
      refine l_store (dd := none) (vs := [.int .i64 r1.X, .int .i64 r1.Y]) (cs' := [.int .i64 r1.X, .int .i64 r1.Y]) rfl (by kernel_rfl) (by kernel_rfl) rfl rfl (Nat.le_of_ble_eq_true rfl) rfl rfl ?_
      refine l_nil ?_
      refine e_then ?_
      refine c_seq ?_
      refine c_cutq_end [(2, .pointer (some ⟨b3, 0, none⟩)), (3, .pointer (some ⟨b4, 0, none⟩)), (5, .int .i64 (i1 : Int)), (7, .int .i64 (i1 : Int)), (29, .bool (((addI a0.X r1.X) == b0.X) && ((addI a0.Y r1.Y) == b0.Y)))] ?_ ?_
      · skip
        refine c_quiet ?_
        refine ql_s (.pointer (some ⟨b3, 0, none⟩)) (by kernel_rfl) ?_
        refine ql_q rfl (qs_ldpt encV fitv3 rfl 2 rfl (.int .i64 a0.X) (Nat.le_of_ble_eq_true rfl) rfl) ?_
        refine ql_s (.pointer (some ⟨b6, 0, none⟩)) (by kernel_rfl) ?_
        refine ql_q rfl (qs_ldpt encV fitv3 rfl 0 rfl (.int .i64 r1.X) (Nat.le_of_ble_eq_true rfl) rfl) ?_
        refine ql_s (.int .i64 (addI a0.X r1.X)) (by kernel_rfl) ?_
        refine ql_s (.pointer (some ⟨b4, 0, none⟩)) (by kernel_rfl) ?_
        refine ql_q rfl (qs_ldpt encV fitv3 rfl 1 rfl (.int .i64 b0.X) (Nat.le_of_ble_eq_true rfl) rfl) ?_
        refine ql_s (.bool ((addI a0.X r1.X) == b0.X)) (by kernel_rfl) ?_
        refine ql_s (.bool ((addI a0.X r1.X) == b0.X)) (by kernel_rfl) ?_
        refine ql_case 20 (((addI a0.X r1.X) == b0.X)) rfl (fun hg1 => ?_) (fun hg1 => ?_)
        · skip
          refine ql_s (.pointer (some ⟨b3, 1, none⟩)) (by kernel_rfl) ?_
          refine ql_q rfl (qs_ldpt encV fitv3 rfl 2 rfl (.int .i64 a0.Y) (Nat.le_of_ble_eq_true rfl) rfl) ?_
          refine ql_s (.pointer (some ⟨b6, 1, none⟩)) (by kernel_rfl) ?_
          refine ql_q rfl (qs_ldpt encV fitv3 rfl 0 rfl (.int .i64 r1.Y) (Nat.le_of_ble_eq_true rfl) rfl) ?_
          refine ql_s (.int .i64 (addI a0.Y r1.Y)) (by kernel_rfl) ?_
          refine ql_s (.pointer (some ⟨b4, 1, none⟩)) (by kernel_rfl) ?_
          refine ql_q rfl (qs_ldpt encV fitv3 rfl 1 rfl (.int .i64 b0.Y) (Nat.le_of_ble_eq_true rfl) rfl) ?_
          refine ql_s (.bool ((addI a0.Y r1.Y) == b0.Y)) (by kernel_rfl) ?_
          refine ql_s (.bool ((addI a0.Y r1.Y) == b0.Y)) (by kernel_rfl) ?_
          refine ql_nil (e_cutq ?_)
          exact ⟨rfl, rfl, rfl, rfl, (congrArg Value.bool (by first | rfl | (rw [hg1]; rfl) | simp [hg1])), trivial⟩
        · skip
          refine ql_s undef (by kernel_rfl) ?_
          refine ql_s undef (by kernel_rfl) ?_
          refine ql_s undef (by kernel_rfl) ?_
          refine ql_s undef (by kernel_rfl) ?_
          refine ql_s undef (by kernel_rfl) ?_
          refine ql_s undef (by kernel_rfl) ?_
          refine ql_s undef (by kernel_rfl) ?_
          refine ql_s undef (by kernel_rfl) ?_
          refine ql_s (.bool false) (by kernel_rfl) ?_
          refine ql_nil (e_cutq ?_)
          exact ⟨rfl, rfl, rfl, rfl, (congrArg Value.bool (by first | rfl | (rw [hg1]; rfl) | simp [hg1])), trivial⟩
      intro _
      refine e_then ?_
      refine c_cond ((((addI a0.X r1.X) == b0.X) && ((addI a0.Y r1.Y) == b0.Y))) rfl (fun ht3 => ?_) (fun ht3 => ?_)
      · skip
        replace hx1 := if_t ht3 hx1
        refine c_seq ?_
        refine c_quiet ?_
        refine ql_s (.int .i64 (i1 : Int)) (by kernel_rfl) ?_
        refine ql_s (.int .i64 (i1 : Int)) (by kernel_rfl) ?_
        refine ql_nil ?_
        refine e_drop ?_
        refine e_drop ?_
        refine e_drop ?_
        refine e_then ?_
        refine c_ret ?_
        refine e_blk_ret ?_
        refine e_then_ret ?_
        refine e_then_ret ?_
        obtain rfl := Option.some.inj hx1
        obtain rfl := hs2
        refine e_blk_ret ?_
        refine e_then_ret ?_
        dsimp only at hp
        refine e_then_ret ?_
        obtain rfl := Option.some.inj hp
        exact post_all (vs := [.int .i64 (i1 : Int)]) (.int .i64 (i1 : Int)) ⟨rfl, trivial⟩ rfl (.inl rfl) (fun w hS => ⟨rfl, (hS.lower hD1)⟩)
      · skip
        replace hx1 := if_f ht3 hx1
        refine c_skip ?_
        refine e_blk ?_
        refine e_then ?_
        refine c_quiet ?_
        refine ql_s (.int .i64 (addI (i1 : Int) 1)) (by kernel_rfl) ?_
        refine ql_s (.int .i64 (addI (i1 : Int) 1)) (by kernel_rfl) ?_
        refine ql_nil ?_
        refine e_drop ?_
        refine e_perm (fr1_perm 1 _) ?_
        refine e_perm (fr1_perm 1 _) ?_
        obtain rfl := Option.some.inj hx1
        exact e_cut ⟨j1, i1 + 1, (), by omega, by omega, ⟨rfl, rfl, (congrArg (Value.int .i64) (addI_succ (by omega))), trivial⟩, hD1, rfl, hs2⟩
  · skip
    rintro φ2 D1 As2 ⟨s1, rfl, hI2, hD2, hA2⟩
    subst As2
    dsimp only at hp
    refine e_frame _ hI2 ?_
    refine e_then ?_
    refine c_seq ?_
    refine c_quiet ?_
    refine ql_s (.int .i64 (-1)) (by kernel_rfl) ?_
    refine ql_nil ?_
    refine e_drop ?_
    refine e_drop ?_
    refine e_then ?_
    refine c_ret ?_
    obtain rfl := Option.some.inj hp
    exact post_all (vs := [.int .i64 (-1)]) (.int .i64 (-1)) ⟨rfl, trivial⟩ rfl (.inl rfl) (fun w hS => ⟨rfl, (hS.lower hD2)⟩)

-- tarnfell/road.Between
set_option maxRecDepth 100000 in
set_option maxHeartbeats 2000000 in
theorem road_Between_s (a0 : S_api_Point) (b0 : S_api_Point) (D : PH)  (F : List Assert) (r : Int × Int) (hp : road_Between_p a0 b0 = some r) : ∀ w : World, SInv D (F) w → Calls Tryz.prog 28 #[.agg #[.int .i64 a0.X, .int .i64 a0.Y], .agg #[.int .i64 b0.X, .int .i64 b0.Y]] w (fun e w' => e = .returned (.tuple #[.int .i64 r.1, .int .i64 r.2]) ∧ SInv D (F) w') := by
  intro w hS
  refine call_intro Tryz.func28 rfl Tryz.ntmps28 (Nat.le_of_ble_eq_true rfl) hS ?_
  clear hS w
  unfold road_Between_p at hp
  refine c_seq ?_
  refine c_region ?_
  refine l_box (cs := [.int .i64 a0.X, .int .i64 a0.Y]) rfl rfl (fun b3 => ?_)
  refine l_box (cs := [.int .i64 b0.X, .int .i64 b0.Y]) rfl rfl (fun b4 => ?_)
  refine l_s (.int .i64 0) (by kernel_rfl) ?_
  refine l_s (.int .i64 0) (by kernel_rfl) ?_
  refine l_nil ?_
  refine e_then ?_
  refine c_seq ?_
  refine c_quiet_draw hmix (by kernel_rfl) ?_
  refine ql_s (.pointer (some ⟨b4, 0, none⟩)) (by kernel_rfl) ?_
  refine ql_q rfl (qs_ldpt encV fitv3 rfl 0 rfl (.int .i64 b0.X) (Nat.le_of_ble_eq_true rfl) rfl) ?_
  refine ql_s (.pointer (some ⟨b3, 0, none⟩)) (by kernel_rfl) ?_
  refine ql_q rfl (qs_ldpt encV fitv3 rfl 1 rfl (.int .i64 a0.X) (Nat.le_of_ble_eq_true rfl) rfl) ?_
  refine ql_s (.int .i64 (subI b0.X a0.X)) (by kernel_rfl) ?_
  refine ql_s (.pointer (some ⟨b4, 1, none⟩)) (by kernel_rfl) ?_
  refine ql_q rfl (qs_ldpt encV fitv3 rfl 0 rfl (.int .i64 b0.Y) (Nat.le_of_ble_eq_true rfl) rfl) ?_
  refine ql_s (.pointer (some ⟨b3, 1, none⟩)) (by kernel_rfl) ?_
  refine ql_q rfl (qs_ldpt encV fitv3 rfl 1 rfl (.int .i64 a0.Y) (Nat.le_of_ble_eq_true rfl) rfl) ?_
  refine ql_s (.int .i64 (subI b0.Y a0.Y)) (by kernel_rfl) ?_
  refine ql_s (.int .i64 (subI b0.X a0.X)) (by kernel_rfl) ?_
  refine ql_s (.int .i64 (subI b0.Y a0.Y)) (by kernel_rfl) ?_
  refine ql_nil ?_
  refine e_drop ?_
  refine e_drop ?_
  refine e_then ?_
  refine c_seq ?_
  obtain ⟨n_1, hn_1, hp⟩ := bnd_some hp
  replace hn_1 := Option.some.inj hn_1
  refine c_quiet ?_
  refine ql_s (.int .i64 (subI b0.X a0.X)) (by kernel_rfl) ?_
  refine ql_s (.int .i64 (subI b0.X a0.X)) (by kernel_rfl) ?_
  refine ql_s (.int .i64 (subI 0 (subI b0.X a0.X))) (by kernel_rfl) ?_
  refine ql_s (.int .i64 (subI b0.Y a0.Y)) (by kernel_rfl) ?_
  refine ql_s (.int .i64 (subI b0.Y a0.Y)) (by kernel_rfl) ?_
  refine ql_s (.int .i64 (subI 0 (subI b0.Y a0.Y))) (by kernel_rfl) ?_
  refine ql_q rfl (qs_max rfl) ?_
  refine ql_s (.int .i64 n_1) (congrArg (fun z => some (Value.int .i64 z)) hn_1) ?_
  refine ql_nil ?_
  refine e_then ?_
  refine c_seq ?_
  refine c_seq ?_
  refine c_cutq_end [(5, .int .i64 n_1), (6, .int .i64 (subI b0.X a0.X)), (7, .int .i64 (subI b0.Y a0.Y)), (45, .bool ((n_1 == 0) || (((subI b0.X a0.X) != 0) && (((subI b0.Y a0.Y) != 0) && (((subI b0.X a0.X) != (subI b0.Y a0.Y)) && ((subI b0.X a0.X) != (subI 0 (subI b0.Y a0.Y))))))))] ?_ ?_
  · skip
    refine c_quiet ?_
    refine ql_s (.int .i64 n_1) (by kernel_rfl) ?_
    refine ql_s (.bool (n_1 == 0)) (by kernel_rfl) ?_
    refine ql_s (.bool (n_1 == 0)) (by kernel_rfl) ?_
    refine ql_case 27 ((n_1 == 0)) rfl (fun hg1 => ?_) (fun hg1 => ?_)
    · skip
      refine ql_s undef (by kernel_rfl) ?_
      refine ql_s undef (by kernel_rfl) ?_
      refine ql_s undef (by kernel_rfl) ?_
      refine ql_s undef (by kernel_rfl) ?_
      refine ql_s undef (by kernel_rfl) ?_
      refine ql_s undef (by kernel_rfl) ?_
      refine ql_s undef (by kernel_rfl) ?_
      refine ql_s undef (by kernel_rfl) ?_
      refine ql_s undef (by kernel_rfl) ?_
      refine ql_s undef (by kernel_rfl) ?_
      refine ql_s undef (by kernel_rfl) ?_
      refine ql_s undef (by kernel_rfl) ?_
      refine ql_s undef (by kernel_rfl) ?_
      refine ql_s undef (by kernel_rfl) ?_
      refine ql_s undef (by kernel_rfl) ?_
      refine ql_s undef (by kernel_rfl) ?_
      refine ql_s undef (by kernel_rfl) ?_
      refine ql_s (.bool true) (by kernel_rfl) ?_
      refine ql_nil (e_cutq ?_)
      exact ⟨rfl, rfl, rfl, (congrArg Value.bool (by first | rfl | (rw [hg1]; rfl) | simp [hg1])), trivial⟩
    · skip
      refine ql_s (.int .i64 (subI b0.X a0.X)) (by kernel_rfl) ?_
      refine ql_s (.bool ((subI b0.X a0.X) != 0)) (by kernel_rfl) ?_
      refine ql_s (.bool ((subI b0.X a0.X) != 0)) (by kernel_rfl) ?_
      refine ql_case 30 (((subI b0.X a0.X) != 0)) rfl (fun hg2 => ?_) (fun hg2 => ?_)
      · skip
        refine ql_s (.int .i64 (subI b0.Y a0.Y)) (by kernel_rfl) ?_
        refine ql_s (.bool ((subI b0.Y a0.Y) != 0)) (by kernel_rfl) ?_
        refine ql_s (.bool ((subI b0.Y a0.Y) != 0)) (by kernel_rfl) ?_
        refine ql_s (.bool ((subI b0.Y a0.Y) != 0)) (by kernel_rfl) ?_
        refine ql_case 34 (((subI b0.Y a0.Y) != 0)) rfl (fun hg3 => ?_) (fun hg3 => ?_)
        · skip
          refine ql_s (.int .i64 (subI b0.X a0.X)) (by kernel_rfl) ?_
          refine ql_s (.int .i64 (subI b0.Y a0.Y)) (by kernel_rfl) ?_
          refine ql_s (.bool ((subI b0.X a0.X) != (subI b0.Y a0.Y))) (by kernel_rfl) ?_
          refine ql_s (.bool ((subI b0.X a0.X) != (subI b0.Y a0.Y))) (by kernel_rfl) ?_
          refine ql_s (.bool ((subI b0.X a0.X) != (subI b0.Y a0.Y))) (by kernel_rfl) ?_
          refine ql_case 39 (((subI b0.X a0.X) != (subI b0.Y a0.Y))) rfl (fun hg4 => ?_) (fun hg4 => ?_)
          · skip
            refine ql_s (.int .i64 (subI b0.X a0.X)) (by kernel_rfl) ?_
            refine ql_s (.int .i64 (subI b0.Y a0.Y)) (by kernel_rfl) ?_
            refine ql_s (.int .i64 (subI 0 (subI b0.Y a0.Y))) (by kernel_rfl) ?_
            refine ql_s (.bool ((subI b0.X a0.X) != (subI 0 (subI b0.Y a0.Y)))) (by kernel_rfl) ?_
            refine ql_s (.bool ((subI b0.X a0.X) != (subI 0 (subI b0.Y a0.Y)))) (by kernel_rfl) ?_
            refine ql_s (.bool ((subI b0.X a0.X) != (subI 0 (subI b0.Y a0.Y)))) (by kernel_rfl) ?_
            refine ql_nil (e_cutq ?_)
            exact ⟨rfl, rfl, rfl, (congrArg Value.bool (by first | rfl | (rw [hg1, hg2, hg3, hg4]; rfl) | simp [hg1, hg2, hg3, hg4])), trivial⟩
          · skip
            refine ql_s undef (by kernel_rfl) ?_
            refine ql_s undef (by kernel_rfl) ?_
            refine ql_s undef (by kernel_rfl) ?_
            refine ql_s undef (by kernel_rfl) ?_
            refine ql_s (.bool false) (by kernel_rfl) ?_
            refine ql_s (.bool false) (by kernel_rfl) ?_
            refine ql_nil (e_cutq ?_)
            exact ⟨rfl, rfl, rfl, (congrArg Value.bool (by first | rfl | (rw [hg1, hg2, hg3, hg4]; rfl) | simp [hg1, hg2, hg3, hg4])), trivial⟩
        · skip
          refine ql_s undef (by kernel_rfl) ?_
          refine ql_s undef (by kernel_rfl) ?_
          refine ql_s undef (by kernel_rfl) ?_
          refine ql_s (.bool false) (by kernel_rfl) ?_
          refine ql_s (.bool false) (by kernel_rfl) ?_
          refine ql_s undef (by kernel_rfl) ?_
          refine ql_s undef (by kernel_rfl) ?_
          refine ql_s undef (by kernel_rfl) ?_
          refine ql_s undef (by kernel_rfl) ?_
          refine ql_s (.bool false) (by kernel_rfl) ?_
          refine ql_s (.bool false) (by kernel_rfl) ?_
          refine ql_nil (e_cutq ?_)
          exact ⟨rfl, rfl, rfl, (congrArg Value.bool (by first | rfl | (rw [hg1, hg2, hg3]; rfl) | simp [hg1, hg2, hg3])), trivial⟩
      · skip
        refine ql_s undef (by kernel_rfl) ?_
        refine ql_s undef (by kernel_rfl) ?_
        refine ql_s (.bool false) (by kernel_rfl) ?_
        refine ql_s (.bool false) (by kernel_rfl) ?_
        refine ql_s undef (by kernel_rfl) ?_
        refine ql_s undef (by kernel_rfl) ?_
        refine ql_s undef (by kernel_rfl) ?_
        refine ql_s (.bool false) (by kernel_rfl) ?_
        refine ql_s (.bool false) (by kernel_rfl) ?_
        refine ql_s undef (by kernel_rfl) ?_
        refine ql_s undef (by kernel_rfl) ?_
        refine ql_s undef (by kernel_rfl) ?_
        refine ql_s undef (by kernel_rfl) ?_
        refine ql_s (.bool false) (by kernel_rfl) ?_
        refine ql_s (.bool false) (by kernel_rfl) ?_
        refine ql_nil (e_cutq ?_)
        exact ⟨rfl, rfl, rfl, (congrArg Value.bool (by first | rfl | (rw [hg1, hg2]; rfl) | simp [hg1, hg2])), trivial⟩
  intro _
  refine e_then ?_
  refine c_cond (((n_1 == 0) || (((subI b0.X a0.X) != 0) && (((subI b0.Y a0.Y) != 0) && (((subI b0.X a0.X) != (subI b0.Y a0.Y)) && ((subI b0.X a0.X) != (subI 0 (subI b0.Y a0.Y)))))))) rfl (fun ht1 => ?_) (fun ht1 => ?_)
  · skip
    replace hp := if_t ht1 hp
    refine c_seq ?_
    refine c_quiet ?_
    refine ql_s (.int .i64 (-1)) (by kernel_rfl) ?_
    refine ql_s (.int .i64 0) (by kernel_rfl) ?_
    refine ql_nil ?_
    refine e_then ?_
    refine c_ret ?_
    refine e_then_ret ?_
    obtain rfl := Option.some.inj hp
    exact post_all (vs := [.int .i64 (-1), .int .i64 0]) (.tuple #[.int .i64 (-1), .int .i64 0]) ⟨rfl, rfl, trivial⟩ rfl (.inl rfl) (fun w hS => ⟨rfl, hS⟩)
  · skip
    replace hp := if_f ht1 hp
    refine c_skip ?_
    refine e_then ?_
    refine c_seq ?_
    obtain ⟨u1, hu1, hp⟩ := bnd_some hp
    replace hu1 := guardP_some hu1
    obtain ⟨r1, hr1, hp⟩ := bnd_some hp
    refine c_quiet_draw hmix (by kernel_rfl) ?_
    refine ql_s (.agg #[.int .i64 0, .int .i64 0]) (by kernel_rfl) ?_
    refine ql_s (.int .i64 (subI b0.X a0.X)) (by kernel_rfl) ?_
    refine ql_s (.int .i64 n_1) (by kernel_rfl) ?_
    refine ql_q rfl (qs_idiv (r := quoI (subI b0.X a0.X) n_1) (by simpa using hu1) rfl rfl rfl) ?_
    refine ql_s (.int .i64 (subI b0.Y a0.Y)) (by kernel_rfl) ?_
    refine ql_s (.int .i64 n_1) (by kernel_rfl) ?_
    refine ql_q rfl (qs_idiv (r := quoI (subI b0.Y a0.Y) n_1) (by simpa using hu1) rfl rfl rfl) ?_
    refine ql_s (.agg #[.int .i64 (quoI (subI b0.X a0.X) n_1), .int .i64 (quoI (subI b0.Y a0.Y) n_1)]) (by kernel_rfl) ?_
    refine ql_call (v := .int .i64 r1) rfl (run_call (vs := [.agg #[.int .i64 0, .int .i64 0], .agg #[.int .i64 (quoI (subI b0.X a0.X) n_1), .int .i64 (quoI (subI b0.Y a0.Y) n_1)]]) rfl Tryz.call48 rfl) (fun w hS => (water_Direction_s (⟨0, 0⟩ : S_api_Point) (⟨quoI (subI b0.X a0.X) n_1, quoI (subI b0.Y a0.Y) n_1⟩ : S_api_Point) _  _ _ hr1 w (hS)).mono fun e w' h => ⟨h.1, h.2⟩) ?_
    refine ql_s (.int .i64 n_1) (by kernel_rfl) ?_
    refine ql_s (.int .i64 r1) (by kernel_rfl) ?_
    refine ql_s (.int .i64 n_1) (by kernel_rfl) ?_
    refine ql_nil ?_
    refine e_then ?_
    refine c_ret ?_
    obtain rfl := Option.some.inj hp
    exact post_all (vs := [.int .i64 r1, .int .i64 n_1]) (.tuple #[.int .i64 r1, .int .i64 n_1]) ⟨rfl, rfl, trivial⟩ rfl (.inl rfl) (fun w hS => ⟨rfl, hS⟩)

-- tarnfell/road.checkWay
set_option maxRecDepth 100000 in
set_option maxHeartbeats 2000000 in
theorem road_checkWay_s (way0 : List S_api_Point) (way0_v1a : Option Addr) (way0_v1c : Nat) (D : PH) (way0_h1 : RO encS_api_Point D (.slice way0_v1a way0.length way0_v1c) way0) (F : List Assert) (r : Int) (hp : road_checkWay_p way0 = some r) : ∀ w : World, SInv D (F) w → Calls Tryz.prog 22 #[.slice way0_v1a way0.length way0_v1c, .func (.func 23) #[] #[]] w (fun e w' => e = .returned (.int .i64 r) ∧ SInv D (F) w') := by
  intro w hS
  refine call_intro Tryz.func22 rfl Tryz.ntmps22 (Nat.le_of_ble_eq_true rfl) hS ?_
  clear hS w
  unfold road_checkWay_p at hp
  refine c_seq ?_
  refine c_quiet ?_
  refine ql_s (.int .i64 0) (by kernel_rfl) ?_
  refine ql_nil ?_
  refine e_then ?_
  refine c_seq ?_
  refine c_seq ?_
  obtain ⟨r1, hr1, hp⟩ := bnd_some hp
  refine c_quiet ?_
  refine ql_s (.slice way0_v1a way0.length way0_v1c) (by kernel_rfl) ?_
  refine ql_call (v := .int .i64 r1) rfl (run_call (vs := [.slice way0_v1a way0.length way0_v1c]) rfl Tryz.call39 rfl) (fun w hS => (road_amount_s way0 way0_v1a way0_v1c _ way0_h1 _ _ hr1 w (hS)).mono fun e w' h => ⟨h.1, h.2⟩) ?_
  refine ql_s (.int .i64 r1) (by kernel_rfl) ?_
  refine ql_nil ?_
  refine e_then ?_
  refine c_seq ?_
  refine c_quiet ?_
  refine ql_s (.int .i64 r1) (by kernel_rfl) ?_
  refine ql_s (.bool (r1 != 0)) (by kernel_rfl) ?_
  refine ql_nil ?_
  refine e_then ?_
  refine c_cond ((r1 != 0)) rfl (fun ht1 => ?_) (fun ht1 => ?_)
  · skip
    replace hp := if_t ht1 hp
    refine c_seq ?_
    refine c_quiet ?_
    refine ql_s (.int .i64 r1) (by kernel_rfl) ?_
    refine ql_s (.int .i64 r1) (by kernel_rfl) ?_
    refine ql_nil ?_
    refine e_then ?_
    refine c_ret ?_
    refine e_then_ret ?_
    obtain rfl := Option.some.inj hp
    exact post_all (vs := [.int .i64 r1]) (.int .i64 r1) ⟨rfl, trivial⟩ rfl (.inl rfl) (fun w hS => ⟨rfl, hS⟩)
  · skip
    replace hp := if_f ht1 hp
    refine c_skip ?_
    refine e_then ?_
    refine c_seq ?_
    refine c_seq ?_
    refine c_quiet ?_
    refine ql_s (.slice way0_v1a way0.length way0_v1c) (by kernel_rfl) ?_
    refine ql_s (.int .i64 (way0.length : Int)) (by kernel_rfl) ?_
    refine ql_s (.int .i64 0) (by kernel_rfl) ?_
    refine ql_nil ?_
    refine e_then ?_
    have hb0 : (way0.length : Int) ≤ 4611686018427387904 := by have := RO.bound way0_h1; omega
    have hm0 : way0.length = (way0.length : Int).toNat := by omega
    have hm1 := hm0; have hb1 := hb0; clear hm0 hb0
    obtain ⟨x1, hs1, hp⟩ := bnd_some hp
    obtain ⟨body1, hbody1, hs1⟩ := forI_gen hs1
    refine c_cut_end (fun φ1 D1 As1 => ∃ (s1 : Unit), x1 = .go s1 ∧ Is φ1 [] ∧ PH.le D D1 ∧ As1 = F) ?_ ?_
    · skip
      refine c_block ?_
      refine c_loop (fun k φ1 D2 As1 => ∃ (j1 i1 : Nat) (s2 : Unit), k = j1 + 1 ∧ i1 + j1 = way0.length ∧ Is φ1 [(0, .slice way0_v1a way0.length way0_v1c), (1, .func (.func 23) #[] #[]), (16, .slice way0_v1a way0.length way0_v1c), (17, .int .i64 (way0.length : Int)), (18, .int .i64 (i1 : Int))] ∧ PH.le D D2 ∧ As1 = F ∧ forI body1 j1 i1 s2 = some x1) ⟨way0.length + 1, way0.length, 0, (), rfl, Nat.zero_add _, ⟨rfl, rfl, rfl, rfl, rfl, trivial⟩, (PH.le_refl _), rfl, hs1⟩ ?_ ?_
      · rintro _ _ _ ⟨_, _, _, h0, _⟩; omega
      intro k1
      rintro φ1 D2 As1 ⟨j1, i1, s2, hk1, hij1, hI1, hD1, hA1, hs2⟩
      subst As1
      replace way0_h1 := way0_h1.mono hD1
      refine c_frame _ hI1 ?_
      obtain rfl : k1 = j1 := by omega
      clear hk1
      rcases k1 with _ | j1
      · skip
        refine c_seq ?_
        refine c_quiet ?_
        refine ql_s (.bool (decide ((i1 : Int) < (way0.length : Int)))) (by kernel_rfl) ?_
        refine ql_nil ?_
        refine e_then ?_
        refine c_seq ?_
        refine c_cond (decide ((i1 : Int) < (way0.length : Int))) rfl (fun ht2 => absurd ((dec_lt_f hm1 (by omega)).symm.trans ht2) (by simp)) (fun _ => ?_)
        refine c_exit ?_
        refine e_then_exit ?_
        refine e_then_exit ?_
        obtain rfl := Option.some.inj hs2
        refine e_blk_exit ?_
        exact e_cut ⟨(), rfl, trivial, hD1, rfl⟩
      · skip
        obtain ⟨y1, hx1, hs2⟩ := forI_some hs2
        replace hx1 := (congrFun (congrFun hbody1 i1) s2).trans hx1
        refine c_seq ?_
        refine c_quiet ?_
        refine ql_s (.bool (decide ((i1 : Int) < (way0.length : Int)))) (by kernel_rfl) ?_
        refine ql_nil ?_
        refine e_then ?_
        refine c_seq ?_
        refine c_cond (decide ((i1 : Int) < (way0.length : Int))) rfl (fun _ => ?_) (fun ht3 => absurd ((dec_lt_t hm1 (by omega)).symm.trans ht3) (by simp))
        refine c_skip ?_
        refine e_then ?_
        refine c_seq ?_
        obtain ⟨x2, hs3, hx1⟩ := bnd_some hx1
        refine c_cut_end (fun φ1 D3 As1 => ∃ (s3 : Unit), x2 = .go s3 ∧ Is φ1 [(0, .slice way0_v1a way0.length way0_v1c), (1, .func (.func 23) #[] #[]), (16, .slice way0_v1a way0.length way0_v1c), (17, .int .i64 (way0.length : Int)), (18, .int .i64 (i1 : Int))] ∧ PH.le D2 D3 ∧ As1 = F) ?_ ?_
        · skip
          refine c_block ?_
          refine c_seq ?_
          obtain ⟨x3, hx2, hs3⟩ := bnd_some hs3
          obtain ⟨b1, o1, h1, hq1⟩ := RO.at way0_h1 hx2
          obtain ⟨cs1, hc1, ha1⟩ := h1.cells
          obtain rfl := hc1
          refine c_region ?_
          refine l_s (.int .i64 (i1 : Int)) (by kernel_rfl) ?_
          refine l_q rfl (qs_idx hq1 Tryz.underlying22 fit43 rfl rfl) ?_
          refine l_q rfl (qs_ldC fit43 rfl ha1 rfl (.agg #[.int .i64 x3.X, .int .i64 x3.Y]) rfl) ?_
          refine l_alloc (zs := [.int .i64 0, .int .i64 0]) rfl (by kernel_rfl) (fun b3 => ?_)
          refine l_s (.int .i64 (i1 : Int)) (by kernel_rfl) ?_
          refine l_store (dd := none) (vs := [.int .i64 x3.X, .int .i64 x3.Y]) (cs' := [.int .i64 x3.X, .int .i64 x3.Y]) rfl (by kernel_rfl) (by kernel_rfl) rfl rfl (Nat.le_of_ble_eq_true rfl) rfl rfl ?_
          refine l_nil ?_
          refine e_then ?_
          refine c_seq ?_
          refine c_seq ?_
          obtain ⟨r2, hr2, hs3⟩ := bnd_some hs3
          refine c_quiet ?_
          refine ql_s (.func (.func 23) #[] #[]) (by kernel_rfl) ?_
          refine ql_q rfl (qs_ldpt (encW 2 (by decide)) fitv43 rfl 0 rfl (.agg #[.int .i64 x3.X, .int .i64 x3.Y]) (Nat.le_of_ble_eq_true rfl) rfl) ?_
          refine ql_call (v := .int .i64 r2) rfl (run_call (vs := [.agg #[.int .i64 x3.X, .int .i64 x3.Y]]) rfl Tryz.call23 rfl) (fun w hS => (road_place_s x3 _  _ _ hr2 w (hS)).mono fun e w' h => ⟨h.1, h.2⟩) ?_
          refine ql_s (.int .i64 r2) (by kernel_rfl) ?_
          refine ql_nil ?_
          refine e_then ?_
          refine c_seq ?_
          refine c_quiet ?_
          refine ql_s (.int .i64 r2) (by kernel_rfl) ?_
          refine ql_s (.bool (r2 != 0)) (by kernel_rfl) ?_
          refine ql_nil ?_
          refine e_then ?_
          refine c_cond ((r2 != 0)) rfl (fun ht4 => ?_) (fun ht4 => ?_)
          · skip
            replace hs3 := if_t ht4 hs3
            refine c_seq ?_
            refine c_quiet ?_
            refine ql_s (.int .i64 r2) (by kernel_rfl) ?_
            refine ql_s (.int .i64 r2) (by kernel_rfl) ?_
            refine ql_nil ?_
            refine e_drop ?_
            refine e_then ?_
            refine c_ret ?_
            refine e_then_ret ?_
            refine e_blk_ret ?_
            refine e_then_ret ?_
            obtain rfl := Option.some.inj hs3
            dsimp only at hx1
            refine e_then_ret ?_
            refine e_then_ret ?_
            obtain rfl := Option.some.inj hx1
            obtain rfl := hs2
            refine e_blk_ret ?_
            refine e_then_ret ?_
            dsimp only at hp
            refine e_then_ret ?_
            obtain rfl := Option.some.inj hp
            exact post_all (vs := [.int .i64 r2]) (.int .i64 r2) ⟨rfl, trivial⟩ rfl (.inl rfl) (fun w hS => ⟨rfl, (hS.lower hD1)⟩)
          · skip
            replace hs3 := if_f ht4 hs3
            refine c_skip ?_
            refine e_then ?_
            refine c_seq ?_
            refine c_seq ?_
            refine c_quiet ?_
            refine ql_s (.int .i64 (i1 : Int)) (by kernel_rfl) ?_
            refine ql_s (.bool ((i1 : Int) == 0)) (by kernel_rfl) ?_
            refine ql_nil ?_
            refine e_then ?_
            refine c_cond (((i1 : Int) == 0)) rfl (fun ht5 => ?_) (fun ht5 => ?_)
            · skip
              replace hs3 := if_t ht5 hs3
              refine c_exit ?_
              refine e_then_exit ?_
              refine e_blk_exit ?_
              refine e_drop ?_
              obtain rfl := Option.some.inj hs3
              exact e_cut ⟨(), rfl, ⟨rfl, rfl, rfl, rfl, rfl, trivial⟩, (PH.le_refl _), rfl⟩
            · skip
              replace hs3 := if_f ht5 hs3
              refine c_skip ?_
              refine e_then ?_
              refine c_seq ?_
              obtain ⟨x4, hx3, hs3⟩ := bnd_some hs3
              obtain ⟨b4, o2, h2, hq2⟩ := RO.at way0_h1 hx3
              obtain ⟨cs2, hc2, ha2⟩ := h2.cells
              obtain rfl := hc2
              obtain ⟨r3, hr3, hs3⟩ := bnd_some hs3
              refine c_quiet_draw hmix (by kernel_rfl) ?_
              refine ql_s (.slice way0_v1a way0.length way0_v1c) (by kernel_rfl) ?_
              refine ql_s (.int .i64 (i1 : Int)) (by kernel_rfl) ?_
              refine ql_s (.int .i64 (subI (i1 : Int) 1)) (by kernel_rfl) ?_
              refine ql_q rfl (qs_idx hq2 Tryz.underlying22 fit43 rfl rfl) ?_
              refine ql_q rfl (qs_ldC fit43 rfl ha2 rfl (.agg #[.int .i64 x4.X, .int .i64 x4.Y]) rfl) ?_
              refine ql_q rfl (qs_ldpt (encW 2 (by decide)) fitv43 rfl 0 rfl (.agg #[.int .i64 x3.X, .int .i64 x3.Y]) (Nat.le_of_ble_eq_true rfl) rfl) ?_
              refine ql_call (v := .tuple #[.int .i64 r3.1, .int .i64 r3.2]) rfl (run_call (vs := [.agg #[.int .i64 x4.X, .int .i64 x4.Y], .agg #[.int .i64 x3.X, .int .i64 x3.Y]]) rfl Tryz.call28 rfl) (fun w hS => (road_Between_s x4 x3 _  _ _ hr3 w (hS)).mono fun e w' h => ⟨h.1, h.2⟩) ?_
              refine ql_s (.tuple #[.int .i64 r3.1, .int .i64 r3.2]) (by kernel_rfl) ?_
              refine ql_s (.int .i64 r3.1) (by kernel_rfl) ?_
              refine ql_s (.int .i64 r3.2) (by kernel_rfl) ?_
              refine ql_s (.int .i64 r3.1) (by kernel_rfl) ?_
              refine ql_s (.int .i64 r3.2) (by kernel_rfl) ?_
              refine ql_nil ?_
              refine e_drop ?_
              refine e_then ?_
              refine c_seq ?_
              refine c_cutq_end [(0, .slice way0_v1a way0.length way0_v1c), (1, .func (.func 23) #[] #[]), (16, .slice way0_v1a way0.length way0_v1c), (17, .int .i64 (way0.length : Int)), (18, .int .i64 (i1 : Int)), (46, .bool ((r3.1 == (-1)) || (decide (r3.2 > 12))))] ?_ ?_
              · skip
                refine c_quiet ?_
                refine ql_s (.int .i64 r3.1) (by kernel_rfl) ?_
                refine ql_s (.bool (r3.1 == (-1))) (by kernel_rfl) ?_
                refine ql_s (.bool (r3.1 == (-1))) (by kernel_rfl) ?_
                refine ql_case 43 ((r3.1 == (-1))) rfl (fun hg1 => ?_) (fun hg1 => ?_)
                · skip
                  refine ql_s undef (by kernel_rfl) ?_
                  refine ql_s undef (by kernel_rfl) ?_
                  refine ql_s (.bool true) (by kernel_rfl) ?_
                  refine ql_nil (e_cutq ?_)
                  exact ⟨rfl, rfl, rfl, rfl, rfl, (congrArg Value.bool (by first | rfl | (rw [hg1]; rfl) | simp [hg1])), trivial⟩
                · skip
                  refine ql_s (.int .i64 r3.2) (by kernel_rfl) ?_
                  refine ql_s (.bool (decide (r3.2 > 12))) (by kernel_rfl) ?_
                  refine ql_s (.bool (decide (r3.2 > 12))) (by kernel_rfl) ?_
                  refine ql_nil (e_cutq ?_)
                  exact ⟨rfl, rfl, rfl, rfl, rfl, (congrArg Value.bool (by first | rfl | (rw [hg1]; rfl) | simp [hg1])), trivial⟩
              intro _
              refine e_then ?_
              refine c_cond (((r3.1 == (-1)) || (decide (r3.2 > 12)))) rfl (fun ht6 => ?_) (fun ht6 => ?_)
              · skip
                replace hs3 := if_t ht6 hs3
                refine c_seq ?_
                refine c_quiet ?_
                refine ql_s (.int .i64 2) (by kernel_rfl) ?_
                refine ql_nil ?_
                refine e_then ?_
                refine c_ret ?_
                refine e_blk_ret ?_
                refine e_then_ret ?_
                obtain rfl := Option.some.inj hs3
                dsimp only at hx1
                refine e_then_ret ?_
                refine e_then_ret ?_
                obtain rfl := Option.some.inj hx1
                obtain rfl := hs2
                refine e_blk_ret ?_
                refine e_then_ret ?_
                dsimp only at hp
                refine e_then_ret ?_
                obtain rfl := Option.some.inj hp
                exact post_all (vs := [.int .i64 2]) (.int .i64 2) ⟨rfl, trivial⟩ rfl (.inl rfl) (fun w hS => ⟨rfl, (hS.lower hD1)⟩)
              · skip
                replace hs3 := if_f ht6 hs3
                refine c_skip ?_
                refine e_blk ?_
                obtain rfl := Option.some.inj hs3
                exact e_cut ⟨(), rfl, ⟨rfl, rfl, rfl, rfl, rfl, trivial⟩, (PH.le_refl _), rfl⟩
        · skip
          rintro φ2 D3 As2 ⟨s3, rfl, hI2, hD2, hA2⟩
          subst As2
          replace way0_h1 := way0_h1.mono hD2
          dsimp only at hx1
          refine e_frame _ hI2 ?_
          refine e_then ?_
          refine c_quiet ?_
          refine ql_s (.int .i64 (addI (i1 : Int) 1)) (by kernel_rfl) ?_
          refine ql_s (.int .i64 (addI (i1 : Int) 1)) (by kernel_rfl) ?_
          refine ql_nil ?_
          obtain rfl := Option.some.inj hx1
          exact e_cut ⟨j1, i1 + 1, (), by omega, by omega, ⟨rfl, rfl, rfl, rfl, (congrArg (Value.int .i64) (addI_succ (by omega))), trivial⟩, (PH.le_trans hD1 hD2), rfl, hs2⟩
    · skip
      rintro φ3 D1 As3 ⟨s1, rfl, hI3, hD3, hA3⟩
      subst As3
      dsimp only at hp
      refine e_frame _ hI3 ?_
      refine e_then ?_
      refine c_seq ?_
      refine c_quiet ?_
      refine ql_s (.int .i64 0) (by kernel_rfl) ?_
      refine ql_nil ?_
      refine e_then ?_
      refine c_ret ?_
      obtain rfl := Option.some.inj hp
      exact post_all (vs := [.int .i64 0]) (.int .i64 0) ⟨rfl, trivial⟩ rfl (.inl rfl) (fun w hS => ⟨rfl, (hS.lower hD3)⟩)

-- tarnfell/road.Parse
set_option maxRecDepth 100000 in
set_option maxHeartbeats 2000000 in
theorem road_Parse_s (text0 : ByteArray) (D : PH)  (F : List Assert) (r : (List S_api_Point) × Int) (hp : road_Parse_p text0 = some r) : ∀ w : World, SInv D (F) w → Calls Tryz.prog 5 #[.string text0] w (fun e w' => ∃ (D1 : PH) (q_a1 : Option Addr) (q_cp1 : Nat), PH.le D D1 ∧ e = .returned (.tuple #[.slice q_a1 r.1.length q_cp1, .int .i64 r.2]) ∧ RO encS_api_Point D1 (.slice q_a1 r.1.length q_cp1) r.1 ∧ SInv D1 (F) w') := by
  intro w hS
  refine call_intro Tryz.func5 rfl Tryz.ntmps5 (Nat.le_of_ble_eq_true rfl) hS ?_
  clear hS w
  unfold road_Parse_p at hp
  refine c_seq ?_
  refine c_quiet ?_
  refine ql_s (.slice none 0 0) (by kernel_rfl) ?_
  refine ql_s (.int .i64 0) (by kernel_rfl) ?_
  refine ql_nil ?_
  refine e_then ?_
  refine c_seq ?_
  refine c_seq ?_
  refine c_quiet ?_
  refine ql_s (.string text0) (by kernel_rfl) ?_
  refine ql_q rfl (qs_strLen Tryz.underlying9 rfl) ?_
  refine ql_s (.bool (decide ((text0.size : Int) > 4194304))) (by kernel_rfl) ?_
  refine ql_nil ?_
  refine e_then ?_
  refine c_cond (decide ((text0.size : Int) > 4194304)) rfl (fun ht1 => ?_) (fun ht1 => ?_)
  · skip
    replace hp := if_t ht1 hp
    refine c_seq ?_
    refine c_quiet ?_
    refine ql_s (.slice none 0 0) (by kernel_rfl) ?_
    refine ql_s (.int .i64 4) (by kernel_rfl) ?_
    refine ql_nil ?_
    refine e_then ?_
    refine c_ret ?_
    refine e_then_ret ?_
    obtain rfl := Option.some.inj hp
    exact post_all (vs := [.slice none 0 0, .int .i64 4]) (.tuple #[.slice none 0 0, .int .i64 4]) ⟨rfl, rfl, trivial⟩ rfl (.inl rfl) (fun w hS => ⟨D, none, 0, (PH.le_refl _), rfl, (RO.nil _ _), hS⟩)
  · skip
    replace hp := if_f ht1 hp
    refine c_skip ?_
    refine e_then ?_
    refine c_seq ?_
    obtain ⟨r1, hr1, hp⟩ := bnd_some hp
    refine c_region ?_
    refine l_s (.string text0) (by kernel_rfl) ?_
    refine l_call rfl rfl Tryz.call18 (vs := [.string text0, .string (⟨#[32]⟩ : ByteArray)]) rfl (fun v D2 As2 => ∃ (a2 : Option Addr) (cp2 : Nat), PH.le D D2 ∧ v = .slice a2 r1.length cp2 ∧ RO encStr D2 (.slice a2 r1.length cp2) r1 ∧ As2 = F) (fun w hS => (strings_Split_s text0 (⟨#[32]⟩ : ByteArray) _  _ _ hr1 w (hS)).mono fun e w' ⟨D2, a2, cp2, hle2, he, h2, hS2⟩ => ⟨_, D2, _, he, ⟨a2, cp2, hle2, rfl, h2, rfl⟩, hS2⟩) ?_
    rintro _ D2 As2 ⟨a2, cp2, hle2, rfl, h2, hA2⟩
    subst As2
    refine l_s (.slice a2 r1.length cp2) (by kernel_rfl) ?_
    refine l_nil ?_
    refine e_then ?_
    refine c_seq ?_
    refine c_seq ?_
    refine c_quiet ?_
    refine ql_s (.slice a2 r1.length cp2) (by kernel_rfl) ?_
    refine ql_s (.int .i64 (r1.length : Int)) (by kernel_rfl) ?_
    refine ql_s (.bool (decide ((r1.length : Int) < 2))) (by kernel_rfl) ?_
    refine ql_nil ?_
    refine e_then ?_
    refine c_cond (decide ((r1.length : Int) < 2)) rfl (fun ht2 => ?_) (fun ht2 => ?_)
    · skip
      replace hp := if_t ht2 hp
      refine c_seq ?_
      refine c_quiet ?_
      refine ql_s (.slice none 0 0) (by kernel_rfl) ?_
      refine ql_s (.int .i64 9) (by kernel_rfl) ?_
      refine ql_nil ?_
      refine e_then ?_
      refine c_ret ?_
      refine e_then_ret ?_
      obtain rfl := Option.some.inj hp
      exact post_all (vs := [.slice none 0 0, .int .i64 9]) (.tuple #[.slice none 0 0, .int .i64 9]) ⟨rfl, rfl, trivial⟩ rfl (.inl rfl) (fun w hS => ⟨D2, none, 0, hle2, rfl, (RO.nil _ _), hS⟩)
    · skip
      replace hp := if_f ht2 hp
      refine c_skip ?_
      refine e_then ?_
      refine c_seq ?_
      obtain ⟨x1, hx1, hp⟩ := bnd_some hp
      obtain ⟨b1, o1, h3, hq1⟩ := RO.at h2 hx1
      obtain ⟨r2, hr2, hp⟩ := bnd_some hp
      refine c_quiet ?_
      refine ql_s (.slice a2 r1.length cp2) (by kernel_rfl) ?_
      refine ql_q rfl (qs_idx hq1 Tryz.underlying49 fit9 rfl rfl) ?_
      refine ql_q rfl (qs_ldAtV fit9 rfl h3 valS) ?_
      refine ql_call (v := .tuple #[.int .i64 r2.1, .bool r2.2]) rfl (run_call (vs := [.string x1]) rfl Tryz.call19 rfl) (fun w hS => (field_Integer_s x1 _  _ _ hr2 w (hS)).mono fun e w' h => ⟨h.1, h.2⟩) ?_
      refine ql_s (.tuple #[.int .i64 r2.1, .bool r2.2]) (by kernel_rfl) ?_
      refine ql_s (.int .i64 r2.1) (by kernel_rfl) ?_
      refine ql_s (.bool r2.2) (by kernel_rfl) ?_
      refine ql_s (.int .i64 r2.1) (by kernel_rfl) ?_
      refine ql_s (.bool r2.2) (by kernel_rfl) ?_
      refine ql_nil ?_
      refine e_then ?_
      refine c_seq ?_
      obtain ⟨x2, hx2, hp⟩ := bnd_some hp
      obtain ⟨b2, o2, h4, hq2⟩ := RO.at h2 hx2
      obtain ⟨r3, hr3, hp⟩ := bnd_some hp
      refine c_quiet ?_
      refine ql_s (.slice a2 r1.length cp2) (by kernel_rfl) ?_
      refine ql_q rfl (qs_idx hq2 Tryz.underlying49 fit9 rfl rfl) ?_
      refine ql_q rfl (qs_ldAtV fit9 rfl h4 valS) ?_
      refine ql_call (v := .tuple #[.int .i64 r3.1, .bool r3.2]) rfl (run_call (vs := [.string x2]) rfl Tryz.call19 rfl) (fun w hS => (field_Integer_s x2 _  _ _ hr3 w (hS)).mono fun e w' h => ⟨h.1, h.2⟩) ?_
      refine ql_s (.tuple #[.int .i64 r3.1, .bool r3.2]) (by kernel_rfl) ?_
      refine ql_s (.int .i64 r3.1) (by kernel_rfl) ?_
      refine ql_s (.bool r3.2) (by kernel_rfl) ?_
      refine ql_s (.int .i64 r3.1) (by kernel_rfl) ?_
      refine ql_s (.bool r3.2) (by kernel_rfl) ?_
      refine ql_nil ?_
      refine e_then ?_
      refine c_seq ?_
      refine c_seq ?_
      refine c_cutq_end [(4, .slice a2 r1.length cp2), (5, .int .i64 r2.1), (7, .int .i64 r3.1), (44, .bool ((!r2.2) || (!r3.2)))] ?_ ?_
      · skip
        refine c_quiet ?_
        refine ql_s (.bool r2.2) (by kernel_rfl) ?_
        refine ql_s (.bool (!r2.2)) (by kernel_rfl) ?_
        refine ql_s (.bool (!r2.2)) (by kernel_rfl) ?_
        refine ql_case 41 (!r2.2) rfl (fun hg1 => ?_) (fun hg1 => ?_)
        · skip
          refine ql_s undef (by kernel_rfl) ?_
          refine ql_s undef (by kernel_rfl) ?_
          refine ql_s (.bool true) (by kernel_rfl) ?_
          refine ql_nil (e_cutq ?_)
          exact ⟨rfl, rfl, rfl, (congrArg Value.bool (by first | rfl | (rw [hg1]; rfl) | simp [hg1])), trivial⟩
        · skip
          refine ql_s (.bool r3.2) (by kernel_rfl) ?_
          refine ql_s (.bool (!r3.2)) (by kernel_rfl) ?_
          refine ql_s (.bool (!r3.2)) (by kernel_rfl) ?_
          refine ql_nil (e_cutq ?_)
          exact ⟨rfl, rfl, rfl, (congrArg Value.bool (by first | rfl | (rw [hg1]; rfl) | simp [hg1])), trivial⟩
      intro _
      refine e_then ?_
      refine c_cond (((!r2.2) || (!r3.2))) rfl (fun ht3 => ?_) (fun ht3 => ?_)
      · skip
        replace hp := if_t ht3 hp
        refine c_seq ?_
        refine c_quiet ?_
        refine ql_s (.slice none 0 0) (by kernel_rfl) ?_
        refine ql_s (.int .i64 9) (by kernel_rfl) ?_
        refine ql_nil ?_
        refine e_then ?_
        refine c_ret ?_
        refine e_then_ret ?_
        obtain rfl := Option.some.inj hp
        exact post_all (vs := [.slice none 0 0, .int .i64 9]) (.tuple #[.slice none 0 0, .int .i64 9]) ⟨rfl, rfl, trivial⟩ rfl (.inl rfl) (fun w hS => ⟨D2, none, 0, hle2, rfl, (RO.nil _ _), hS⟩)
      · skip
        replace hp := if_f ht3 hp
        refine c_skip ?_
        refine e_then ?_
        refine c_seq ?_
        refine c_region ?_
        refine l_s (.int .i64 r2.1) (by kernel_rfl) ?_
        refine l_s (.int .i64 r3.1) (by kernel_rfl) ?_
        refine l_s (.agg #[.int .i64 r2.1, .int .i64 r3.1]) (by kernel_rfl) ?_
        refine l_alloc (zs := [.int .i64 0, .int .i64 0]) rfl (by kernel_rfl) (fun b4 => ?_)
        refine l_store (dd := none) (vs := [.int .i64 r2.1, .int .i64 r3.1]) (cs' := [.int .i64 r2.1, .int .i64 r3.1]) rfl (by kernel_rfl) (by kernel_rfl) rfl rfl (Nat.le_of_ble_eq_true rfl) rfl rfl ?_
        refine l_nil ?_
        refine e_then ?_
        refine c_seq ?_
        refine c_region ?_
        refine l_q rfl (qs_ldpt (encW 2 (by decide)) fitv43 rfl 0 rfl (.agg #[.int .i64 r2.1, .int .i64 r3.1]) (Nat.le_of_ble_eq_true rfl) rfl) ?_
        refine l_bslS (cs := [.int .i64 r2.1, .int .i64 r3.1]) (E := 43) (e := encS_api_Point) ([(⟨r2.1, r3.1⟩ : S_api_Point)] : List S_api_Point) rfl (by kernel_rfl) rfl rfl (Nat.le_of_ble_eq_true rfl) ⟨rfl, trivial⟩ (fun b6 cp4 => ?_)
        refine l_s (.slice (some ⟨b6, 0, none⟩) (([(⟨r2.1, r3.1⟩ : S_api_Point)] : List S_api_Point).length) cp4) (by kernel_rfl) ?_
        refine l_nil ?_
        refine e_then ?_
        refine c_seq ?_
        refine c_seq ?_
        obtain ⟨l1, hl1, hp⟩ := bnd_some hp
        obtain ⟨a3, cp5, hv1, h5⟩ := RO.slc h2 hl1
        refine c_quiet ?_
        refine ql_s (.slice a2 r1.length cp2) (by kernel_rfl) ?_
        refine ql_q rfl (qs_slice (e := encStr) Tryz.underlying49 fit9 rfl (RO.cap h2).1 (RO.cap h2).2 ⟨_, rfl⟩ rfl hl1 hv1) ?_
        refine ql_s (.int .i64 (l1.length : Int)) (by kernel_rfl) ?_
        refine ql_s (.int .i64 0) (by kernel_rfl) ?_
        refine ql_nil ?_
        refine e_then ?_
        have hb0 : (l1.length : Int) ≤ 4611686018427387904 := by have := RO.bound h5; omega
        have hm0 : l1.length = (l1.length : Int).toNat := by omega
        have hm1 := hm0; have hb1 := hb0; clear hm0 hb0
        obtain ⟨x3, hs1, hp⟩ := bnd_some hp
        obtain ⟨body1, hbody1, hs1⟩ := forI_gen hs1
        refine c_cut_end (fun φ1 D3 As1 => ∃ (s1 : (List S_api_Point) × Int × Int) (a4 : Option Addr) (cp6 : Nat), x3 = .go s1 ∧ Is φ1 [(10, .slice a4 s1.1.length cp6)] ∧ PH.le D2 D3 ∧ As1 = OwnS D3 encS_api_Point 43 (.slice a4 s1.1.length cp6) s1.1 :: pt b4 [.int .i64 s1.2.1, .int .i64 s1.2.2] 43 :: F) ?_ ?_
        · skip
          refine c_block ?_
          refine c_perm (fr1_perm 1 _) ?_
          refine c_perm (fr1_perm 1 _) ?_
          refine c_loop (fun k φ1 D4 As1 => ∃ (j1 i1 : Nat) (s2 : (List S_api_Point) × Int × Int) (a5 : Option Addr) (cp7 : Nat), k = j1 + 1 ∧ i1 + j1 = l1.length ∧ Is φ1 [(9, .pointer (some ⟨b4, 0, none⟩)), (10, .slice a5 s2.1.length cp7), (51, .slice a3 l1.length cp5), (52, .int .i64 (l1.length : Int)), (53, .int .i64 (i1 : Int))] ∧ PH.le D2 D4 ∧ As1 = OwnS D4 encS_api_Point 43 (.slice a5 s2.1.length cp7) s2.1 :: pt b4 [.int .i64 s2.2.1, .int .i64 s2.2.2] 43 :: F ∧ forI body1 j1 i1 s2 = some x3) ⟨l1.length + 1, l1.length, 0, (([(⟨r2.1, r3.1⟩ : S_api_Point)] : List S_api_Point), r2.1, r3.1), some ⟨b6, 0, none⟩, cp4, rfl, Nat.zero_add _, ⟨rfl, rfl, rfl, rfl, rfl, trivial⟩, (PH.le_refl _), rfl, hs1⟩ ?_ ?_
          · rintro _ _ _ ⟨_, _, _, _, _, h0, _⟩; omega
          intro k1
          rintro φ1 D4 As3 ⟨j1, i1, s2, a5, cp7, hk1, hij1, hI1, hD1, hA3, hs2⟩
          subst As3
          replace h5 := h5.mono hD1
          refine c_frame _ hI1 ?_
          obtain rfl : k1 = j1 := by omega
          clear hk1
          rcases k1 with _ | j1
          · skip
            refine c_seq ?_
            refine c_quiet ?_
            refine ql_s (.bool (decide ((i1 : Int) < (l1.length : Int)))) (by kernel_rfl) ?_
            refine ql_nil ?_
            refine e_then ?_
            refine c_seq ?_
            refine c_cond (decide ((i1 : Int) < (l1.length : Int))) rfl (fun ht4 => absurd ((dec_lt_f hm1 (by omega)).symm.trans ht4) (by simp)) (fun _ => ?_)
            refine c_exit ?_
            refine e_then_exit ?_
            refine e_then_exit ?_
            obtain rfl := Option.some.inj hs2
            refine e_blk_exit ?_
            refine e_perm (fr1_perm 1 _) ?_
            refine e_perm (fr1_perm 1 _) ?_
            exact e_cut ⟨(s2.1, s2.2.1, s2.2.2), a5, cp7, rfl, ⟨rfl, trivial⟩, hD1, rfl⟩
          · skip
            obtain ⟨y1, hx3, hs2⟩ := forI_some hs2
            replace hx3 := (congrFun (congrFun hbody1 i1) s2).trans hx3
            refine c_seq ?_
            refine c_quiet ?_
            refine ql_s (.bool (decide ((i1 : Int) < (l1.length : Int)))) (by kernel_rfl) ?_
            refine ql_nil ?_
            refine e_then ?_
            refine c_seq ?_
            refine c_cond (decide ((i1 : Int) < (l1.length : Int))) rfl (fun _ => ?_) (fun ht5 => absurd ((dec_lt_t hm1 (by omega)).symm.trans ht5) (by simp))
            refine c_skip ?_
            refine e_then ?_
            refine c_seq ?_
            refine c_block ?_
            refine c_seq ?_
            obtain ⟨x4, hx4, hx3⟩ := bnd_some hx3
            obtain ⟨b7, o3, h6, hq3⟩ := RO.at h5 hx4
            refine c_quiet ?_
            refine ql_q rfl (qs_idx hq3 Tryz.underlying49 fit9 rfl rfl) ?_
            refine ql_q rfl (qs_ldAtV fit9 rfl h6 valS) ?_
            refine ql_s (.string x4) (by kernel_rfl) ?_
            refine ql_nil ?_
            refine e_then ?_
            refine c_seq ?_
            obtain ⟨r4, hr4, hx3⟩ := bnd_some hx3
            refine c_quiet ?_
            refine ql_s (.string x4) (by kernel_rfl) ?_
            refine ql_call (v := .tuple #[.int .i64 r4.1, .int .i64 r4.2.1, .bool r4.2.2]) rfl (run_call (vs := [.string x4]) rfl Tryz.call20 rfl) (fun w hS => (road_readStep_s x4 _  _ _ hr4 w (hS)).mono fun e w' h => ⟨h.1, h.2⟩) ?_
            refine ql_s (.tuple #[.int .i64 r4.1, .int .i64 r4.2.1, .bool r4.2.2]) (by kernel_rfl) ?_
            refine ql_s (.int .i64 r4.1) (by kernel_rfl) ?_
            refine ql_s (.int .i64 r4.2.1) (by kernel_rfl) ?_
            refine ql_s (.bool r4.2.2) (by kernel_rfl) ?_
            refine ql_s (.int .i64 r4.1) (by kernel_rfl) ?_
            refine ql_s (.int .i64 r4.2.1) (by kernel_rfl) ?_
            refine ql_s (.bool r4.2.2) (by kernel_rfl) ?_
            refine ql_nil ?_
            refine e_then ?_
            refine c_seq ?_
            refine c_seq ?_
            refine c_quiet ?_
            refine ql_s (.bool r4.2.2) (by kernel_rfl) ?_
            refine ql_s (.bool (!r4.2.2)) (by kernel_rfl) ?_
            refine ql_nil ?_
            refine e_then ?_
            refine c_cond (!r4.2.2) rfl (fun ht6 => ?_) (fun ht6 => ?_)
            · skip
              replace hx3 := if_t ht6 hx3
              refine c_seq ?_
              refine c_quiet ?_
              refine ql_s (.slice none 0 0) (by kernel_rfl) ?_
              refine ql_s (.int .i64 9) (by kernel_rfl) ?_
              refine ql_nil ?_
              refine e_drop ?_
              refine e_drop ?_
              refine e_then ?_
              refine c_ret ?_
              refine e_then_ret ?_
              refine e_blk_ret ?_
              refine e_then_ret ?_
              refine e_then_ret ?_
              obtain rfl := Option.some.inj hx3
              obtain rfl := hs2
              refine e_blk_ret ?_
              refine e_then_ret ?_
              dsimp only at hp
              refine e_then_ret ?_
              obtain rfl := Option.some.inj hp
              exact post_all (vs := [.slice none 0 0, .int .i64 9]) (.tuple #[.slice none 0 0, .int .i64 9]) ⟨rfl, rfl, trivial⟩ rfl (.inl rfl) (fun w hS => ⟨D4, none, 0, (PH.le_trans hle2 hD1), rfl, (RO.nil _ _), hS⟩)
            · skip
              replace hx3 := if_f ht6 hx3
              refine c_skip ?_
              refine e_then ?_
              refine c_seq ?_
              obtain ⟨r5, hr5, hx3⟩ := bnd_some hx3
              refine c_cut_end (fun φ1 D1 As1 => Is φ1 [(9, .pointer (some ⟨b4, 0, none⟩)), (10, .slice a5 s2.1.length cp7), (51, .slice a3 l1.length cp5), (52, .int .i64 (l1.length : Int)), (53, .int .i64 (i1 : Int))] ∧ D4 = D1 ∧ As1 = OwnS D4 encS_api_Point 43 (.slice a5 s2.1.length cp7) s2.1 :: pt b4 [.int .i64 (addI s2.2.1 (mulI r4.2.1 r5.X)), .int .i64 (addI s2.2.2 (mulI r4.2.1 r5.Y))] 43 :: F) ?_ ?_
              · skip
                refine c_order (B := [OwnS D4 encS_api_Point 43 (.slice a5 s2.1.length cp7) s2.1]) (.q 0 (.q 2 (.q 3 (.q 4 (.q 5 (.q 6 (.q 8 (.q 10 (.q 11 (.q 12 (.q 13 (.q 14 (.f 1 (.q 7 (.e 9 (.q 15 (.q 16 (.e 17 .nil))))) (.e 9 (.q 15 (.e 1 (.q 7 (.q 16 (.e 17 .nil))))))))))))))))))) hmix (by kernel_rfl) (NoPanic.then (NoPanic.then (NoPanic.blk (NoPanic.then (NoPanic.then (NoPanic.blk (NoPanic.then (NoPanic.then NoPanic.post)))))))) ?_
                refine o_s (.pointer (some ⟨b4, 0, none⟩)) rfl (by kernel_rfl) ?_
                refine o_s (.int .i64 r4.2.1) rfl (by kernel_rfl) ?_
                refine o_s (.int .i64 r4.1) rfl (by kernel_rfl) ?_
                refine o_call (v := .agg #[.int .i64 r5.X, .int .i64 r5.Y]) rfl rfl (run_call (vs := [.int .i64 r4.1]) rfl Tryz.call21 rfl) (fun D' R' hD w hS => (water_Toward_s r4.1 _  _ _ hr5 w (hS)).mono fun e w' h => ⟨h.1, h.2⟩) ?_
                refine o_s (.int .i64 r5.X) rfl (by kernel_rfl) ?_
                refine o_s (.int .i64 (mulI r4.2.1 r5.X)) rfl (by kernel_rfl) ?_
                refine o_s (.pointer (some ⟨b4, 1, none⟩)) rfl (by kernel_rfl) ?_
                refine o_s (.int .i64 r4.2.1) rfl (by kernel_rfl) ?_
                refine o_s (.int .i64 r4.1) rfl (by kernel_rfl) ?_
                refine o_call (v := .agg #[.int .i64 r5.X, .int .i64 r5.Y]) rfl rfl (run_call (vs := [.int .i64 r4.1]) rfl Tryz.call21 rfl) (fun D' R' hD w hS => (water_Toward_s r4.1 _  _ _ hr5 w (hS)).mono fun e w' h => ⟨h.1, h.2⟩) ?_
                refine o_s (.int .i64 r5.Y) rfl (by kernel_rfl) ?_
                refine o_s (.int .i64 (mulI r4.2.1 r5.Y)) rfl (by kernel_rfl) ?_
                refine o_f ?_ ?_
                · skip
                  refine o_qe rfl rfl (PH.le_refl _) (qs_ldpt encV fitv3 rfl 1 rfl (.int .i64 s2.2.1) (Nat.le_of_ble_eq_true rfl) rfl) ?_
                  refine o_s (.int .i64 (addI s2.2.1 (mulI r4.2.1 r5.X))) rfl (by kernel_rfl) ?_
                  refine o_qe rfl rfl (PH.le_refl _) (qs_ldpt encV fitv3 rfl 1 rfl (.int .i64 s2.2.2) (Nat.le_of_ble_eq_true rfl) rfl) ?_
                  refine o_s (.int .i64 (addI s2.2.2 (mulI r4.2.1 r5.Y))) rfl (by kernel_rfl) ?_
                  refine o_s (.agg #[.int .i64 (addI s2.2.1 (mulI r4.2.1 r5.X)), .int .i64 (addI s2.2.2 (mulI r4.2.1 r5.Y))]) rfl (by kernel_rfl) ?_
                  refine o_store (vs := [.int .i64 (addI s2.2.1 (mulI r4.2.1 r5.X)), .int .i64 (addI s2.2.2 (mulI r4.2.1 r5.Y))]) (cs' := [.int .i64 (addI s2.2.1 (mulI r4.2.1 r5.X)), .int .i64 (addI s2.2.2 (mulI r4.2.1 r5.Y))]) rfl rfl (PH.le_refl _) (by kernel_rfl) (by kernel_rfl) rfl rfl (Nat.le_of_ble_eq_true rfl) rfl rfl ?_
                  refine o_nil ?_
                  refine e_perm (fr1_perm 1 _) ?_
                  refine e_perm (fr1_perm 1 _) ?_
                  exact e_cut ⟨⟨rfl, rfl, rfl, rfl, rfl, trivial⟩, rfl, rfl⟩
                refine o_qe rfl rfl (PH.le_refl _) (qs_ldpt encV fitv3 rfl 1 rfl (.int .i64 s2.2.2) (Nat.le_of_ble_eq_true rfl) rfl) ?_
                refine o_s (.int .i64 (addI s2.2.2 (mulI r4.2.1 r5.Y))) rfl (by kernel_rfl) ?_
                refine o_qe rfl rfl (PH.le_refl _) (qs_ldpt encV fitv3 rfl 1 rfl (.int .i64 s2.2.1) (Nat.le_of_ble_eq_true rfl) rfl) ?_
                refine o_s (.int .i64 (addI s2.2.1 (mulI r4.2.1 r5.X))) rfl (by kernel_rfl) ?_
                refine o_s (.agg #[.int .i64 (addI s2.2.1 (mulI r4.2.1 r5.X)), .int .i64 (addI s2.2.2 (mulI r4.2.1 r5.Y))]) rfl (by kernel_rfl) ?_
                refine o_store (vs := [.int .i64 (addI s2.2.1 (mulI r4.2.1 r5.X)), .int .i64 (addI s2.2.2 (mulI r4.2.1 r5.Y))]) (cs' := [.int .i64 (addI s2.2.1 (mulI r4.2.1 r5.X)), .int .i64 (addI s2.2.2 (mulI r4.2.1 r5.Y))]) rfl rfl (PH.le_refl _) (by kernel_rfl) (by kernel_rfl) rfl rfl (Nat.le_of_ble_eq_true rfl) rfl rfl ?_
                refine o_nil ?_
                refine e_perm (fr1_perm 1 _) ?_
                refine e_perm (fr1_perm 1 _) ?_
                exact e_cut ⟨⟨rfl, rfl, rfl, rfl, rfl, trivial⟩, rfl, rfl⟩
              · skip
                rintro φ2 _ As4 ⟨hI2, rfl, hA⟩
                subst As4
                refine e_frame _ hI2 ?_
                refine e_then ?_
                obtain ⟨l2, hl2, hx3⟩ := bnd_some hx3
                refine c_region ?_
                refine l_s (.slice a5 s2.1.length cp7) (by kernel_rfl) ?_
                refine l_q rfl (qs_ldpt (encW 2 (by decide)) fitv43 rfl 1 rfl (.agg #[.int .i64 (addI s2.2.1 (mulI r4.2.1 r5.X)), .int .i64 (addI s2.2.2 (mulI r4.2.1 r5.Y))]) (Nat.le_of_ble_eq_true rfl) rfl) ?_
                refine l_bslS (cs := [.int .i64 (addI s2.2.1 (mulI r4.2.1 r5.X)), .int .i64 (addI s2.2.2 (mulI r4.2.1 r5.Y))]) (E := 43) (e := encS_api_Point) ([(⟨addI s2.2.1 (mulI r4.2.1 r5.X), addI s2.2.2 (mulI r4.2.1 r5.Y)⟩ : S_api_Point)] : List S_api_Point) rfl (by kernel_rfl) rfl rfl (Nat.le_of_ble_eq_true rfl) ⟨rfl, trivial⟩ (fun b9 cp10 => ?_)
                refine l_perm (fr1_perm 1 _) ?_
                refine l_app hl2 rfl elem22 Tryz.underlying22 rfl rfl rfl (OwnS.src 1 rfl ⟨_, _, rfl⟩) (fun a7 cp11 => ?_)
                refine l_s (.slice a7 l2.length cp11) (by kernel_rfl) ?_
                refine l_nil ?_
                refine e_perm (fr1_perm 1 _) ?_
                refine e_drop ?_
                refine e_blk ?_
                refine e_then ?_
                refine c_quiet ?_
                refine ql_s (.int .i64 (addI (i1 : Int) 1)) (by kernel_rfl) ?_
                refine ql_s (.int .i64 (addI (i1 : Int) 1)) (by kernel_rfl) ?_
                refine ql_nil ?_
                refine e_perm (fr1_perm 1 _) ?_
                refine e_perm (fr1_perm 1 _) ?_
                obtain rfl := Option.some.inj hx3
                exact e_cut ⟨j1, i1 + 1, (l2, addI s2.2.1 (mulI r4.2.1 r5.X), addI s2.2.2 (mulI r4.2.1 r5.Y)), a7, cp11, by omega, by omega, ⟨rfl, rfl, rfl, rfl, (congrArg (Value.int .i64) (addI_succ (by omega))), trivial⟩, hD1, rfl, hs2⟩
        · skip
          rintro φ3 D3 As5 ⟨s1, a4, cp6, rfl, hI3, hD2, hA4⟩
          subst As5
          dsimp only at hp
          refine e_frame _ hI3 ?_
          refine e_then ?_
          refine c_seq ?_
          refine c_seq ?_
          obtain ⟨r6, hr6, hp⟩ := bnd_some hp
          refine c_quiet ?_
          refine ql_s (.slice a4 s1.1.length cp6) (by kernel_rfl) ?_
          refine ql_call (v := .int .i64 r6) rfl (run_call (vs := [.slice a4 s1.1.length cp6, .func (.func 23) #[] #[]]) rfl Tryz.call22 rfl) (fun w hS => (calls_thaw (PH.le_refl _) (hS) (fun D0' hLl0 hLr0 hS => (road_checkWay_s s1.1 a4 cp6 _ hLr0 _ _ hr6 w (hS)).mono fun e w' h => ⟨h.1, h.2⟩)).mono fun e w' h => ⟨h.1, h.2⟩) ?_
          refine ql_s (.int .i64 r6) (by kernel_rfl) ?_
          refine ql_nil ?_
          refine e_perm (fr1_perm 1 _) ?_
          refine e_drop ?_
          refine e_then ?_
          refine c_seq ?_
          refine c_quiet ?_
          refine ql_s (.int .i64 r6) (by kernel_rfl) ?_
          refine ql_s (.bool (r6 != 0)) (by kernel_rfl) ?_
          refine ql_nil ?_
          refine e_then ?_
          refine c_cond ((r6 != 0)) rfl (fun ht7 => ?_) (fun ht7 => ?_)
          · skip
            replace hp := if_t ht7 hp
            refine c_seq ?_
            refine c_quiet ?_
            refine ql_s (.int .i64 r6) (by kernel_rfl) ?_
            refine ql_s (.slice none 0 0) (by kernel_rfl) ?_
            refine ql_s (.int .i64 r6) (by kernel_rfl) ?_
            refine ql_nil ?_
            refine e_drop ?_
            refine e_then ?_
            refine c_ret ?_
            refine e_then_ret ?_
            obtain rfl := Option.some.inj hp
            exact post_all (vs := [.slice none 0 0, .int .i64 r6]) (.tuple #[.slice none 0 0, .int .i64 r6]) ⟨rfl, rfl, trivial⟩ rfl (.inl rfl) (fun w hS => ⟨D3, none, 0, (PH.le_trans hle2 hD2), rfl, (RO.nil _ _), hS⟩)
          · skip
            replace hp := if_f ht7 hp
            refine c_skip ?_
            refine e_then ?_
            refine c_seq ?_
            refine c_quiet ?_
            refine ql_s (.slice a4 s1.1.length cp6) (by kernel_rfl) ?_
            refine ql_s (.slice a4 s1.1.length cp6) (by kernel_rfl) ?_
            refine ql_s (.int .i64 0) (by kernel_rfl) ?_
            refine ql_nil ?_
            refine e_then ?_
            refine c_ret ?_
            refine e_layS (PH.le_refl _) (fun D5 hle3 h7 => ?_)
            obtain rfl := Option.some.inj hp
            exact post_all (vs := [.slice a4 s1.1.length cp6, .int .i64 0]) (.tuple #[.slice a4 s1.1.length cp6, .int .i64 0]) ⟨rfl, rfl, trivial⟩ rfl (.inl rfl) (fun w hS => ⟨D5, a4, cp6, (PH.le_trans (PH.le_trans hle2 hD2) hle3), rfl, h7, hS⟩)

-- tarnfell/field.side
set_option maxRecDepth 100000 in
set_option maxHeartbeats 2000000 in
theorem field_side_s (n0 : Int) (D : PH)  (F : List Assert) (r : Bool) (hp : field_side_p n0 = some r) : ∀ w : World, SInv D (F) w → Calls Tryz.prog 105 #[.int .i64 n0] w (fun e w' => e = .returned (.bool r) ∧ SInv D (F) w') := by
  intro w hS
  refine call_intro Tryz.func105 rfl Tryz.ntmps105 (Nat.le_of_ble_eq_true rfl) hS ?_
  clear hS w
  unfold field_side_p at hp
  refine c_seq ?_
  refine c_quiet ?_
  refine ql_s (.bool false) (by kernel_rfl) ?_
  refine ql_nil ?_
  refine e_then ?_
  refine c_seq ?_
  refine c_cutq_end [(2, .bool ((decide (n0 ≥ 1)) && (decide (n0 ≤ 512))))] ?_ ?_
  · skip
    refine c_quiet ?_
    refine ql_s (.int .i64 n0) (by kernel_rfl) ?_
    refine ql_s (.bool (decide (n0 ≥ 1))) (by kernel_rfl) ?_
    refine ql_s (.bool (decide (n0 ≥ 1))) (by kernel_rfl) ?_
    refine ql_case 5 (decide (n0 ≥ 1)) rfl (fun hg1 => ?_) (fun hg1 => ?_)
    · skip
      refine ql_s (.int .i64 n0) (by kernel_rfl) ?_
      refine ql_s (.bool (decide (n0 ≤ 512))) (by kernel_rfl) ?_
      refine ql_s (.bool (decide (n0 ≤ 512))) (by kernel_rfl) ?_
      refine ql_s (.bool (decide (n0 ≤ 512))) (by kernel_rfl) ?_
      refine ql_nil (e_cutq ?_)
      exact ⟨(congrArg Value.bool (by first | rfl | (rw [hg1]; rfl) | simp [hg1])), trivial⟩
    · skip
      refine ql_s undef (by kernel_rfl) ?_
      refine ql_s undef (by kernel_rfl) ?_
      refine ql_s (.bool false) (by kernel_rfl) ?_
      refine ql_s (.bool false) (by kernel_rfl) ?_
      refine ql_nil (e_cutq ?_)
      exact ⟨(congrArg Value.bool (by first | rfl | (rw [hg1]; rfl) | simp [hg1])), trivial⟩
  intro _
  refine e_then ?_
  refine c_ret ?_
  obtain rfl := Option.some.inj hp
  exact post_all (vs := [.bool ((decide (n0 ≥ 1)) && (decide (n0 ≤ 512)))]) (.bool ((decide (n0 ≥ 1)) && (decide (n0 ≤ 512)))) ⟨rfl, trivial⟩ rfl (.inl rfl) (fun w hS => ⟨rfl, hS⟩)

-- tarnfell/field.CheckRegion
set_option maxRecDepth 100000 in
set_option maxHeartbeats 2000000 in
theorem field_CheckRegion_s (r0 : S_api_Region) (D : PH)  (F : List Assert) (r : Int) (hp : field_CheckRegion_p r0 = some r) : ∀ w : World, SInv D (F) w → Calls Tryz.prog 80 #[.agg #[.int .i64 r0.X, .int .i64 r0.Y, .int .i64 r0.W, .int .i64 r0.H]] w (fun e w' => e = .returned (.int .i64 r) ∧ SInv D (F) w') := by
  intro w hS
  refine call_intro Tryz.func80 rfl Tryz.ntmps80 (Nat.le_of_ble_eq_true rfl) hS ?_
  clear hS w
  unfold field_CheckRegion_p at hp
  refine c_seq ?_
  refine c_region ?_
  refine l_box (cs := [.int .i64 r0.X, .int .i64 r0.Y, .int .i64 r0.W, .int .i64 r0.H]) rfl rfl (fun b2 => ?_)
  refine l_s (.int .i64 0) (by kernel_rfl) ?_
  refine l_nil ?_
  refine e_then ?_
  refine c_seq ?_
  refine c_block ?_
  refine c_seq ?_
  obtain ⟨c1, hc1, hp⟩ := bnd_some hp
  refine c_cutq_end [(1, .pointer (some ⟨b2, 0, none⟩)), (3, .bool c1)] ?_ ?_
  · skip
    refine c_quiet ?_
    refine ql_s (.pointer (some ⟨b2, 2, none⟩)) (by kernel_rfl) ?_
    refine ql_q rfl (qs_ldpt encV fitv3 rfl 0 rfl (.int .i64 r0.W) (Nat.le_of_ble_eq_true rfl) rfl) ?_
    obtain ⟨r1, hr1, hc1⟩ := bnd_some hc1
    refine ql_call (v := .bool r1) rfl (run_call (vs := [.int .i64 r0.W]) rfl Tryz.call105 rfl) (fun w hS => (field_side_s r0.W _  _ _ hr1 w (hS)).mono fun e w' h => ⟨h.1, h.2⟩) ?_
    refine ql_s (.bool (!r1)) (by kernel_rfl) ?_
    refine ql_s (.bool (!r1)) (by kernel_rfl) ?_
    refine ql_case 8 (!r1) rfl (fun hg1 => ?_) (fun hg1 => ?_)
    · skip
      replace hc1 := if_t hg1 hc1
      refine ql_s undef (by kernel_rfl) ?_
      refine ql_s undef (by kernel_rfl) ?_
      refine ql_s undef (by kernel_rfl) ?_
      refine ql_s undef (by kernel_rfl) ?_
      refine ql_s (.bool true) (by kernel_rfl) ?_
      refine ql_s (.bool true) (by kernel_rfl) ?_
      refine ql_nil (e_cutq ?_)
      obtain rfl := Option.some.inj hc1
      exact ⟨rfl, rfl, trivial⟩
    · skip
      replace hc1 := if_f hg1 hc1
      refine ql_s (.pointer (some ⟨b2, 3, none⟩)) (by kernel_rfl) ?_
      refine ql_q rfl (qs_ldpt encV fitv3 rfl 0 rfl (.int .i64 r0.H) (Nat.le_of_ble_eq_true rfl) rfl) ?_
      obtain ⟨r2, hr2, hc1⟩ := bnd_some hc1
      refine ql_call (v := .bool r2) rfl (run_call (vs := [.int .i64 r0.H]) rfl Tryz.call105 rfl) (fun w hS => (field_side_s r0.H _  _ _ hr2 w (hS)).mono fun e w' h => ⟨h.1, h.2⟩) ?_
      refine ql_s (.bool (!r2)) (by kernel_rfl) ?_
      refine ql_s (.bool (!r2)) (by kernel_rfl) ?_
      refine ql_s (.bool (!r2)) (by kernel_rfl) ?_
      refine ql_nil (e_cutq ?_)
      obtain rfl := Option.some.inj hc1
      exact ⟨rfl, rfl, trivial⟩
  intro _
  refine e_then ?_
  refine c_cond (c1) rfl (fun ht1 => ?_) (fun ht1 => ?_)
  · skip
    replace hp := if_t ht1 hp
    refine c_seq ?_
    refine c_quiet ?_
    refine ql_s (.int .i64 3) (by kernel_rfl) ?_
    refine ql_nil ?_
    refine e_drop ?_
    refine e_then ?_
    refine c_ret ?_
    refine e_blk_ret ?_
    refine e_then_ret ?_
    obtain rfl := Option.some.inj hp
    exact post_all (vs := [.int .i64 3]) (.int .i64 3) ⟨rfl, trivial⟩ rfl (.inl rfl) (fun w hS => ⟨rfl, hS⟩)
  · skip
    replace hp := if_f ht1 hp
    refine c_seq ?_
    refine c_quiet ?_
    refine ql_s (.pointer (some ⟨b2, 2, none⟩)) (by kernel_rfl) ?_
    refine ql_q rfl (qs_ldpt encV fitv3 rfl 0 rfl (.int .i64 r0.W) (Nat.le_of_ble_eq_true rfl) rfl) ?_
    refine ql_s (.pointer (some ⟨b2, 3, none⟩)) (by kernel_rfl) ?_
    refine ql_q rfl (qs_ldpt encV fitv3 rfl 0 rfl (.int .i64 r0.H) (Nat.le_of_ble_eq_true rfl) rfl) ?_
    refine ql_s (.int .i64 (mulI r0.W r0.H)) (by kernel_rfl) ?_
    refine ql_s (.bool (decide ((mulI r0.W r0.H) > 65536))) (by kernel_rfl) ?_
    refine ql_s (.bool (decide ((mulI r0.W r0.H) > 65536))) (by kernel_rfl) ?_
    refine ql_nil ?_
    refine e_then ?_
    refine c_cond (decide ((mulI r0.W r0.H) > 65536)) rfl (fun ht2 => ?_) (fun ht2 => ?_)
    · skip
      replace hp := if_t ht2 hp
      refine c_seq ?_
      refine c_quiet ?_
      refine ql_s (.int .i64 4) (by kernel_rfl) ?_
      refine ql_nil ?_
      refine e_drop ?_
      refine e_then ?_
      refine c_ret ?_
      refine e_blk_ret ?_
      refine e_then_ret ?_
      obtain rfl := Option.some.inj hp
      exact post_all (vs := [.int .i64 4]) (.int .i64 4) ⟨rfl, trivial⟩ rfl (.inl rfl) (fun w hS => ⟨rfl, hS⟩)
    · skip
      replace hp := if_f ht2 hp
      refine c_seq ?_
      refine c_cutq_end [(21, .bool ((decide (r0.X < (-4194304))) || ((decide (r0.Y < (-4194304))) || ((decide (r0.X > (subI 4194304 r0.W))) || (decide (r0.Y > (subI 4194304 r0.H)))))))] ?_ ?_
      · skip
        refine c_quiet ?_
        refine ql_s (.pointer (some ⟨b2, 0, none⟩)) (by kernel_rfl) ?_
        refine ql_q rfl (qs_ldpt encV fitv3 rfl 0 rfl (.int .i64 r0.X) (Nat.le_of_ble_eq_true rfl) rfl) ?_
        refine ql_s (.bool (decide (r0.X < (-4194304)))) (by kernel_rfl) ?_
        refine ql_s (.bool (decide (r0.X < (-4194304)))) (by kernel_rfl) ?_
        refine ql_case 25 (decide (r0.X < (-4194304))) rfl (fun hg2 => ?_) (fun hg2 => ?_)
        · skip
          refine ql_s undef (by kernel_rfl) ?_
          refine ql_s undef (by kernel_rfl) ?_
          refine ql_s undef (by kernel_rfl) ?_
          refine ql_s (.bool true) (by kernel_rfl) ?_
          refine ql_s (.bool true) (by kernel_rfl) ?_
          refine ql_s undef (by kernel_rfl) ?_
          refine ql_s undef (by kernel_rfl) ?_
          refine ql_s undef (by kernel_rfl) ?_
          refine ql_s undef (by kernel_rfl) ?_
          refine ql_s undef (by kernel_rfl) ?_
          refine ql_s undef (by kernel_rfl) ?_
          refine ql_s (.bool true) (by kernel_rfl) ?_
          refine ql_s (.bool true) (by kernel_rfl) ?_
          refine ql_s undef (by kernel_rfl) ?_
          refine ql_s undef (by kernel_rfl) ?_
          refine ql_s undef (by kernel_rfl) ?_
          refine ql_s undef (by kernel_rfl) ?_
          refine ql_s undef (by kernel_rfl) ?_
          refine ql_s undef (by kernel_rfl) ?_
          refine ql_s (.bool true) (by kernel_rfl) ?_
          refine ql_s (.bool true) (by kernel_rfl) ?_
          refine ql_nil (e_cutq ?_)
          exact ⟨(congrArg Value.bool (by first | rfl | (rw [hg2]; rfl) | simp [hg2])), trivial⟩
        · skip
          refine ql_s (.pointer (some ⟨b2, 1, none⟩)) (by kernel_rfl) ?_
          refine ql_q rfl (qs_ldpt encV fitv3 rfl 0 rfl (.int .i64 r0.Y) (Nat.le_of_ble_eq_true rfl) rfl) ?_
          refine ql_s (.bool (decide (r0.Y < (-4194304)))) (by kernel_rfl) ?_
          refine ql_s (.bool (decide (r0.Y < (-4194304)))) (by kernel_rfl) ?_
          refine ql_s (.bool (decide (r0.Y < (-4194304)))) (by kernel_rfl) ?_
          refine ql_case 30 (decide (r0.Y < (-4194304))) rfl (fun hg3 => ?_) (fun hg3 => ?_)
          · skip
            refine ql_s undef (by kernel_rfl) ?_
            refine ql_s undef (by kernel_rfl) ?_
            refine ql_s undef (by kernel_rfl) ?_
            refine ql_s undef (by kernel_rfl) ?_
            refine ql_s undef (by kernel_rfl) ?_
            refine ql_s undef (by kernel_rfl) ?_
            refine ql_s (.bool true) (by kernel_rfl) ?_
            refine ql_s (.bool true) (by kernel_rfl) ?_
            refine ql_s undef (by kernel_rfl) ?_
            refine ql_s undef (by kernel_rfl) ?_
            refine ql_s undef (by kernel_rfl) ?_
            refine ql_s undef (by kernel_rfl) ?_
            refine ql_s undef (by kernel_rfl) ?_
            refine ql_s undef (by kernel_rfl) ?_
            refine ql_s (.bool true) (by kernel_rfl) ?_
            refine ql_s (.bool true) (by kernel_rfl) ?_
            refine ql_nil (e_cutq ?_)
            exact ⟨(congrArg Value.bool (by first | rfl | (rw [hg2, hg3]; rfl) | simp [hg2, hg3])), trivial⟩
          · skip
            refine ql_s (.pointer (some ⟨b2, 0, none⟩)) (by kernel_rfl) ?_
            refine ql_q rfl (qs_ldpt encV fitv3 rfl 0 rfl (.int .i64 r0.X) (Nat.le_of_ble_eq_true rfl) rfl) ?_
            refine ql_s (.pointer (some ⟨b2, 2, none⟩)) (by kernel_rfl) ?_
            refine ql_q rfl (qs_ldpt encV fitv3 rfl 0 rfl (.int .i64 r0.W) (Nat.le_of_ble_eq_true rfl) rfl) ?_
            refine ql_s (.int .i64 (subI 4194304 r0.W)) (by kernel_rfl) ?_
            refine ql_s (.bool (decide (r0.X > (subI 4194304 r0.W)))) (by kernel_rfl) ?_
            refine ql_s (.bool (decide (r0.X > (subI 4194304 r0.W)))) (by kernel_rfl) ?_
            refine ql_s (.bool (decide (r0.X > (subI 4194304 r0.W)))) (by kernel_rfl) ?_
            refine ql_case 38 (decide (r0.X > (subI 4194304 r0.W))) rfl (fun hg4 => ?_) (fun hg4 => ?_)
            · skip
              refine ql_s undef (by kernel_rfl) ?_
              refine ql_s undef (by kernel_rfl) ?_
              refine ql_s undef (by kernel_rfl) ?_
              refine ql_s undef (by kernel_rfl) ?_
              refine ql_s undef (by kernel_rfl) ?_
              refine ql_s undef (by kernel_rfl) ?_
              refine ql_s (.bool true) (by kernel_rfl) ?_
              refine ql_s (.bool true) (by kernel_rfl) ?_
              refine ql_nil (e_cutq ?_)
              exact ⟨(congrArg Value.bool (by first | rfl | (rw [hg2, hg3, hg4]; rfl) | simp [hg2, hg3, hg4])), trivial⟩
            · skip
              refine ql_s (.pointer (some ⟨b2, 1, none⟩)) (by kernel_rfl) ?_
              refine ql_q rfl (qs_ldpt encV fitv3 rfl 0 rfl (.int .i64 r0.Y) (Nat.le_of_ble_eq_true rfl) rfl) ?_
              refine ql_s (.pointer (some ⟨b2, 3, none⟩)) (by kernel_rfl) ?_
              refine ql_q rfl (qs_ldpt encV fitv3 rfl 0 rfl (.int .i64 r0.H) (Nat.le_of_ble_eq_true rfl) rfl) ?_
              refine ql_s (.int .i64 (subI 4194304 r0.H)) (by kernel_rfl) ?_
              refine ql_s (.bool (decide (r0.Y > (subI 4194304 r0.H)))) (by kernel_rfl) ?_
              refine ql_s (.bool (decide (r0.Y > (subI 4194304 r0.H)))) (by kernel_rfl) ?_
              refine ql_s (.bool (decide (r0.Y > (subI 4194304 r0.H)))) (by kernel_rfl) ?_
              refine ql_nil (e_cutq ?_)
              exact ⟨(congrArg Value.bool (by first | rfl | (rw [hg2, hg3, hg4]; rfl) | simp [hg2, hg3, hg4])), trivial⟩
      intro _
      refine e_then ?_
      refine c_cond (((decide (r0.X < (-4194304))) || ((decide (r0.Y < (-4194304))) || ((decide (r0.X > (subI 4194304 r0.W))) || (decide (r0.Y > (subI 4194304 r0.H))))))) rfl (fun ht3 => ?_) (fun ht3 => ?_)
      · skip
        replace hp := if_t ht3 hp
        refine c_seq ?_
        refine c_quiet ?_
        refine ql_s (.int .i64 5) (by kernel_rfl) ?_
        refine ql_nil ?_
        refine e_drop ?_
        refine e_then ?_
        refine c_ret ?_
        refine e_blk_ret ?_
        refine e_then_ret ?_
        obtain rfl := Option.some.inj hp
        exact post_all (vs := [.int .i64 5]) (.int .i64 5) ⟨rfl, trivial⟩ rfl (.inl rfl) (fun w hS => ⟨rfl, hS⟩)
      · skip
        replace hp := if_f ht3 hp
        refine c_skip ?_
        refine e_blk ?_
        refine e_then ?_
        refine c_seq ?_
        refine c_quiet ?_
        refine ql_s (.int .i64 0) (by kernel_rfl) ?_
        refine ql_nil ?_
        refine e_drop ?_
        refine e_then ?_
        refine c_ret ?_
        obtain rfl := Option.some.inj hp
        exact post_all (vs := [.int .i64 0]) (.int .i64 0) ⟨rfl, trivial⟩ rfl (.inl rfl) (fun w hS => ⟨rfl, hS⟩)

-- tarnfell/field.finite
set_option maxRecDepth 100000 in
set_option maxHeartbeats 2000000 in
theorem field_finite_s (v0 : Nat) (D : PH)  (F : List Assert) (r : Bool) (hp : field_finite_p v0 = some r) : ∀ w : World, SInv D (F) w → Calls Tryz.prog 106 #[.float .f32 v0] w (fun e w' => e = .returned (.bool r) ∧ SInv D (F) w') := by
  intro w hS
  refine call_intro Tryz.func106 rfl Tryz.ntmps106 (Nat.le_of_ble_eq_true rfl) hS ?_
  clear hS w
  unfold field_finite_p at hp
  refine c_seq ?_
  refine c_quiet ?_
  refine ql_s (.bool false) (by kernel_rfl) ?_
  refine ql_nil ?_
  refine e_then ?_
  refine c_seq ?_
  refine c_cutq_end [(2, .bool ((fge .f32 v0 4286578687) && (fle .f32 v0 2139095039)))] ?_ ?_
  · skip
    refine c_quiet ?_
    refine ql_s (.float .f32 v0) (by kernel_rfl) ?_
    refine ql_s (.bool (fge .f32 v0 4286578687)) (by kernel_rfl) ?_
    refine ql_s (.bool (fge .f32 v0 4286578687)) (by kernel_rfl) ?_
    refine ql_case 5 (fge .f32 v0 4286578687) rfl (fun hg1 => ?_) (fun hg1 => ?_)
    · skip
      refine ql_s (.float .f32 v0) (by kernel_rfl) ?_
      refine ql_s (.bool (fle .f32 v0 2139095039)) (by kernel_rfl) ?_
      refine ql_s (.bool (fle .f32 v0 2139095039)) (by kernel_rfl) ?_
      refine ql_s (.bool (fle .f32 v0 2139095039)) (by kernel_rfl) ?_
      refine ql_nil (e_cutq ?_)
      exact ⟨(congrArg Value.bool (by first | rfl | (rw [hg1]; rfl) | simp [hg1])), trivial⟩
    · skip
      refine ql_s undef (by kernel_rfl) ?_
      refine ql_s undef (by kernel_rfl) ?_
      refine ql_s (.bool false) (by kernel_rfl) ?_
      refine ql_s (.bool false) (by kernel_rfl) ?_
      refine ql_nil (e_cutq ?_)
      exact ⟨(congrArg Value.bool (by first | rfl | (rw [hg1]; rfl) | simp [hg1])), trivial⟩
  intro _
  refine e_then ?_
  refine c_ret ?_
  obtain rfl := Option.some.inj hp
  exact post_all (vs := [.bool ((fge .f32 v0 4286578687) && (fle .f32 v0 2139095039))]) (.bool ((fge .f32 v0 4286578687) && (fle .f32 v0 2139095039))) ⟨rfl, trivial⟩ rfl (.inl rfl) (fun w hS => ⟨rfl, hS⟩)

-- tarnfell/field.height
set_option maxRecDepth 100000 in
set_option maxHeartbeats 2000000 in
theorem field_height_s (v0 : Nat) (D : PH)  (F : List Assert) (r : Bool) (hp : field_height_p v0 = some r) : ∀ w : World, SInv D (F) w → Calls Tryz.prog 50 #[.float .f32 v0] w (fun e w' => e = .returned (.bool r) ∧ SInv D (F) w') := by
  intro w hS
  refine call_intro Tryz.func50 rfl Tryz.ntmps50 (Nat.le_of_ble_eq_true rfl) hS ?_
  clear hS w
  unfold field_height_p at hp
  refine c_seq ?_
  refine c_quiet ?_
  refine ql_s (.bool false) (by kernel_rfl) ?_
  refine ql_nil ?_
  refine e_then ?_
  refine c_seq ?_
  refine c_cutq_end [(2, .bool ((fge .f32 v0 3380609024) && (fle .f32 v0 1233125376)))] ?_ ?_
  · skip
    refine c_quiet ?_
    refine ql_s (.float .f32 v0) (by kernel_rfl) ?_
    refine ql_s (.bool (fge .f32 v0 3380609024)) (by kernel_rfl) ?_
    refine ql_s (.bool (fge .f32 v0 3380609024)) (by kernel_rfl) ?_
    refine ql_case 5 (fge .f32 v0 3380609024) rfl (fun hg1 => ?_) (fun hg1 => ?_)
    · skip
      refine ql_s (.float .f32 v0) (by kernel_rfl) ?_
      refine ql_s (.bool (fle .f32 v0 1233125376)) (by kernel_rfl) ?_
      refine ql_s (.bool (fle .f32 v0 1233125376)) (by kernel_rfl) ?_
      refine ql_s (.bool (fle .f32 v0 1233125376)) (by kernel_rfl) ?_
      refine ql_nil (e_cutq ?_)
      exact ⟨(congrArg Value.bool (by first | rfl | (rw [hg1]; rfl) | simp [hg1])), trivial⟩
    · skip
      refine ql_s undef (by kernel_rfl) ?_
      refine ql_s undef (by kernel_rfl) ?_
      refine ql_s (.bool false) (by kernel_rfl) ?_
      refine ql_s (.bool false) (by kernel_rfl) ?_
      refine ql_nil (e_cutq ?_)
      exact ⟨(congrArg Value.bool (by first | rfl | (rw [hg1]; rfl) | simp [hg1])), trivial⟩
  intro _
  refine e_then ?_
  refine c_ret ?_
  obtain rfl := Option.some.inj hp
  exact post_all (vs := [.bool ((fge .f32 v0 3380609024) && (fle .f32 v0 1233125376))]) (.bool ((fge .f32 v0 3380609024) && (fle .f32 v0 1233125376))) ⟨rfl, trivial⟩ rfl (.inl rfl) (fun w hS => ⟨rfl, hS⟩)

-- tarnfell/field.Heights
set_option maxRecDepth 100000 in
set_option maxHeartbeats 2000000 in
theorem field_Heights_s (l0 : List Nat) (l0_v1a : Option Addr) (l0_v1c : Nat) (D : PH) (l0_h1 : RO (encF .f32) D (.slice l0_v1a l0.length l0_v1c) l0) (F : List Assert) (r : Int) (hp : field_Heights_p l0 = some r) : ∀ w : World, SInv D (F) w → Calls Tryz.prog 81 #[.slice l0_v1a l0.length l0_v1c] w (fun e w' => e = .returned (.int .i64 r) ∧ SInv D (F) w') := by
  intro w hS
  refine call_intro Tryz.func81 rfl Tryz.ntmps81 (Nat.le_of_ble_eq_true rfl) hS ?_
  clear hS w
  unfold field_Heights_p at hp
  refine c_seq ?_
  refine c_quiet ?_
  refine ql_s (.int .i64 0) (by kernel_rfl) ?_
  refine ql_nil ?_
  refine e_then ?_
  refine c_seq ?_
  refine c_seq ?_
  refine c_quiet ?_
  refine ql_s (.slice l0_v1a l0.length l0_v1c) (by kernel_rfl) ?_
  refine ql_s (.int .i64 (l0.length : Int)) (by kernel_rfl) ?_
  refine ql_s (.int .i64 0) (by kernel_rfl) ?_
  refine ql_nil ?_
  refine e_then ?_
  have hb0 : (l0.length : Int) ≤ 4611686018427387904 := by have := RO.bound l0_h1; omega
  have hm0 : l0.length = (l0.length : Int).toNat := by omega
  have hm1 := hm0; have hb1 := hb0; clear hm0 hb0
  obtain ⟨x1, hs1, hp⟩ := bnd_some hp
  obtain ⟨body1, hbody1, hs1⟩ := forI_gen hs1
  refine c_cut_end (fun φ1 D1 As1 => ∃ (s1 : Unit), x1 = .go s1 ∧ Is φ1 [(0, .slice l0_v1a l0.length l0_v1c)] ∧ PH.le D D1 ∧ As1 = F) ?_ ?_
  · skip
    refine c_block ?_
    refine c_loop (fun k φ1 D2 As1 => ∃ (j1 i1 : Nat) (s2 : Unit), k = j1 + 1 ∧ i1 + j1 = l0.length ∧ Is φ1 [(0, .slice l0_v1a l0.length l0_v1c), (7, .slice l0_v1a l0.length l0_v1c), (8, .int .i64 (l0.length : Int)), (9, .int .i64 (i1 : Int))] ∧ PH.le D D2 ∧ As1 = F ∧ forI body1 j1 i1 s2 = some x1) ⟨l0.length + 1, l0.length, 0, (), rfl, Nat.zero_add _, ⟨rfl, rfl, rfl, rfl, trivial⟩, (PH.le_refl _), rfl, hs1⟩ ?_ ?_
    · rintro _ _ _ ⟨_, _, _, h0, _⟩; omega
    intro k1
    rintro φ1 D2 As1 ⟨j1, i1, s2, hk1, hij1, hI1, hD1, hA1, hs2⟩
    subst As1
    replace l0_h1 := l0_h1.mono hD1
    refine c_frame _ hI1 ?_
    obtain rfl : k1 = j1 := by omega
    clear hk1
    rcases k1 with _ | j1
    · skip
      refine c_seq ?_
      refine c_quiet ?_
      refine ql_s (.bool (decide ((i1 : Int) < (l0.length : Int)))) (by kernel_rfl) ?_
      refine ql_nil ?_
      refine e_then ?_
      refine c_seq ?_
      refine c_cond (decide ((i1 : Int) < (l0.length : Int))) rfl (fun ht1 => absurd ((dec_lt_f hm1 (by omega)).symm.trans ht1) (by simp)) (fun _ => ?_)
      refine c_exit ?_
      refine e_then_exit ?_
      refine e_then_exit ?_
      obtain rfl := Option.some.inj hs2
      refine e_blk_exit ?_
      exact e_cut ⟨(), rfl, ⟨rfl, trivial⟩, hD1, rfl⟩
    · skip
      obtain ⟨y1, hx1, hs2⟩ := forI_some hs2
      replace hx1 := (congrFun (congrFun hbody1 i1) s2).trans hx1
      refine c_seq ?_
      refine c_quiet ?_
      refine ql_s (.bool (decide ((i1 : Int) < (l0.length : Int)))) (by kernel_rfl) ?_
      refine ql_nil ?_
      refine e_then ?_
      refine c_seq ?_
      refine c_cond (decide ((i1 : Int) < (l0.length : Int))) rfl (fun _ => ?_) (fun ht2 => absurd ((dec_lt_t hm1 (by omega)).symm.trans ht2) (by simp))
      refine c_skip ?_
      refine e_then ?_
      refine c_seq ?_
      refine c_block ?_
      refine c_seq ?_
      obtain ⟨x2, hx2, hx1⟩ := bnd_some hx1
      obtain ⟨b1, o1, h1, hq1⟩ := RO.at l0_h1 hx2
      refine c_quiet ?_
      refine ql_q rfl (qs_idx hq1 Tryz.underlying38 fit35 rfl rfl) ?_
      refine ql_q rfl (qs_ldAtV fit35 rfl h1 valF) ?_
      refine ql_s (.float .f32 x2) (by kernel_rfl) ?_
      refine ql_nil ?_
      refine e_then ?_
      refine c_seq ?_
      obtain ⟨r1, hr1, hx1⟩ := bnd_some hx1
      refine c_quiet ?_
      refine ql_s (.float .f32 x2) (by kernel_rfl) ?_
      refine ql_call (v := .bool r1) rfl (run_call (vs := [.float .f32 x2]) rfl Tryz.call106 rfl) (fun w hS => (field_finite_s x2 _  _ _ hr1 w (hS)).mono fun e w' h => ⟨h.1, h.2⟩) ?_
      refine ql_s (.bool (!r1)) (by kernel_rfl) ?_
      refine ql_nil ?_
      refine e_then ?_
      refine c_cond (!r1) rfl (fun ht3 => ?_) (fun ht3 => ?_)
      · skip
        replace hx1 := if_t ht3 hx1
        refine c_seq ?_
        refine c_quiet ?_
        refine ql_s (.int .i64 2) (by kernel_rfl) ?_
        refine ql_nil ?_
        refine e_then ?_
        refine c_ret ?_
        refine e_blk_ret ?_
        refine e_then_ret ?_
        refine e_then_ret ?_
        obtain rfl := Option.some.inj hx1
        obtain rfl := hs2
        refine e_blk_ret ?_
        refine e_then_ret ?_
        dsimp only at hp
        refine e_then_ret ?_
        obtain rfl := Option.some.inj hp
        exact post_all (vs := [.int .i64 2]) (.int .i64 2) ⟨rfl, trivial⟩ rfl (.inl rfl) (fun w hS => ⟨rfl, (hS.lower hD1)⟩)
      · skip
        replace hx1 := if_f ht3 hx1
        refine c_skip ?_
        refine e_blk ?_
        refine e_then ?_
        refine c_quiet ?_
        refine ql_s (.int .i64 (addI (i1 : Int) 1)) (by kernel_rfl) ?_
        refine ql_s (.int .i64 (addI (i1 : Int) 1)) (by kernel_rfl) ?_
        refine ql_nil ?_
        obtain rfl := Option.some.inj hx1
        exact e_cut ⟨j1, i1 + 1, (), by omega, by omega, ⟨rfl, rfl, rfl, (congrArg (Value.int .i64) (addI_succ (by omega))), trivial⟩, hD1, rfl, hs2⟩
  · skip
    rintro φ2 D1 As2 ⟨s1, rfl, hI2, hD2, hA2⟩
    subst As2
    replace l0_h1 := l0_h1.mono hD2
    dsimp only at hp
    refine e_frame _ hI2 ?_
    refine e_then ?_
    refine c_seq ?_
    refine c_seq ?_
    refine c_quiet ?_
    refine ql_s (.slice l0_v1a l0.length l0_v1c) (by kernel_rfl) ?_
    refine ql_s (.int .i64 (l0.length : Int)) (by kernel_rfl) ?_
    refine ql_s (.int .i64 0) (by kernel_rfl) ?_
    refine ql_nil ?_
    refine e_then ?_
    have hb0 : (l0.length : Int) ≤ 4611686018427387904 := by have := RO.bound l0_h1; omega
    have hm0 : l0.length = (l0.length : Int).toNat := by omega
    have hm2 := hm0; have hb2 := hb0; clear hm0 hb0
    obtain ⟨x3, hs3, hp⟩ := bnd_some hp
    obtain ⟨body2, hbody2, hs3⟩ := forI_gen hs3
    refine c_cut_end (fun φ1 D3 As1 => ∃ (s3 : Unit), x3 = .go s3 ∧ Is φ1 [] ∧ PH.le D1 D3 ∧ As1 = F) ?_ ?_
    · skip
      refine c_block ?_
      refine c_loop (fun k φ1 D4 As1 => ∃ (j2 i2 : Nat) (s4 : Unit), k = j2 + 1 ∧ i2 + j2 = l0.length ∧ Is φ1 [(17, .slice l0_v1a l0.length l0_v1c), (18, .int .i64 (l0.length : Int)), (19, .int .i64 (i2 : Int))] ∧ PH.le D1 D4 ∧ As1 = F ∧ forI body2 j2 i2 s4 = some x3) ⟨l0.length + 1, l0.length, 0, (), rfl, Nat.zero_add _, ⟨rfl, rfl, rfl, trivial⟩, (PH.le_refl _), rfl, hs3⟩ ?_ ?_
      · rintro _ _ _ ⟨_, _, _, h0, _⟩; omega
      intro k2
      rintro φ3 D4 As3 ⟨j2, i2, s4, hk2, hij2, hI3, hD3, hA3, hs4⟩
      subst As3
      replace l0_h1 := l0_h1.mono hD3
      refine c_frame _ hI3 ?_
      obtain rfl : k2 = j2 := by omega
      clear hk2
      rcases k2 with _ | j2
      · skip
        refine c_seq ?_
        refine c_quiet ?_
        refine ql_s (.bool (decide ((i2 : Int) < (l0.length : Int)))) (by kernel_rfl) ?_
        refine ql_nil ?_
        refine e_then ?_
        refine c_seq ?_
        refine c_cond (decide ((i2 : Int) < (l0.length : Int))) rfl (fun ht4 => absurd ((dec_lt_f hm2 (by omega)).symm.trans ht4) (by simp)) (fun _ => ?_)
        refine c_exit ?_
        refine e_then_exit ?_
        refine e_then_exit ?_
        obtain rfl := Option.some.inj hs4
        refine e_blk_exit ?_
        exact e_cut ⟨(), rfl, trivial, hD3, rfl⟩
      · skip
        obtain ⟨y2, hx3, hs4⟩ := forI_some hs4
        replace hx3 := (congrFun (congrFun hbody2 i2) s4).trans hx3
        refine c_seq ?_
        refine c_quiet ?_
        refine ql_s (.bool (decide ((i2 : Int) < (l0.length : Int)))) (by kernel_rfl) ?_
        refine ql_nil ?_
        refine e_then ?_
        refine c_seq ?_
        refine c_cond (decide ((i2 : Int) < (l0.length : Int))) rfl (fun _ => ?_) (fun ht5 => absurd ((dec_lt_t hm2 (by omega)).symm.trans ht5) (by simp))
        refine c_skip ?_
        refine e_then ?_
        refine c_seq ?_
        refine c_block ?_
        refine c_seq ?_
        obtain ⟨x4, hx4, hx3⟩ := bnd_some hx3
        obtain ⟨b2, o2, h2, hq2⟩ := RO.at l0_h1 hx4
        refine c_quiet ?_
        refine ql_q rfl (qs_idx hq2 Tryz.underlying38 fit35 rfl rfl) ?_
        refine ql_q rfl (qs_ldAtV fit35 rfl h2 valF) ?_
        refine ql_s (.float .f32 x4) (by kernel_rfl) ?_
        refine ql_nil ?_
        refine e_then ?_
        refine c_seq ?_
        obtain ⟨r2, hr2, hx3⟩ := bnd_some hx3
        refine c_quiet ?_
        refine ql_s (.float .f32 x4) (by kernel_rfl) ?_
        refine ql_call (v := .bool r2) rfl (run_call (vs := [.float .f32 x4]) rfl Tryz.call50 rfl) (fun w hS => (field_height_s x4 _  _ _ hr2 w (hS)).mono fun e w' h => ⟨h.1, h.2⟩) ?_
        refine ql_s (.bool (!r2)) (by kernel_rfl) ?_
        refine ql_nil ?_
        refine e_then ?_
        refine c_cond (!r2) rfl (fun ht6 => ?_) (fun ht6 => ?_)
        · skip
          replace hx3 := if_t ht6 hx3
          refine c_seq ?_
          refine c_quiet ?_
          refine ql_s (.int .i64 3) (by kernel_rfl) ?_
          refine ql_nil ?_
          refine e_then ?_
          refine c_ret ?_
          refine e_blk_ret ?_
          refine e_then_ret ?_
          refine e_then_ret ?_
          obtain rfl := Option.some.inj hx3
          obtain rfl := hs4
          refine e_blk_ret ?_
          refine e_then_ret ?_
          dsimp only at hp
          refine e_then_ret ?_
          obtain rfl := Option.some.inj hp
          exact post_all (vs := [.int .i64 3]) (.int .i64 3) ⟨rfl, trivial⟩ rfl (.inl rfl) (fun w hS => ⟨rfl, (hS.lower (PH.le_trans hD2 hD3))⟩)
        · skip
          replace hx3 := if_f ht6 hx3
          refine c_skip ?_
          refine e_blk ?_
          refine e_then ?_
          refine c_quiet ?_
          refine ql_s (.int .i64 (addI (i2 : Int) 1)) (by kernel_rfl) ?_
          refine ql_s (.int .i64 (addI (i2 : Int) 1)) (by kernel_rfl) ?_
          refine ql_nil ?_
          obtain rfl := Option.some.inj hx3
          exact e_cut ⟨j2, i2 + 1, (), by omega, by omega, ⟨rfl, rfl, (congrArg (Value.int .i64) (addI_succ (by omega))), trivial⟩, hD3, rfl, hs4⟩
    · skip
      rintro φ4 D3 As4 ⟨s3, rfl, hI4, hD4, hA4⟩
      subst As4
      dsimp only at hp
      refine e_frame _ hI4 ?_
      refine e_then ?_
      refine c_seq ?_
      refine c_quiet ?_
      refine ql_s (.int .i64 0) (by kernel_rfl) ?_
      refine ql_nil ?_
      refine e_then ?_
      refine c_ret ?_
      obtain rfl := Option.some.inj hp
      exact post_all (vs := [.int .i64 0]) (.int .i64 0) ⟨rfl, trivial⟩ rfl (.inl rfl) (fun w hS => ⟨rfl, (hS.lower (PH.le_trans hD2 hD4))⟩)

-- tarnfell/field.Check
set_option maxRecDepth 100000 in
set_option maxHeartbeats 2000000 in
theorem field_Check_s (f0 : S_api_Field) (f0_v1a : Option Addr) (f0_v1c : Nat) (D : PH) (f0_h1 : RO (encF .f32) D (.slice f0_v1a f0.V.length f0_v1c) f0.V) (F : List Assert) (r : Int) (hp : field_Check_p f0 = some r) : ∀ w : World, SInv D (F) w → Calls Tryz.prog 59 #[.agg #[.int .i64 f0.Region.X, .int .i64 f0.Region.Y, .int .i64 f0.Region.W, .int .i64 f0.Region.H, .slice f0_v1a f0.V.length f0_v1c]] w (fun e w' => e = .returned (.int .i64 r) ∧ SInv D (F) w') := by
  intro w hS
  refine call_intro Tryz.func59 rfl Tryz.ntmps59 (Nat.le_of_ble_eq_true rfl) hS ?_
  clear hS w
  unfold field_Check_p at hp
  refine c_seq ?_
  refine c_region ?_
  refine l_box (cs := [.int .i64 f0.Region.X, .int .i64 f0.Region.Y, .int .i64 f0.Region.W, .int .i64 f0.Region.H, .slice f0_v1a f0.V.length f0_v1c]) rfl rfl (fun b2 => ?_)
  refine l_s (.int .i64 0) (by kernel_rfl) ?_
  refine l_nil ?_
  refine e_then ?_
  refine c_seq ?_
  refine c_seq ?_
  obtain ⟨r1, hr1, hp⟩ := bnd_some hp
  refine c_quiet ?_
  refine ql_s (.pointer (some ⟨b2, 0, none⟩)) (by kernel_rfl) ?_
  refine ql_q rfl (qs_ldpt (encW 4 (by decide)) fitv59 rfl 0 rfl (.agg #[.int .i64 f0.Region.X, .int .i64 f0.Region.Y, .int .i64 f0.Region.W, .int .i64 f0.Region.H]) (Nat.le_of_ble_eq_true rfl) rfl) ?_
  refine ql_call (v := .int .i64 r1) rfl (run_call (vs := [.agg #[.int .i64 f0.Region.X, .int .i64 f0.Region.Y, .int .i64 f0.Region.W, .int .i64 f0.Region.H]]) rfl Tryz.call80 rfl) (fun w hS => (field_CheckRegion_s f0.Region _  _ _ hr1 w (hS)).mono fun e w' h => ⟨h.1, h.2⟩) ?_
  refine ql_s (.int .i64 r1) (by kernel_rfl) ?_
  refine ql_nil ?_
  refine e_then ?_
  refine c_seq ?_
  refine c_quiet ?_
  refine ql_s (.int .i64 r1) (by kernel_rfl) ?_
  refine ql_s (.bool (r1 != 0)) (by kernel_rfl) ?_
  refine ql_nil ?_
  refine e_then ?_
  refine c_cond ((r1 != 0)) rfl (fun ht1 => ?_) (fun ht1 => ?_)
  · skip
    replace hp := if_t ht1 hp
    refine c_seq ?_
    refine c_quiet ?_
    refine ql_s (.int .i64 r1) (by kernel_rfl) ?_
    refine ql_s (.int .i64 r1) (by kernel_rfl) ?_
    refine ql_nil ?_
    refine e_drop ?_
    refine e_then ?_
    refine c_ret ?_
    refine e_then_ret ?_
    obtain rfl := Option.some.inj hp
    exact post_all (vs := [.int .i64 r1]) (.int .i64 r1) ⟨rfl, trivial⟩ rfl (.inl rfl) (fun w hS => ⟨rfl, hS⟩)
  · skip
    replace hp := if_f ht1 hp
    refine c_skip ?_
    refine e_then ?_
    refine c_seq ?_
    refine c_seq ?_
    refine c_quiet ?_
    refine ql_s (.pointer (some ⟨b2, 4, none⟩)) (by kernel_rfl) ?_
    refine ql_q rfl (qs_ldpt encV fitv38 rfl 0 rfl (.slice f0_v1a f0.V.length f0_v1c) (Nat.le_of_ble_eq_true rfl) rfl) ?_
    refine ql_s (.int .i64 (f0.V.length : Int)) (by kernel_rfl) ?_
    refine ql_s (.pointer (some ⟨b2, 0, none⟩)) (by kernel_rfl) ?_
    refine ql_s (.pointer (some ⟨b2, 2, none⟩)) (by kernel_rfl) ?_
    refine ql_q rfl (qs_ldpt encV fitv3 rfl 0 rfl (.int .i64 f0.Region.W) (Nat.le_of_ble_eq_true rfl) rfl) ?_
    refine ql_s (.pointer (some ⟨b2, 0, none⟩)) (by kernel_rfl) ?_
    refine ql_s (.pointer (some ⟨b2, 3, none⟩)) (by kernel_rfl) ?_
    refine ql_q rfl (qs_ldpt encV fitv3 rfl 0 rfl (.int .i64 f0.Region.H) (Nat.le_of_ble_eq_true rfl) rfl) ?_
    refine ql_s (.int .i64 (mulI f0.Region.W f0.Region.H)) (by kernel_rfl) ?_
    refine ql_s (.bool ((f0.V.length : Int) != (mulI f0.Region.W f0.Region.H))) (by kernel_rfl) ?_
    refine ql_nil ?_
    refine e_then ?_
    refine c_cond (((f0.V.length : Int) != (mulI f0.Region.W f0.Region.H))) rfl (fun ht2 => ?_) (fun ht2 => ?_)
    · skip
      replace hp := if_t ht2 hp
      refine c_seq ?_
      refine c_quiet ?_
      refine ql_s (.int .i64 2) (by kernel_rfl) ?_
      refine ql_nil ?_
      refine e_drop ?_
      refine e_then ?_
      refine c_ret ?_
      refine e_then_ret ?_
      obtain rfl := Option.some.inj hp
      exact post_all (vs := [.int .i64 2]) (.int .i64 2) ⟨rfl, trivial⟩ rfl (.inl rfl) (fun w hS => ⟨rfl, hS⟩)
    · skip
      replace hp := if_f ht2 hp
      refine c_skip ?_
      refine e_then ?_
      refine c_seq ?_
      obtain ⟨r2, hr2, hp⟩ := bnd_some hp
      refine c_quiet ?_
      refine ql_s (.pointer (some ⟨b2, 4, none⟩)) (by kernel_rfl) ?_
      refine ql_q rfl (qs_ldpt encV fitv38 rfl 0 rfl (.slice f0_v1a f0.V.length f0_v1c) (Nat.le_of_ble_eq_true rfl) rfl) ?_
      refine ql_call (v := .int .i64 r2) rfl (run_call (vs := [.slice f0_v1a f0.V.length f0_v1c]) rfl Tryz.call81 rfl) (fun w hS => (field_Heights_s f0.V f0_v1a f0_v1c _ f0_h1 _ _ hr2 w (hS)).mono fun e w' h => ⟨h.1, h.2⟩) ?_
      refine ql_s (.int .i64 r2) (by kernel_rfl) ?_
      refine ql_nil ?_
      refine e_drop ?_
      refine e_then ?_
      refine c_ret ?_
      obtain rfl := Option.some.inj hp
      exact post_all (vs := [.int .i64 r2]) (.int .i64 r2) ⟨rfl, trivial⟩ rfl (.inl rfl) (fun w hS => ⟨rfl, hS⟩)

-- tarnfell/field.CheckAll
set_option maxRecDepth 100000 in
set_option maxHeartbeats 2000000 in
theorem field_CheckAll_s (l0 : List S_api_Field) (l0_v1a : Option Addr) (l0_v1c : Nat) (D : PH) (l0_h1 : RO encS_api_Field D (.slice l0_v1a l0.length l0_v1c) l0) (F : List Assert) (r : Int) (hp : field_CheckAll_p l0 = some r) : ∀ w : World, SInv D (F) w → Calls Tryz.prog 82 #[.slice l0_v1a l0.length l0_v1c] w (fun e w' => e = .returned (.int .i64 r) ∧ SInv D (F) w') := by
  intro w hS
  refine call_intro Tryz.func82 rfl Tryz.ntmps82 (Nat.le_of_ble_eq_true rfl) hS ?_
  clear hS w
  unfold field_CheckAll_p at hp
  refine c_seq ?_
  refine c_quiet ?_
  refine ql_s (.int .i64 0) (by kernel_rfl) ?_
  refine ql_nil ?_
  refine e_then ?_
  refine c_seq ?_
  refine c_seq ?_
  refine c_quiet ?_
  refine ql_s (.slice l0_v1a l0.length l0_v1c) (by kernel_rfl) ?_
  refine ql_s (.int .i64 (l0.length : Int)) (by kernel_rfl) ?_
  refine ql_s (.int .i64 0) (by kernel_rfl) ?_
  refine ql_nil ?_
  refine e_then ?_
  have hb0 : (l0.length : Int) ≤ 4611686018427387904 := by have := RO.bound l0_h1; omega
  have hm0 : l0.length = (l0.length : Int).toNat := by omega
  have hm1 := hm0; have hb1 := hb0; clear hm0 hb0
  obtain ⟨x1, hs1, hp⟩ := bnd_some hp
  obtain ⟨body1, hbody1, hs1⟩ := forI_gen hs1
  refine c_cut_end (fun φ1 D1 As1 => ∃ (s1 : Unit), x1 = .go s1 ∧ Is φ1 [] ∧ PH.le D D1 ∧ As1 = F) ?_ ?_
  · skip
    refine c_block ?_
    refine c_loop (fun k φ1 D2 As1 => ∃ (j1 i1 : Nat) (s2 : Unit), k = j1 + 1 ∧ i1 + j1 = l0.length ∧ Is φ1 [(6, .slice l0_v1a l0.length l0_v1c), (7, .int .i64 (l0.length : Int)), (8, .int .i64 (i1 : Int))] ∧ PH.le D D2 ∧ As1 = F ∧ forI body1 j1 i1 s2 = some x1) ⟨l0.length + 1, l0.length, 0, (), rfl, Nat.zero_add _, ⟨rfl, rfl, rfl, trivial⟩, (PH.le_refl _), rfl, hs1⟩ ?_ ?_
    · rintro _ _ _ ⟨_, _, _, h0, _⟩; omega
    intro k1
    rintro φ1 D2 As1 ⟨j1, i1, s2, hk1, hij1, hI1, hD1, hA1, hs2⟩
    subst As1
    replace l0_h1 := l0_h1.mono hD1
    refine c_frame _ hI1 ?_
    obtain rfl : k1 = j1 := by omega
    clear hk1
    rcases k1 with _ | j1
    · skip
      refine c_seq ?_
      refine c_quiet ?_
      refine ql_s (.bool (decide ((i1 : Int) < (l0.length : Int)))) (by kernel_rfl) ?_
      refine ql_nil ?_
      refine e_then ?_
      refine c_seq ?_
      refine c_cond (decide ((i1 : Int) < (l0.length : Int))) rfl (fun ht1 => absurd ((dec_lt_f hm1 (by omega)).symm.trans ht1) (by simp)) (fun _ => ?_)
      refine c_exit ?_
      refine e_then_exit ?_
      refine e_then_exit ?_
      obtain rfl := Option.some.inj hs2
      refine e_blk_exit ?_
      exact e_cut ⟨(), rfl, trivial, hD1, rfl⟩
    · skip
      obtain ⟨y1, hx1, hs2⟩ := forI_some hs2
      replace hx1 := (congrFun (congrFun hbody1 i1) s2).trans hx1
      refine c_seq ?_
      refine c_quiet ?_
      refine ql_s (.bool (decide ((i1 : Int) < (l0.length : Int)))) (by kernel_rfl) ?_
      refine ql_nil ?_
      refine e_then ?_
      refine c_seq ?_
      refine c_cond (decide ((i1 : Int) < (l0.length : Int))) rfl (fun _ => ?_) (fun ht2 => absurd ((dec_lt_t hm1 (by omega)).symm.trans ht2) (by simp))
      refine c_skip ?_
      refine e_then ?_
      refine c_seq ?_
      refine c_block ?_
      refine c_seq ?_
      obtain ⟨x2, hx2, hx1⟩ := bnd_some hx1
      obtain ⟨b1, o1, h1, hq1⟩ := RO.at l0_h1 hx2
      obtain ⟨cs1, hc1, ha1⟩ := h1.cells
      obtain ⟨v1, rfl, h2⟩ := hc1
      obtain ⟨a1, cp1, rfl⟩ := RO.len h2
      refine c_region ?_
      refine l_q rfl (qs_idx hq1 Tryz.underlying64 fit61 rfl rfl) ?_
      refine l_q rfl (qs_ldC fit61 rfl ha1 rfl (.agg #[.int .i64 x2.Region.X, .int .i64 x2.Region.Y, .int .i64 x2.Region.W, .int .i64 x2.Region.H, .slice a1 x2.V.length cp1]) rfl) ?_
      refine l_alloc (zs := [.int .i64 0, .int .i64 0, .int .i64 0, .int .i64 0, .slice none 0 0]) rfl (by kernel_rfl) (fun b3 => ?_)
      refine l_store (dd := none) (vs := [.int .i64 x2.Region.X, .int .i64 x2.Region.Y, .int .i64 x2.Region.W, .int .i64 x2.Region.H, .slice a1 x2.V.length cp1]) (cs' := [.int .i64 x2.Region.X, .int .i64 x2.Region.Y, .int .i64 x2.Region.W, .int .i64 x2.Region.H, .slice a1 x2.V.length cp1]) rfl (by kernel_rfl) (by kernel_rfl) rfl rfl (Nat.le_of_ble_eq_true rfl) rfl rfl ?_
      refine l_nil ?_
      refine e_then ?_
      refine c_seq ?_
      obtain ⟨r1, hr1, hx1⟩ := bnd_some hx1
      refine c_quiet ?_
      refine ql_q rfl (qs_ldpt (encW 5 (by decide)) fitv61 rfl 0 rfl (.agg #[.int .i64 x2.Region.X, .int .i64 x2.Region.Y, .int .i64 x2.Region.W, .int .i64 x2.Region.H, .slice a1 x2.V.length cp1]) (Nat.le_of_ble_eq_true rfl) rfl) ?_
      refine ql_call (v := .int .i64 r1) rfl (run_call (vs := [.agg #[.int .i64 x2.Region.X, .int .i64 x2.Region.Y, .int .i64 x2.Region.W, .int .i64 x2.Region.H, .slice a1 x2.V.length cp1]]) rfl Tryz.call59 rfl) (fun w hS => (field_Check_s x2 a1 cp1 _ h2 _ _ hr1 w (hS)).mono fun e w' h => ⟨h.1, h.2⟩) ?_
      refine ql_s (.int .i64 r1) (by kernel_rfl) ?_
      refine ql_nil ?_
      refine e_drop ?_
      refine e_then ?_
      refine c_seq ?_
      refine c_quiet ?_
      refine ql_s (.int .i64 r1) (by kernel_rfl) ?_
      refine ql_s (.bool (r1 != 0)) (by kernel_rfl) ?_
      refine ql_nil ?_
      refine e_then ?_
      refine c_cond ((r1 != 0)) rfl (fun ht3 => ?_) (fun ht3 => ?_)
      · skip
        replace hx1 := if_t ht3 hx1
        refine c_seq ?_
        refine c_quiet ?_
        refine ql_s (.int .i64 r1) (by kernel_rfl) ?_
        refine ql_s (.int .i64 r1) (by kernel_rfl) ?_
        refine ql_nil ?_
        refine e_then ?_
        refine c_ret ?_
        refine e_blk_ret ?_
        refine e_then_ret ?_
        refine e_then_ret ?_
        obtain rfl := Option.some.inj hx1
        obtain rfl := hs2
        refine e_blk_ret ?_
        refine e_then_ret ?_
        dsimp only at hp
        refine e_then_ret ?_
        obtain rfl := Option.some.inj hp
        exact post_all (vs := [.int .i64 r1]) (.int .i64 r1) ⟨rfl, trivial⟩ rfl (.inl rfl) (fun w hS => ⟨rfl, (hS.lower hD1)⟩)
      · skip
        replace hx1 := if_f ht3 hx1
        refine c_skip ?_
        refine e_blk ?_
        refine e_then ?_
        refine c_quiet ?_
        refine ql_s (.int .i64 (addI (i1 : Int) 1)) (by kernel_rfl) ?_
        refine ql_s (.int .i64 (addI (i1 : Int) 1)) (by kernel_rfl) ?_
        refine ql_nil ?_
        obtain rfl := Option.some.inj hx1
        exact e_cut ⟨j1, i1 + 1, (), by omega, by omega, ⟨rfl, rfl, (congrArg (Value.int .i64) (addI_succ (by omega))), trivial⟩, hD1, rfl, hs2⟩
  · skip
    rintro φ2 D1 As2 ⟨s1, rfl, hI2, hD2, hA2⟩
    subst As2
    dsimp only at hp
    refine e_frame _ hI2 ?_
    refine e_then ?_
    refine c_seq ?_
    refine c_quiet ?_
    refine ql_s (.int .i64 0) (by kernel_rfl) ?_
    refine ql_nil ?_
    refine e_then ?_
    refine c_ret ?_
    obtain rfl := Option.some.inj hp
    exact post_all (vs := [.int .i64 0]) (.int .i64 0) ⟨rfl, trivial⟩ rfl (.inl rfl) (fun w hS => ⟨rfl, (hS.lower hD2)⟩)

-- tarnfell/road.CheckRules$1
set_option maxRecDepth 100000 in
set_option maxHeartbeats 2000000 in
theorem road_CheckRules_1_s (v0 : Nat) (D : PH)  (F : List Assert) (r : Bool) (hp : road_CheckRules_1_p v0 = some r) : ∀ w : World, SInv D (F) w → Calls Tryz.prog 84 #[.float .f32 v0] w (fun e w' => e = .returned (.bool r) ∧ SInv D (F) w') := by
  intro w hS
  refine call_intro Tryz.func84 rfl Tryz.ntmps84 (Nat.le_of_ble_eq_true rfl) hS ?_
  clear hS w
  unfold road_CheckRules_1_p at hp
  refine c_seq ?_
  refine c_quiet ?_
  refine ql_s (.bool false) (by kernel_rfl) ?_
  refine ql_nil ?_
  refine e_then ?_
  refine c_seq ?_
  refine c_cutq_end [(2, .bool ((flt .f32 v0 0) || (fgt .f32 v0 1149239296)))] ?_ ?_
  · skip
    refine c_quiet ?_
    refine ql_s (.float .f32 v0) (by kernel_rfl) ?_
    refine ql_s (.bool (flt .f32 v0 0)) (by kernel_rfl) ?_
    refine ql_s (.bool (flt .f32 v0 0)) (by kernel_rfl) ?_
    refine ql_case 5 (flt .f32 v0 0) rfl (fun hg1 => ?_) (fun hg1 => ?_)
    · skip
      refine ql_s undef (by kernel_rfl) ?_
      refine ql_s undef (by kernel_rfl) ?_
      refine ql_s (.bool true) (by kernel_rfl) ?_
      refine ql_s (.bool true) (by kernel_rfl) ?_
      refine ql_nil (e_cutq ?_)
      exact ⟨(congrArg Value.bool (by first | rfl | (rw [hg1]; rfl) | simp [hg1])), trivial⟩
    · skip
      refine ql_s (.float .f32 v0) (by kernel_rfl) ?_
      refine ql_s (.bool (fgt .f32 v0 1149239296)) (by kernel_rfl) ?_
      refine ql_s (.bool (fgt .f32 v0 1149239296)) (by kernel_rfl) ?_
      refine ql_s (.bool (fgt .f32 v0 1149239296)) (by kernel_rfl) ?_
      refine ql_nil (e_cutq ?_)
      exact ⟨(congrArg Value.bool (by first | rfl | (rw [hg1]; rfl) | simp [hg1])), trivial⟩
  intro _
  refine e_then ?_
  refine c_ret ?_
  obtain rfl := Option.some.inj hp
  exact post_all (vs := [.bool ((flt .f32 v0 0) || (fgt .f32 v0 1149239296))]) (.bool ((flt .f32 v0 0) || (fgt .f32 v0 1149239296))) ⟨rfl, trivial⟩ rfl (.inl rfl) (fun w hS => ⟨rfl, hS⟩)

-- slices.IndexFunc[[]float32,float32]
set_option maxRecDepth 100000 in
set_option maxHeartbeats 2000000 in
theorem slices_IndexFunc_float32_float32_s (s0 : List Nat) (s0_v1a : Option Addr) (s0_v1c : Nat) (D : PH) (s0_h1 : RO (encF .f32) D (.slice s0_v1a s0.length s0_v1c) s0) (F : List Assert) (r : Int) (hp : slices_IndexFunc_float32_float32_p s0 = some r) : ∀ w : World, SInv D (F) w → Calls Tryz.prog 107 #[.slice s0_v1a s0.length s0_v1c, .func (.func 84) #[] #[]] w (fun e w' => e = .returned (.int .i64 r) ∧ SInv D (F) w') := by
  intro w hS
  refine call_intro Tryz.func107 rfl Tryz.ntmps107 (Nat.le_of_ble_eq_true rfl) hS ?_
  clear hS w
  unfold slices_IndexFunc_float32_float32_p at hp
  refine c_seq ?_
  refine c_quiet ?_
  refine ql_s (.int .i64 0) (by kernel_rfl) ?_
  refine ql_nil ?_
  refine e_then ?_
  refine c_seq ?_
  refine c_seq ?_
  refine c_quiet ?_
  refine ql_s (.slice s0_v1a s0.length s0_v1c) (by kernel_rfl) ?_
  refine ql_s (.int .i64 (s0.length : Int)) (by kernel_rfl) ?_
  refine ql_s (.int .i64 0) (by kernel_rfl) ?_
  refine ql_nil ?_
  refine e_then ?_
  have hb0 : (s0.length : Int) ≤ 4611686018427387904 := by have := RO.bound s0_h1; omega
  have hm0 : s0.length = (s0.length : Int).toNat := by omega
  have hm1 := hm0; have hb1 := hb0; clear hm0 hb0
  obtain ⟨x1, hs1, hp⟩ := bnd_some hp
  obtain ⟨body1, hbody1, hs1⟩ := forI_gen hs1
  refine c_cut_end (fun φ1 D1 As1 => ∃ (s1 : Unit), x1 = .go s1 ∧ Is φ1 [] ∧ PH.le D D1 ∧ As1 = F) ?_ ?_
  · skip
    refine c_block ?_
    refine c_loop (fun k φ1 D2 As1 => ∃ (j1 i1 : Nat) (s2 : Unit), k = j1 + 1 ∧ i1 + j1 = s0.length ∧ Is φ1 [(0, .slice s0_v1a s0.length s0_v1c), (1, .func (.func 84) #[] #[]), (7, .int .i64 (s0.length : Int)), (8, .int .i64 (i1 : Int))] ∧ PH.le D D2 ∧ As1 = F ∧ forI body1 j1 i1 s2 = some x1) ⟨s0.length + 1, s0.length, 0, (), rfl, Nat.zero_add _, ⟨rfl, rfl, rfl, rfl, trivial⟩, (PH.le_refl _), rfl, hs1⟩ ?_ ?_
    · rintro _ _ _ ⟨_, _, _, h0, _⟩; omega
    intro k1
    rintro φ1 D2 As1 ⟨j1, i1, s2, hk1, hij1, hI1, hD1, hA1, hs2⟩
    subst As1
    replace s0_h1 := s0_h1.mono hD1
    refine c_frame _ hI1 ?_
    obtain rfl : k1 = j1 := by omega
    clear hk1
    rcases k1 with _ | j1
    · skip
      refine c_seq ?_
      refine c_quiet ?_
      refine ql_s (.bool (decide ((i1 : Int) < (s0.length : Int)))) (by kernel_rfl) ?_
      refine ql_nil ?_
      refine e_then ?_
      refine c_seq ?_
      refine c_cond (decide ((i1 : Int) < (s0.length : Int))) rfl (fun ht1 => absurd ((dec_lt_f hm1 (by omega)).symm.trans ht1) (by simp)) (fun _ => ?_)
      refine c_exit ?_
      refine e_then_exit ?_
      refine e_then_exit ?_
      obtain rfl := Option.some.inj hs2
      refine e_blk_exit ?_
      exact e_cut ⟨(), rfl, trivial, hD1, rfl⟩
    · skip
      obtain ⟨y1, hx1, hs2⟩ := forI_some hs2
      replace hx1 := (congrFun (congrFun hbody1 i1) s2).trans hx1
      refine c_seq ?_
      refine c_quiet ?_
      refine ql_s (.bool (decide ((i1 : Int) < (s0.length : Int)))) (by kernel_rfl) ?_
      refine ql_nil ?_
      refine e_then ?_
      refine c_seq ?_
      refine c_cond (decide ((i1 : Int) < (s0.length : Int))) rfl (fun _ => ?_) (fun ht2 => absurd ((dec_lt_t hm1 (by omega)).symm.trans ht2) (by simp))
      refine c_skip ?_
      refine e_then ?_
      refine c_seq ?_
      refine c_block ?_
      refine c_seq ?_
      refine c_quiet ?_
      refine ql_s (.int .i64 (i1 : Int)) (by kernel_rfl) ?_
      refine ql_s (.int .i64 (i1 : Int)) (by kernel_rfl) ?_
      refine ql_nil ?_
      refine e_then ?_
      refine c_seq ?_
      obtain ⟨x2, hx2, hx1⟩ := bnd_some hx1
      obtain ⟨b1, o1, h1, hq1⟩ := RO.at s0_h1 hx2
      obtain ⟨r1, hr1, hx1⟩ := bnd_some hx1
      refine c_quiet ?_
      refine ql_s (.func (.func 84) #[] #[]) (by kernel_rfl) ?_
      refine ql_s (.slice s0_v1a s0.length s0_v1c) (by kernel_rfl) ?_
      refine ql_s (.int .i64 (i1 : Int)) (by kernel_rfl) ?_
      refine ql_q rfl (qs_idx hq1 Tryz.underlying38 fit35 rfl rfl) ?_
      refine ql_q rfl (qs_ldAtV fit35 rfl h1 valF) ?_
      refine ql_call (v := .bool r1) rfl (run_call (vs := [.float .f32 x2]) rfl Tryz.call84 rfl) (fun w hS => (road_CheckRules_1_s x2 _  _ _ hr1 w (hS)).mono fun e w' h => ⟨h.1, h.2⟩) ?_
      refine ql_nil ?_
      refine e_then ?_
      refine c_cond (r1) rfl (fun ht3 => ?_) (fun ht3 => ?_)
      · skip
        replace hx1 := if_t ht3 hx1
        refine c_seq ?_
        refine c_quiet ?_
        refine ql_s (.int .i64 (i1 : Int)) (by kernel_rfl) ?_
        refine ql_s (.int .i64 (i1 : Int)) (by kernel_rfl) ?_
        refine ql_nil ?_
        refine e_then ?_
        refine c_ret ?_
        refine e_blk_ret ?_
        refine e_then_ret ?_
        refine e_then_ret ?_
        obtain rfl := Option.some.inj hx1
        obtain rfl := hs2
        refine e_blk_ret ?_
        refine e_then_ret ?_
        dsimp only at hp
        refine e_then_ret ?_
        obtain rfl := Option.some.inj hp
        exact post_all (vs := [.int .i64 (i1 : Int)]) (.int .i64 (i1 : Int)) ⟨rfl, trivial⟩ rfl (.inl rfl) (fun w hS => ⟨rfl, (hS.lower hD1)⟩)
      · skip
        replace hx1 := if_f ht3 hx1
        refine c_skip ?_
        refine e_blk ?_
        refine e_then ?_
        refine c_quiet ?_
        refine ql_s (.int .i64 (addI (i1 : Int) 1)) (by kernel_rfl) ?_
        refine ql_s (.int .i64 (addI (i1 : Int) 1)) (by kernel_rfl) ?_
        refine ql_nil ?_
        obtain rfl := Option.some.inj hx1
        exact e_cut ⟨j1, i1 + 1, (), by omega, by omega, ⟨rfl, rfl, rfl, (congrArg (Value.int .i64) (addI_succ (by omega))), trivial⟩, hD1, rfl, hs2⟩
  · skip
    rintro φ2 D1 As2 ⟨s1, rfl, hI2, hD2, hA2⟩
    subst As2
    dsimp only at hp
    refine e_frame _ hI2 ?_
    refine e_then ?_
    refine c_seq ?_
    refine c_quiet ?_
    refine ql_s (.int .i64 (-1)) (by kernel_rfl) ?_
    refine ql_nil ?_
    refine e_then ?_
    refine c_ret ?_
    obtain rfl := Option.some.inj hp
    exact post_all (vs := [.int .i64 (-1)]) (.int .i64 (-1)) ⟨rfl, trivial⟩ rfl (.inl rfl) (fun w hS => ⟨rfl, (hS.lower hD2)⟩)

-- slices.ContainsFunc[[]float32,float32]
set_option maxRecDepth 100000 in
set_option maxHeartbeats 2000000 in
theorem slices_ContainsFunc_float32_float32_s (s0 : List Nat) (s0_v1a : Option Addr) (s0_v1c : Nat) (D : PH) (s0_h1 : RO (encF .f32) D (.slice s0_v1a s0.length s0_v1c) s0) (F : List Assert) (r : Bool) (hp : slices_ContainsFunc_float32_float32_p s0 = some r) : ∀ w : World, SInv D (F) w → Calls Tryz.prog 83 #[.slice s0_v1a s0.length s0_v1c, .func (.func 84) #[] #[]] w (fun e w' => e = .returned (.bool r) ∧ SInv D (F) w') := by
  intro w hS
  refine call_intro Tryz.func83 rfl Tryz.ntmps83 (Nat.le_of_ble_eq_true rfl) hS ?_
  clear hS w
  unfold slices_ContainsFunc_float32_float32_p at hp
  refine c_seq ?_
  refine c_quiet ?_
  refine ql_s (.bool false) (by kernel_rfl) ?_
  refine ql_nil ?_
  refine e_then ?_
  refine c_seq ?_
  obtain ⟨r1, hr1, hp⟩ := bnd_some hp
  refine c_quiet ?_
  refine ql_s (.slice s0_v1a s0.length s0_v1c) (by kernel_rfl) ?_
  refine ql_s (.func (.func 84) #[] #[]) (by kernel_rfl) ?_
  refine ql_call (v := .int .i64 r1) rfl (run_call (vs := [.slice s0_v1a s0.length s0_v1c, .func (.func 84) #[] #[]]) rfl Tryz.call107 rfl) (fun w hS => (slices_IndexFunc_float32_float32_s s0 s0_v1a s0_v1c _ s0_h1 _ _ hr1 w (hS)).mono fun e w' h => ⟨h.1, h.2⟩) ?_
  refine ql_s (.bool (decide (r1 ≥ 0))) (by kernel_rfl) ?_
  refine ql_s (.bool (decide (r1 ≥ 0))) (by kernel_rfl) ?_
  refine ql_nil ?_
  refine e_then ?_
  refine c_ret ?_
  obtain rfl := Option.some.inj hp
  exact post_all (vs := [.bool (decide (r1 ≥ 0))]) (.bool (decide (r1 ≥ 0))) ⟨rfl, trivial⟩ rfl (.inl rfl) (fun w hS => ⟨rfl, hS⟩)

-- tarnfell/road.CheckRules
set_option maxRecDepth 100000 in
set_option maxHeartbeats 2000000 in
theorem road_CheckRules_s (s0 : S_api_RoadRules) (s0_v1a : Option Addr) (s0_v1c : Nat) (D : PH) (s0_h1 : RO encS_api_Field D (.slice s0_v1a s0.Costly.length s0_v1c) s0.Costly) (F : List Assert) (r : Int) (hp : road_CheckRules_p s0 = some r) : ∀ w : World, SInv D (F) w → Calls Tryz.prog 60 #[.agg #[.float .f32 s0.Grade, .float .f32 s0.Weight, .float .f32 s0.Bridge, .float .f32 s0.Dear, .int .i64 s0.Span, .slice s0_v1a s0.Costly.length s0_v1c]] w (fun e w' => e = .returned (.int .i64 r) ∧ SInv D (F) w') := by
  intro w hS
  refine call_intro Tryz.func60 rfl Tryz.ntmps60 (Nat.le_of_ble_eq_true rfl) hS ?_
  clear hS w
  unfold road_CheckRules_p at hp
  refine c_seq ?_
  refine c_region ?_
  refine l_box (cs := [.float .f32 s0.Grade, .float .f32 s0.Weight, .float .f32 s0.Bridge, .float .f32 s0.Dear, .int .i64 s0.Span, .slice s0_v1a s0.Costly.length s0_v1c]) rfl rfl (fun b2 => ?_)
  refine l_s (.int .i64 0) (by kernel_rfl) ?_
  refine l_nil ?_
  refine e_then ?_
  refine c_seq ?_
  refine c_seq ?_
  obtain ⟨r1, hr1, hp⟩ := bnd_some hp
  refine c_region ?_
  refine l_s (.pointer (some ⟨b2, 0, none⟩)) (by kernel_rfl) ?_
  refine l_q rfl (qs_ldpt encV fitv35 rfl 0 rfl (.float .f32 s0.Grade) (Nat.le_of_ble_eq_true rfl) rfl) ?_
  refine l_s (.pointer (some ⟨b2, 1, none⟩)) (by kernel_rfl) ?_
  refine l_q rfl (qs_ldpt encV fitv35 rfl 0 rfl (.float .f32 s0.Weight) (Nat.le_of_ble_eq_true rfl) rfl) ?_
  refine l_s (.pointer (some ⟨b2, 2, none⟩)) (by kernel_rfl) ?_
  refine l_q rfl (qs_ldpt encV fitv35 rfl 0 rfl (.float .f32 s0.Bridge) (Nat.le_of_ble_eq_true rfl) rfl) ?_
  refine l_s (.pointer (some ⟨b2, 3, none⟩)) (by kernel_rfl) ?_
  refine l_q rfl (qs_ldpt encV fitv35 rfl 0 rfl (.float .f32 s0.Dear) (Nat.le_of_ble_eq_true rfl) rfl) ?_
  refine l_bslS (cs := [.float .f32 s0.Grade, .float .f32 s0.Weight, .float .f32 s0.Bridge, .float .f32 s0.Dear]) (E := 35) (e := encF .f32) ([s0.Grade, s0.Weight, s0.Bridge, s0.Dear] : List Nat) rfl (by kernel_rfl) rfl rfl (Nat.le_of_ble_eq_true rfl) ⟨rfl, rfl, rfl, rfl, trivial⟩ (fun b4 cp2 => ?_)
  refine l_callq (v := .int .i64 r1) rfl rfl Tryz.call81 (vs := [.slice (some ⟨b4, 0, none⟩) ([s0.Grade, s0.Weight, s0.Bridge, s0.Dear] : List Nat).length cp2]) rfl (fun w hS => (calls_thaw (PH.le_refl _) (hS) (fun D0' hLl0 hLr0 hS => (field_Heights_s ([s0.Grade, s0.Weight, s0.Bridge, s0.Dear] : List Nat) (some ⟨b4, 0, none⟩) cp2 _ hLr0 _ _ hr1 w (hS)).mono fun e w' h => ⟨h.1, h.2⟩)).mono fun e w' h => ⟨h.1, h.2⟩) ?_
  refine l_s (.int .i64 r1) (by kernel_rfl) ?_
  refine l_nil ?_
  refine e_drop ?_
  refine e_then ?_
  refine c_seq ?_
  refine c_quiet ?_
  refine ql_s (.int .i64 r1) (by kernel_rfl) ?_
  refine ql_s (.bool (r1 != 0)) (by kernel_rfl) ?_
  refine ql_nil ?_
  refine e_then ?_
  refine c_cond ((r1 != 0)) rfl (fun ht1 => ?_) (fun ht1 => ?_)
  · skip
    replace hp := if_t ht1 hp
    refine c_seq ?_
    refine c_quiet ?_
    refine ql_s (.int .i64 r1) (by kernel_rfl) ?_
    refine ql_s (.int .i64 r1) (by kernel_rfl) ?_
    refine ql_nil ?_
    refine e_drop ?_
    refine e_then ?_
    refine c_ret ?_
    refine e_then_ret ?_
    obtain rfl := Option.some.inj hp
    exact post_all (vs := [.int .i64 r1]) (.int .i64 r1) ⟨rfl, trivial⟩ rfl (.inl rfl) (fun w hS => ⟨rfl, hS⟩)
  · skip
    replace hp := if_f ht1 hp
    refine c_skip ?_
    refine e_then ?_
    refine c_seq ?_
    refine c_seq ?_
    refine c_quiet ?_
    refine ql_s (.pointer (some ⟨b2, 0, none⟩)) (by kernel_rfl) ?_
    refine ql_q rfl (qs_ldpt encV fitv35 rfl 0 rfl (.float .f32 s0.Grade) (Nat.le_of_ble_eq_true rfl) rfl) ?_
    refine ql_s (.pointer (some ⟨b2, 1, none⟩)) (by kernel_rfl) ?_
    refine ql_q rfl (qs_ldpt encV fitv35 rfl 0 rfl (.float .f32 s0.Weight) (Nat.le_of_ble_eq_true rfl) rfl) ?_
    refine ql_s (.pointer (some ⟨b2, 3, none⟩)) (by kernel_rfl) ?_
    refine ql_q rfl (qs_ldpt encV fitv35 rfl 0 rfl (.float .f32 s0.Dear) (Nat.le_of_ble_eq_true rfl) rfl) ?_
    refine ql_q rfl (qs_bldArr (zs := [.float .f32 0, .float .f32 0, .float .f32 0]) (cs := [.float .f32 s0.Grade, .float .f32 s0.Weight, .float .f32 s0.Dear]) Tryz.underlying132 (by kernel_rfl) (by kernel_rfl) (by kernel_rfl)) ?_
    refine ql_s (.int .i64 0) (by kernel_rfl) ?_
    refine ql_nil ?_
    refine e_then ?_
    have hm0 : (3 : Nat) = ((3 : Int)).toNat := rfl
    have hb0 : ((3 : Int)) ≤ 4611686018427387904 := by decide
    have hm1 := hm0; have hb1 := hb0; clear hm0 hb0
    obtain ⟨x1, hs1, hp⟩ := bnd_some hp
    obtain ⟨body1, hbody1, hs1⟩ := forI_gen hs1
    refine c_cut_end (fun φ1 D1 As1 => ∃ (s1 : Unit), x1 = .go s1 ∧ Is φ1 [(1, .pointer (some ⟨b2, 0, none⟩))] ∧ PH.le D D1 ∧ As1 = pt b2 [.float .f32 s0.Grade, .float .f32 s0.Weight, .float .f32 s0.Bridge, .float .f32 s0.Dear, .int .i64 s0.Span, .slice s0_v1a s0.Costly.length s0_v1c] 66 :: F) ?_ ?_
    · skip
      refine c_block ?_
      refine c_loop (fun k φ1 D2 As1 => ∃ (j1 i1 : Nat) (s2 : Unit), k = j1 + 1 ∧ i1 + j1 = 3 ∧ Is φ1 [(1, .pointer (some ⟨b2, 0, none⟩)), (28, .agg #[.float .f32 s0.Grade, .float .f32 s0.Weight, .float .f32 s0.Dear]), (29, .int .i64 (i1 : Int))] ∧ PH.le D D2 ∧ As1 = pt b2 [.float .f32 s0.Grade, .float .f32 s0.Weight, .float .f32 s0.Bridge, .float .f32 s0.Dear, .int .i64 s0.Span, .slice s0_v1a s0.Costly.length s0_v1c] 66 :: F ∧ forI body1 j1 i1 s2 = some x1) ⟨3 + 1, 3, 0, (), rfl, Nat.zero_add _, ⟨rfl, rfl, rfl, trivial⟩, (PH.le_refl _), rfl, hs1⟩ ?_ ?_
      · rintro _ _ _ ⟨_, _, _, h0, _⟩; omega
      intro k1
      rintro φ1 D2 As1 ⟨j1, i1, s2, hk1, hij1, hI1, hD1, hA1, hs2⟩
      subst As1
      replace s0_h1 := s0_h1.mono hD1
      refine c_frame _ hI1 ?_
      obtain rfl : k1 = j1 := by omega
      clear hk1
      rcases k1 with _ | j1
      · skip
        refine c_seq ?_
        refine c_quiet ?_
        refine ql_s (.bool (decide ((i1 : Int) < 3))) (by kernel_rfl) ?_
        refine ql_nil ?_
        refine e_then ?_
        refine c_seq ?_
        refine c_cond (decide ((i1 : Int) < 3)) rfl (fun ht2 => absurd ((dec_lt_f hm1 (by omega)).symm.trans ht2) (by simp)) (fun _ => ?_)
        refine c_exit ?_
        refine e_then_exit ?_
        refine e_then_exit ?_
        obtain rfl := Option.some.inj hs2
        refine e_blk_exit ?_
        exact e_cut ⟨(), rfl, ⟨rfl, trivial⟩, hD1, rfl⟩
      · skip
        obtain ⟨y1, hx1, hs2⟩ := forI_some hs2
        replace hx1 := (congrFun (congrFun hbody1 i1) s2).trans hx1
        refine c_seq ?_
        refine c_quiet ?_
        refine ql_s (.bool (decide ((i1 : Int) < 3))) (by kernel_rfl) ?_
        refine ql_nil ?_
        refine e_then ?_
        refine c_seq ?_
        refine c_cond (decide ((i1 : Int) < 3)) rfl (fun _ => ?_) (fun ht3 => absurd ((dec_lt_t hm1 (by omega)).symm.trans ht3) (by simp))
        refine c_skip ?_
        refine e_then ?_
        refine c_seq ?_
        refine c_block ?_
        refine c_seq ?_
        obtain ⟨x2, hx2, hx1⟩ := bnd_some hx1
        refine c_quiet ?_
        refine ql_q rfl (qs_idxArr (D := D2) (e := encF .f32) (xs := ([s0.Grade, s0.Weight, s0.Dear] : List Nat)) (cs := [.float .f32 s0.Grade, .float .f32 s0.Weight, .float .f32 s0.Dear]) Tryz.underlying132 fit35 rfl rfl ⟨rfl, rfl, rfl, trivial⟩ rfl hx2 (v := .float .f32 x2) valF) ?_
        refine ql_s (.float .f32 x2) (by kernel_rfl) ?_
        refine ql_nil ?_
        refine e_then ?_
        refine c_seq ?_
        refine c_cutq_end [(1, .pointer (some ⟨b2, 0, none⟩)), (28, .agg #[.float .f32 s0.Grade, .float .f32 s0.Weight, .float .f32 s0.Dear]), (29, .int .i64 (i1 : Int)), (37, .bool ((flt .f32 x2 0) || (fgt .f32 x2 1149239296)))] ?_ ?_
        · skip
          refine c_quiet ?_
          refine ql_s (.float .f32 x2) (by kernel_rfl) ?_
          refine ql_s (.bool (flt .f32 x2 0)) (by kernel_rfl) ?_
          refine ql_s (.bool (flt .f32 x2 0)) (by kernel_rfl) ?_
          refine ql_case 34 (flt .f32 x2 0) rfl (fun hg1 => ?_) (fun hg1 => ?_)
          · skip
            refine ql_s undef (by kernel_rfl) ?_
            refine ql_s undef (by kernel_rfl) ?_
            refine ql_s (.bool true) (by kernel_rfl) ?_
            refine ql_nil (e_cutq ?_)
            exact ⟨rfl, rfl, rfl, (congrArg Value.bool (by first | rfl | (rw [hg1]; rfl) | simp [hg1])), trivial⟩
          · skip
            refine ql_s (.float .f32 x2) (by kernel_rfl) ?_
            refine ql_s (.bool (fgt .f32 x2 1149239296)) (by kernel_rfl) ?_
            refine ql_s (.bool (fgt .f32 x2 1149239296)) (by kernel_rfl) ?_
            refine ql_nil (e_cutq ?_)
            exact ⟨rfl, rfl, rfl, (congrArg Value.bool (by first | rfl | (rw [hg1]; rfl) | simp [hg1])), trivial⟩
        intro _
        refine e_then ?_
        refine c_cond (((flt .f32 x2 0) || (fgt .f32 x2 1149239296))) rfl (fun ht4 => ?_) (fun ht4 => ?_)
        · skip
          replace hx1 := if_t ht4 hx1
          refine c_seq ?_
          refine c_quiet ?_
          refine ql_s (.int .i64 3) (by kernel_rfl) ?_
          refine ql_nil ?_
          refine e_drop ?_
          refine e_then ?_
          refine c_ret ?_
          refine e_blk_ret ?_
          refine e_then_ret ?_
          refine e_then_ret ?_
          obtain rfl := Option.some.inj hx1
          obtain rfl := hs2
          refine e_blk_ret ?_
          refine e_then_ret ?_
          dsimp only at hp
          refine e_then_ret ?_
          obtain rfl := Option.some.inj hp
          exact post_all (vs := [.int .i64 3]) (.int .i64 3) ⟨rfl, trivial⟩ rfl (.inl rfl) (fun w hS => ⟨rfl, (hS.lower hD1)⟩)
        · skip
          replace hx1 := if_f ht4 hx1
          refine c_skip ?_
          refine e_blk ?_
          refine e_then ?_
          refine c_quiet ?_
          refine ql_s (.int .i64 (addI (i1 : Int) 1)) (by kernel_rfl) ?_
          refine ql_s (.int .i64 (addI (i1 : Int) 1)) (by kernel_rfl) ?_
          refine ql_nil ?_
          obtain rfl := Option.some.inj hx1
          exact e_cut ⟨j1, i1 + 1, (), by omega, by omega, ⟨rfl, rfl, (congrArg (Value.int .i64) (addI_succ (by omega))), trivial⟩, hD1, rfl, hs2⟩
    · skip
      rintro φ2 D1 As2 ⟨s1, rfl, hI2, hD2, hA2⟩
      subst As2
      replace s0_h1 := s0_h1.mono hD2
      dsimp only at hp
      refine e_frame _ hI2 ?_
      refine e_then ?_
      refine c_seq ?_
      refine c_seq ?_
      refine c_cutq_end [(1, .pointer (some ⟨b2, 0, none⟩)), (61, .bool ((flt .f32 s0.Bridge 1065353216) || ((fgt .f32 s0.Bridge 1149239296) || ((s0.Span != 0) && ((decide (s0.Span < 2)) || (decide (s0.Span > 12)))))))] ?_ ?_
      · skip
        refine c_quiet ?_
        refine ql_s (.pointer (some ⟨b2, 2, none⟩)) (by kernel_rfl) ?_
        refine ql_q rfl (qs_ldpt encV fitv35 rfl 0 rfl (.float .f32 s0.Bridge) (Nat.le_of_ble_eq_true rfl) rfl) ?_
        refine ql_s (.bool (flt .f32 s0.Bridge 1065353216)) (by kernel_rfl) ?_
        refine ql_s (.bool (flt .f32 s0.Bridge 1065353216)) (by kernel_rfl) ?_
        refine ql_case 42 (flt .f32 s0.Bridge 1065353216) rfl (fun hg2 => ?_) (fun hg2 => ?_)
        · skip
          refine ql_s undef (by kernel_rfl) ?_
          refine ql_s undef (by kernel_rfl) ?_
          refine ql_s undef (by kernel_rfl) ?_
          refine ql_s (.bool true) (by kernel_rfl) ?_
          refine ql_s (.bool true) (by kernel_rfl) ?_
          refine ql_s undef (by kernel_rfl) ?_
          refine ql_s undef (by kernel_rfl) ?_
          refine ql_s undef (by kernel_rfl) ?_
          refine ql_s undef (by kernel_rfl) ?_
          refine ql_s undef (by kernel_rfl) ?_
          refine ql_s undef (by kernel_rfl) ?_
          refine ql_s undef (by kernel_rfl) ?_
          refine ql_s undef (by kernel_rfl) ?_
          refine ql_s undef (by kernel_rfl) ?_
          refine ql_s undef (by kernel_rfl) ?_
          refine ql_s undef (by kernel_rfl) ?_
          refine ql_s undef (by kernel_rfl) ?_
          refine ql_s undef (by kernel_rfl) ?_
          refine ql_s (.bool true) (by kernel_rfl) ?_
          refine ql_nil (e_cutq ?_)
          exact ⟨rfl, (congrArg Value.bool (by first | rfl | (rw [hg2]; rfl) | simp [hg2])), trivial⟩
        · skip
          refine ql_s (.pointer (some ⟨b2, 2, none⟩)) (by kernel_rfl) ?_
          refine ql_q rfl (qs_ldpt encV fitv35 rfl 0 rfl (.float .f32 s0.Bridge) (Nat.le_of_ble_eq_true rfl) rfl) ?_
          refine ql_s (.bool (fgt .f32 s0.Bridge 1149239296)) (by kernel_rfl) ?_
          refine ql_s (.bool (fgt .f32 s0.Bridge 1149239296)) (by kernel_rfl) ?_
          refine ql_s (.bool (fgt .f32 s0.Bridge 1149239296)) (by kernel_rfl) ?_
          refine ql_case 47 (fgt .f32 s0.Bridge 1149239296) rfl (fun hg3 => ?_) (fun hg3 => ?_)
          · skip
            refine ql_s undef (by kernel_rfl) ?_
            refine ql_s undef (by kernel_rfl) ?_
            refine ql_s undef (by kernel_rfl) ?_
            refine ql_s undef (by kernel_rfl) ?_
            refine ql_s undef (by kernel_rfl) ?_
            refine ql_s undef (by kernel_rfl) ?_
            refine ql_s undef (by kernel_rfl) ?_
            refine ql_s undef (by kernel_rfl) ?_
            refine ql_s undef (by kernel_rfl) ?_
            refine ql_s undef (by kernel_rfl) ?_
            refine ql_s undef (by kernel_rfl) ?_
            refine ql_s undef (by kernel_rfl) ?_
            refine ql_s undef (by kernel_rfl) ?_
            refine ql_s (.bool true) (by kernel_rfl) ?_
            refine ql_nil (e_cutq ?_)
            exact ⟨rfl, (congrArg Value.bool (by first | rfl | (rw [hg2, hg3]; rfl) | simp [hg2, hg3])), trivial⟩
          · skip
            refine ql_s (.pointer (some ⟨b2, 4, none⟩)) (by kernel_rfl) ?_
            refine ql_q rfl (qs_ldpt encV fitv3 rfl 0 rfl (.int .i64 s0.Span) (Nat.le_of_ble_eq_true rfl) rfl) ?_
            refine ql_s (.bool (s0.Span != 0)) (by kernel_rfl) ?_
            refine ql_s (.bool (s0.Span != 0)) (by kernel_rfl) ?_
            refine ql_case 51 ((s0.Span != 0)) rfl (fun hg4 => ?_) (fun hg4 => ?_)
            · skip
              refine ql_s (.pointer (some ⟨b2, 4, none⟩)) (by kernel_rfl) ?_
              refine ql_q rfl (qs_ldpt encV fitv3 rfl 0 rfl (.int .i64 s0.Span) (Nat.le_of_ble_eq_true rfl) rfl) ?_
              refine ql_s (.bool (decide (s0.Span < 2))) (by kernel_rfl) ?_
              refine ql_s (.bool (decide (s0.Span < 2))) (by kernel_rfl) ?_
              refine ql_case 55 (decide (s0.Span < 2)) rfl (fun hg5 => ?_) (fun hg5 => ?_)
              · skip
                refine ql_s undef (by kernel_rfl) ?_
                refine ql_s undef (by kernel_rfl) ?_
                refine ql_s undef (by kernel_rfl) ?_
                refine ql_s (.bool true) (by kernel_rfl) ?_
                refine ql_s (.bool true) (by kernel_rfl) ?_
                refine ql_s (.bool true) (by kernel_rfl) ?_
                refine ql_nil (e_cutq ?_)
                exact ⟨rfl, (congrArg Value.bool (by first | rfl | (rw [hg2, hg3, hg4, hg5]; rfl) | simp [hg2, hg3, hg4, hg5])), trivial⟩
              · skip
                refine ql_s (.pointer (some ⟨b2, 4, none⟩)) (by kernel_rfl) ?_
                refine ql_q rfl (qs_ldpt encV fitv3 rfl 0 rfl (.int .i64 s0.Span) (Nat.le_of_ble_eq_true rfl) rfl) ?_
                refine ql_s (.bool (decide (s0.Span > 12))) (by kernel_rfl) ?_
                refine ql_s (.bool (decide (s0.Span > 12))) (by kernel_rfl) ?_
                refine ql_s (.bool (decide (s0.Span > 12))) (by kernel_rfl) ?_
                refine ql_s (.bool (decide (s0.Span > 12))) (by kernel_rfl) ?_
                refine ql_nil (e_cutq ?_)
                exact ⟨rfl, (congrArg Value.bool (by first | rfl | (rw [hg2, hg3, hg4, hg5]; rfl) | simp [hg2, hg3, hg4, hg5])), trivial⟩
            · skip
              refine ql_s undef (by kernel_rfl) ?_
              refine ql_s undef (by kernel_rfl) ?_
              refine ql_s undef (by kernel_rfl) ?_
              refine ql_s undef (by kernel_rfl) ?_
              refine ql_s undef (by kernel_rfl) ?_
              refine ql_s undef (by kernel_rfl) ?_
              refine ql_s undef (by kernel_rfl) ?_
              refine ql_s undef (by kernel_rfl) ?_
              refine ql_s (.bool false) (by kernel_rfl) ?_
              refine ql_s (.bool false) (by kernel_rfl) ?_
              refine ql_nil (e_cutq ?_)
              exact ⟨rfl, (congrArg Value.bool (by first | rfl | (rw [hg2, hg3, hg4]; rfl) | simp [hg2, hg3, hg4])), trivial⟩
      intro _
      refine e_then ?_
      refine c_cond (((flt .f32 s0.Bridge 1065353216) || ((fgt .f32 s0.Bridge 1149239296) || ((s0.Span != 0) && ((decide (s0.Span < 2)) || (decide (s0.Span > 12))))))) rfl (fun ht5 => ?_) (fun ht5 => ?_)
      · skip
        replace hp := if_t ht5 hp
        refine c_seq ?_
        refine c_quiet ?_
        refine ql_s (.int .i64 3) (by kernel_rfl) ?_
        refine ql_nil ?_
        refine e_drop ?_
        refine e_then ?_
        refine c_ret ?_
        refine e_then_ret ?_
        obtain rfl := Option.some.inj hp
        exact post_all (vs := [.int .i64 3]) (.int .i64 3) ⟨rfl, trivial⟩ rfl (.inl rfl) (fun w hS => ⟨rfl, (hS.lower hD2)⟩)
      · skip
        replace hp := if_f ht5 hp
        refine c_skip ?_
        refine e_then ?_
        refine c_seq ?_
        refine c_seq ?_
        refine c_quiet ?_
        refine ql_s (.pointer (some ⟨b2, 5, none⟩)) (by kernel_rfl) ?_
        refine ql_q rfl (qs_ldpt encV fitv64 rfl 0 rfl (.slice s0_v1a s0.Costly.length s0_v1c) (Nat.le_of_ble_eq_true rfl) rfl) ?_
        refine ql_s (.int .i64 (s0.Costly.length : Int)) (by kernel_rfl) ?_
        refine ql_s (.bool (decide ((s0.Costly.length : Int) > 1))) (by kernel_rfl) ?_
        refine ql_nil ?_
        refine e_then ?_
        refine c_cond (decide ((s0.Costly.length : Int) > 1)) rfl (fun ht6 => ?_) (fun ht6 => ?_)
        · skip
          replace hp := if_t ht6 hp
          refine c_seq ?_
          refine c_quiet ?_
          refine ql_s (.int .i64 4) (by kernel_rfl) ?_
          refine ql_nil ?_
          refine e_drop ?_
          refine e_then ?_
          refine c_ret ?_
          refine e_then_ret ?_
          obtain rfl := Option.some.inj hp
          exact post_all (vs := [.int .i64 4]) (.int .i64 4) ⟨rfl, trivial⟩ rfl (.inl rfl) (fun w hS => ⟨rfl, (hS.lower hD2)⟩)
        · skip
          replace hp := if_f ht6 hp
          refine c_skip ?_
          refine e_then ?_
          refine c_seq ?_
          refine c_seq ?_
          obtain ⟨r2, hr2, hp⟩ := bnd_some hp
          refine c_quiet ?_
          refine ql_s (.pointer (some ⟨b2, 5, none⟩)) (by kernel_rfl) ?_
          refine ql_q rfl (qs_ldpt encV fitv64 rfl 0 rfl (.slice s0_v1a s0.Costly.length s0_v1c) (Nat.le_of_ble_eq_true rfl) rfl) ?_
          refine ql_call (v := .int .i64 r2) rfl (run_call (vs := [.slice s0_v1a s0.Costly.length s0_v1c]) rfl Tryz.call82 rfl) (fun w hS => (field_CheckAll_s s0.Costly s0_v1a s0_v1c _ s0_h1 _ _ hr2 w (hS)).mono fun e w' h => ⟨h.1, h.2⟩) ?_
          refine ql_s (.int .i64 r2) (by kernel_rfl) ?_
          refine ql_nil ?_
          refine e_then ?_
          refine c_seq ?_
          refine c_quiet ?_
          refine ql_s (.int .i64 r2) (by kernel_rfl) ?_
          refine ql_s (.bool (r2 != 0)) (by kernel_rfl) ?_
          refine ql_nil ?_
          refine e_then ?_
          refine c_cond ((r2 != 0)) rfl (fun ht7 => ?_) (fun ht7 => ?_)
          · skip
            replace hp := if_t ht7 hp
            refine c_seq ?_
            refine c_quiet ?_
            refine ql_s (.int .i64 r2) (by kernel_rfl) ?_
            refine ql_s (.int .i64 r2) (by kernel_rfl) ?_
            refine ql_nil ?_
            refine e_drop ?_
            refine e_then ?_
            refine c_ret ?_
            refine e_then_ret ?_
            obtain rfl := Option.some.inj hp
            exact post_all (vs := [.int .i64 r2]) (.int .i64 r2) ⟨rfl, trivial⟩ rfl (.inl rfl) (fun w hS => ⟨rfl, (hS.lower hD2)⟩)
          · skip
            replace hp := if_f ht7 hp
            refine c_skip ?_
            refine e_then ?_
            refine c_seq ?_
            refine c_seq ?_
            refine c_quiet ?_
            refine ql_s (.pointer (some ⟨b2, 5, none⟩)) (by kernel_rfl) ?_
            refine ql_q rfl (qs_ldpt encV fitv64 rfl 0 rfl (.slice s0_v1a s0.Costly.length s0_v1c) (Nat.le_of_ble_eq_true rfl) rfl) ?_
            refine ql_s (.int .i64 (s0.Costly.length : Int)) (by kernel_rfl) ?_
            refine ql_s (.int .i64 0) (by kernel_rfl) ?_
            refine ql_nil ?_
            refine e_drop ?_
            refine e_then ?_
            have hb0 : (s0.Costly.length : Int) ≤ 4611686018427387904 := by have := RO.bound s0_h1; omega
            have hm0 : s0.Costly.length = (s0.Costly.length : Int).toNat := by omega
            have hm2 := hm0; have hb2 := hb0; clear hm0 hb0
            obtain ⟨x3, hs3, hp⟩ := bnd_some hp
            obtain ⟨body2, hbody2, hs3⟩ := forI_gen hs3
            refine c_cut_end (fun φ1 D3 As1 => ∃ (s3 : Unit), x3 = .go s3 ∧ Is φ1 [] ∧ PH.le D1 D3 ∧ As1 = F) ?_ ?_
            · skip
              refine c_block ?_
              refine c_loop (fun k φ1 D4 As1 => ∃ (j2 i2 : Nat) (s4 : Unit), k = j2 + 1 ∧ i2 + j2 = s0.Costly.length ∧ Is φ1 [(73, .slice s0_v1a s0.Costly.length s0_v1c), (74, .int .i64 (s0.Costly.length : Int)), (75, .int .i64 (i2 : Int))] ∧ PH.le D1 D4 ∧ As1 = F ∧ forI body2 j2 i2 s4 = some x3) ⟨s0.Costly.length + 1, s0.Costly.length, 0, (), rfl, Nat.zero_add _, ⟨rfl, rfl, rfl, trivial⟩, (PH.le_refl _), rfl, hs3⟩ ?_ ?_
              · rintro _ _ _ ⟨_, _, _, h0, _⟩; omega
              intro k2
              rintro φ3 D4 As3 ⟨j2, i2, s4, hk2, hij2, hI3, hD3, hA3, hs4⟩
              subst As3
              replace s0_h1 := s0_h1.mono hD3
              refine c_frame _ hI3 ?_
              obtain rfl : k2 = j2 := by omega
              clear hk2
              rcases k2 with _ | j2
              · skip
                refine c_seq ?_
                refine c_quiet ?_
                refine ql_s (.bool (decide ((i2 : Int) < (s0.Costly.length : Int)))) (by kernel_rfl) ?_
                refine ql_nil ?_
                refine e_then ?_
                refine c_seq ?_
                refine c_cond (decide ((i2 : Int) < (s0.Costly.length : Int))) rfl (fun ht8 => absurd ((dec_lt_f hm2 (by omega)).symm.trans ht8) (by simp)) (fun _ => ?_)
                refine c_exit ?_
                refine e_then_exit ?_
                refine e_then_exit ?_
                obtain rfl := Option.some.inj hs4
                refine e_blk_exit ?_
                exact e_cut ⟨(), rfl, trivial, hD3, rfl⟩
              · skip
                obtain ⟨y2, hx3, hs4⟩ := forI_some hs4
                replace hx3 := (congrFun (congrFun hbody2 i2) s4).trans hx3
                refine c_seq ?_
                refine c_quiet ?_
                refine ql_s (.bool (decide ((i2 : Int) < (s0.Costly.length : Int)))) (by kernel_rfl) ?_
                refine ql_nil ?_
                refine e_then ?_
                refine c_seq ?_
                refine c_cond (decide ((i2 : Int) < (s0.Costly.length : Int))) rfl (fun _ => ?_) (fun ht9 => absurd ((dec_lt_t hm2 (by omega)).symm.trans ht9) (by simp))
                refine c_skip ?_
                refine e_then ?_
                refine c_seq ?_
                refine c_block ?_
                refine c_seq ?_
                obtain ⟨x4, hx4, hx3⟩ := bnd_some hx3
                obtain ⟨b5, o1, h1, hq1⟩ := RO.at s0_h1 hx4
                obtain ⟨cs1, hc1, ha1⟩ := h1.cells
                obtain ⟨v1, rfl, h2⟩ := hc1
                obtain ⟨a1, cp3, rfl⟩ := RO.len h2
                refine c_region ?_
                refine l_q rfl (qs_idx hq1 Tryz.underlying64 fit61 rfl rfl) ?_
                refine l_q rfl (qs_ldC fit61 rfl ha1 rfl (.agg #[.int .i64 x4.Region.X, .int .i64 x4.Region.Y, .int .i64 x4.Region.W, .int .i64 x4.Region.H, .slice a1 x4.V.length cp3]) rfl) ?_
                refine l_alloc (zs := [.int .i64 0, .int .i64 0, .int .i64 0, .int .i64 0, .slice none 0 0]) rfl (by kernel_rfl) (fun b7 => ?_)
                refine l_store (dd := none) (vs := [.int .i64 x4.Region.X, .int .i64 x4.Region.Y, .int .i64 x4.Region.W, .int .i64 x4.Region.H, .slice a1 x4.V.length cp3]) (cs' := [.int .i64 x4.Region.X, .int .i64 x4.Region.Y, .int .i64 x4.Region.W, .int .i64 x4.Region.H, .slice a1 x4.V.length cp3]) rfl (by kernel_rfl) (by kernel_rfl) rfl rfl (Nat.le_of_ble_eq_true rfl) rfl rfl ?_
                refine l_nil ?_
                refine e_then ?_
                refine c_seq ?_
                obtain ⟨r3, hr3, hx3⟩ := bnd_some hx3
                refine c_quiet ?_
                refine ql_s (.pointer (some ⟨b7, 4, none⟩)) (by kernel_rfl) ?_
                refine ql_q rfl (qs_ldpt encV fitv38 rfl 0 rfl (.slice a1 x4.V.length cp3) (Nat.le_of_ble_eq_true rfl) rfl) ?_
                refine ql_call (v := .bool r3) rfl (run_call (vs := [.slice a1 x4.V.length cp3, .func (.func 84) #[] #[]]) rfl Tryz.call83 rfl) (fun w hS => (slices_ContainsFunc_float32_float32_s x4.V a1 cp3 _ h2 _ _ hr3 w (hS)).mono fun e w' h => ⟨h.1, h.2⟩) ?_
                refine ql_nil ?_
                refine e_drop ?_
                refine e_then ?_
                refine c_cond (r3) rfl (fun ht10 => ?_) (fun ht10 => ?_)
                · skip
                  replace hx3 := if_t ht10 hx3
                  refine c_seq ?_
                  refine c_quiet ?_
                  refine ql_s (.int .i64 3) (by kernel_rfl) ?_
                  refine ql_nil ?_
                  refine e_then ?_
                  refine c_ret ?_
                  refine e_blk_ret ?_
                  refine e_then_ret ?_
                  refine e_then_ret ?_
                  obtain rfl := Option.some.inj hx3
                  obtain rfl := hs4
                  refine e_blk_ret ?_
                  refine e_then_ret ?_
                  dsimp only at hp
                  refine e_then_ret ?_
                  obtain rfl := Option.some.inj hp
                  exact post_all (vs := [.int .i64 3]) (.int .i64 3) ⟨rfl, trivial⟩ rfl (.inl rfl) (fun w hS => ⟨rfl, (hS.lower (PH.le_trans hD2 hD3))⟩)
                · skip
                  replace hx3 := if_f ht10 hx3
                  refine c_skip ?_
                  refine e_blk ?_
                  refine e_then ?_
                  refine c_quiet ?_
                  refine ql_s (.int .i64 (addI (i2 : Int) 1)) (by kernel_rfl) ?_
                  refine ql_s (.int .i64 (addI (i2 : Int) 1)) (by kernel_rfl) ?_
                  refine ql_nil ?_
                  obtain rfl := Option.some.inj hx3
                  exact e_cut ⟨j2, i2 + 1, (), by omega, by omega, ⟨rfl, rfl, (congrArg (Value.int .i64) (addI_succ (by omega))), trivial⟩, hD3, rfl, hs4⟩
            · skip
              rintro φ4 D3 As4 ⟨s3, rfl, hI4, hD4, hA4⟩
              subst As4
              replace s0_h1 := s0_h1.mono hD4
              dsimp only at hp
              refine e_frame _ hI4 ?_
              refine e_then ?_
              refine c_seq ?_
              refine c_quiet ?_
              refine ql_s (.int .i64 0) (by kernel_rfl) ?_
              refine ql_nil ?_
              refine e_then ?_
              refine c_ret ?_
              obtain rfl := Option.some.inj hp
              exact post_all (vs := [.int .i64 0]) (.int .i64 0) ⟨rfl, trivial⟩ rfl (.inl rfl) (fun w hS => ⟨rfl, (hS.lower (PH.le_trans hD2 hD4))⟩)

-- tarnfell/road.check
set_option maxRecDepth 100000 in
set_option maxHeartbeats 2000000 in
theorem road_check_s (f0 : S_api_Field) (f0_v1a : Option Addr) (f0_v1c : Nat) (s0 : S_api_RoadRules) (s0_v1a : Option Addr) (s0_v1c : Nat) (D : PH) (f0_h1 : RO (encF .f32) D (.slice f0_v1a f0.V.length f0_v1c) f0.V) (s0_h1 : RO encS_api_Field D (.slice s0_v1a s0.Costly.length s0_v1c) s0.Costly) (F : List Assert) (r : Int) (hp : road_check_p f0 s0 = some r) : ∀ w : World, SInv D (F) w → Calls Tryz.prog 41 #[.agg #[.int .i64 f0.Region.X, .int .i64 f0.Region.Y, .int .i64 f0.Region.W, .int .i64 f0.Region.H, .slice f0_v1a f0.V.length f0_v1c], .agg #[.float .f32 s0.Grade, .float .f32 s0.Weight, .float .f32 s0.Bridge, .float .f32 s0.Dear, .int .i64 s0.Span, .slice s0_v1a s0.Costly.length s0_v1c]] w (fun e w' => e = .returned (.int .i64 r) ∧ SInv D (F) w') := by
  intro w hS
  refine call_intro Tryz.func41 rfl Tryz.ntmps41 (Nat.le_of_ble_eq_true rfl) hS ?_
  clear hS w
  unfold road_check_p at hp
  refine c_seq ?_
  refine c_region ?_
  refine l_box (cs := [.int .i64 f0.Region.X, .int .i64 f0.Region.Y, .int .i64 f0.Region.W, .int .i64 f0.Region.H, .slice f0_v1a f0.V.length f0_v1c]) rfl rfl (fun b3 => ?_)
  refine l_box (cs := [.float .f32 s0.Grade, .float .f32 s0.Weight, .float .f32 s0.Bridge, .float .f32 s0.Dear, .int .i64 s0.Span, .slice s0_v1a s0.Costly.length s0_v1c]) rfl rfl (fun b4 => ?_)
  refine l_s (.int .i64 0) (by kernel_rfl) ?_
  refine l_nil ?_
  refine e_then ?_
  refine c_seq ?_
  refine c_seq ?_
  obtain ⟨r1, hr1, hp⟩ := bnd_some hp
  refine c_quiet ?_
  refine ql_q rfl (qs_ldpt (encW 5 (by decide)) fitv61 rfl 1 rfl (.agg #[.int .i64 f0.Region.X, .int .i64 f0.Region.Y, .int .i64 f0.Region.W, .int .i64 f0.Region.H, .slice f0_v1a f0.V.length f0_v1c]) (Nat.le_of_ble_eq_true rfl) rfl) ?_
  refine ql_call (v := .int .i64 r1) rfl (run_call (vs := [.agg #[.int .i64 f0.Region.X, .int .i64 f0.Region.Y, .int .i64 f0.Region.W, .int .i64 f0.Region.H, .slice f0_v1a f0.V.length f0_v1c]]) rfl Tryz.call59 rfl) (fun w hS => (field_Check_s f0 f0_v1a f0_v1c _ f0_h1 _ _ hr1 w (hS)).mono fun e w' h => ⟨h.1, h.2⟩) ?_
  refine ql_s (.int .i64 r1) (by kernel_rfl) ?_
  refine ql_nil ?_
  refine e_then ?_
  refine c_seq ?_
  refine c_quiet ?_
  refine ql_s (.int .i64 r1) (by kernel_rfl) ?_
  refine ql_s (.bool (r1 != 0)) (by kernel_rfl) ?_
  refine ql_nil ?_
  refine e_then ?_
  refine c_cond ((r1 != 0)) rfl (fun ht1 => ?_) (fun ht1 => ?_)
  · skip
    replace hp := if_t ht1 hp
    refine c_seq ?_
    refine c_quiet ?_
    refine ql_s (.int .i64 r1) (by kernel_rfl) ?_
    refine ql_s (.int .i64 r1) (by kernel_rfl) ?_
    refine ql_nil ?_
    refine e_drop ?_
    refine e_drop ?_
    refine e_then ?_
    refine c_ret ?_
    refine e_then_ret ?_
    obtain rfl := Option.some.inj hp
    exact post_all (vs := [.int .i64 r1]) (.int .i64 r1) ⟨rfl, trivial⟩ rfl (.inl rfl) (fun w hS => ⟨rfl, hS⟩)
  · skip
    replace hp := if_f ht1 hp
    refine c_skip ?_
    refine e_then ?_
    refine c_seq ?_
    refine c_seq ?_
    obtain ⟨r2, hr2, hp⟩ := bnd_some hp
    refine c_quiet ?_
    refine ql_q rfl (qs_ldpt (encW 6 (by decide)) fitv66 rfl 0 rfl (.agg #[.float .f32 s0.Grade, .float .f32 s0.Weight, .float .f32 s0.Bridge, .float .f32 s0.Dear, .int .i64 s0.Span, .slice s0_v1a s0.Costly.length s0_v1c]) (Nat.le_of_ble_eq_true rfl) rfl) ?_
    refine ql_call (v := .int .i64 r2) rfl (run_call (vs := [.agg #[.float .f32 s0.Grade, .float .f32 s0.Weight, .float .f32 s0.Bridge, .float .f32 s0.Dear, .int .i64 s0.Span, .slice s0_v1a s0.Costly.length s0_v1c]]) rfl Tryz.call60 rfl) (fun w hS => (road_CheckRules_s s0 s0_v1a s0_v1c _ s0_h1 _ _ hr2 w (hS)).mono fun e w' h => ⟨h.1, h.2⟩) ?_
    refine ql_s (.int .i64 r2) (by kernel_rfl) ?_
    refine ql_nil ?_
    refine e_then ?_
    refine c_seq ?_
    refine c_quiet ?_
    refine ql_s (.int .i64 r2) (by kernel_rfl) ?_
    refine ql_s (.bool (r2 != 0)) (by kernel_rfl) ?_
    refine ql_nil ?_
    refine e_then ?_
    refine c_cond ((r2 != 0)) rfl (fun ht2 => ?_) (fun ht2 => ?_)
    · skip
      replace hp := if_t ht2 hp
      refine c_seq ?_
      refine c_quiet ?_
      refine ql_s (.int .i64 r2) (by kernel_rfl) ?_
      refine ql_s (.int .i64 r2) (by kernel_rfl) ?_
      refine ql_nil ?_
      refine e_drop ?_
      refine e_drop ?_
      refine e_then ?_
      refine c_ret ?_
      refine e_then_ret ?_
      obtain rfl := Option.some.inj hp
      exact post_all (vs := [.int .i64 r2]) (.int .i64 r2) ⟨rfl, trivial⟩ rfl (.inl rfl) (fun w hS => ⟨rfl, hS⟩)
    · skip
      replace hp := if_f ht2 hp
      refine c_skip ?_
      refine e_then ?_
      refine c_seq ?_
      refine c_seq ?_
      refine c_quiet ?_
      refine ql_s (.pointer (some ⟨b4, 5, none⟩)) (by kernel_rfl) ?_
      refine ql_q rfl (qs_ldpt encV fitv64 rfl 0 rfl (.slice s0_v1a s0.Costly.length s0_v1c) (Nat.le_of_ble_eq_true rfl) rfl) ?_
      refine ql_s (.int .i64 (s0.Costly.length : Int)) (by kernel_rfl) ?_
      refine ql_s (.int .i64 0) (by kernel_rfl) ?_
      refine ql_nil ?_
      refine e_drop ?_
      refine e_then ?_
      have hb0 : (s0.Costly.length : Int) ≤ 4611686018427387904 := by have := RO.bound s0_h1; omega
      have hm0 : s0.Costly.length = (s0.Costly.length : Int).toNat := by omega
      have hm1 := hm0; have hb1 := hb0; clear hm0 hb0
      obtain ⟨x1, hs1, hp⟩ := bnd_some hp
      obtain ⟨body1, hbody1, hs1⟩ := forI_gen hs1
      refine c_cut_end (fun φ1 D1 As1 => ∃ (s1 : Unit), x1 = .go s1 ∧ Is φ1 [] ∧ PH.le D D1 ∧ As1 = pt b3 [.int .i64 f0.Region.X, .int .i64 f0.Region.Y, .int .i64 f0.Region.W, .int .i64 f0.Region.H, .slice f0_v1a f0.V.length f0_v1c] 61 :: F) ?_ ?_
      · skip
        refine c_block ?_
        refine c_loop (fun k φ1 D2 As1 => ∃ (j1 i1 : Nat) (s2 : Unit), k = j1 + 1 ∧ i1 + j1 = s0.Costly.length ∧ Is φ1 [(2, .pointer (some ⟨b3, 0, none⟩)), (20, .slice s0_v1a s0.Costly.length s0_v1c), (21, .int .i64 (s0.Costly.length : Int)), (22, .int .i64 (i1 : Int))] ∧ PH.le D D2 ∧ As1 = pt b3 [.int .i64 f0.Region.X, .int .i64 f0.Region.Y, .int .i64 f0.Region.W, .int .i64 f0.Region.H, .slice f0_v1a f0.V.length f0_v1c] 61 :: F ∧ forI body1 j1 i1 s2 = some x1) ⟨s0.Costly.length + 1, s0.Costly.length, 0, (), rfl, Nat.zero_add _, ⟨rfl, rfl, rfl, rfl, trivial⟩, (PH.le_refl _), rfl, hs1⟩ ?_ ?_
        · rintro _ _ _ ⟨_, _, _, h0, _⟩; omega
        intro k1
        rintro φ1 D2 As1 ⟨j1, i1, s2, hk1, hij1, hI1, hD1, hA1, hs2⟩
        subst As1
        replace s0_h1 := s0_h1.mono hD1
        replace f0_h1 := f0_h1.mono hD1
        refine c_frame _ hI1 ?_
        obtain rfl : k1 = j1 := by omega
        clear hk1
        rcases k1 with _ | j1
        · skip
          refine c_seq ?_
          refine c_quiet ?_
          refine ql_s (.bool (decide ((i1 : Int) < (s0.Costly.length : Int)))) (by kernel_rfl) ?_
          refine ql_nil ?_
          refine e_then ?_
          refine c_seq ?_
          refine c_cond (decide ((i1 : Int) < (s0.Costly.length : Int))) rfl (fun ht3 => absurd ((dec_lt_f hm1 (by omega)).symm.trans ht3) (by simp)) (fun _ => ?_)
          refine c_exit ?_
          refine e_then_exit ?_
          refine e_then_exit ?_
          obtain rfl := Option.some.inj hs2
          refine e_blk_exit ?_
          exact e_cut ⟨(), rfl, trivial, hD1, rfl⟩
        · skip
          obtain ⟨y1, hx1, hs2⟩ := forI_some hs2
          replace hx1 := (congrFun (congrFun hbody1 i1) s2).trans hx1
          refine c_seq ?_
          refine c_quiet ?_
          refine ql_s (.bool (decide ((i1 : Int) < (s0.Costly.length : Int)))) (by kernel_rfl) ?_
          refine ql_nil ?_
          refine e_then ?_
          refine c_seq ?_
          refine c_cond (decide ((i1 : Int) < (s0.Costly.length : Int))) rfl (fun _ => ?_) (fun ht4 => absurd ((dec_lt_t hm1 (by omega)).symm.trans ht4) (by simp))
          refine c_skip ?_
          refine e_then ?_
          refine c_seq ?_
          refine c_block ?_
          refine c_seq ?_
          obtain ⟨x2, hx2, hx1⟩ := bnd_some hx1
          obtain ⟨b5, o1, h1, hq1⟩ := RO.at s0_h1 hx2
          obtain ⟨cs1, hc1, ha1⟩ := h1.cells
          obtain ⟨v1, rfl, h2⟩ := hc1
          obtain ⟨a1, cp1, rfl⟩ := RO.len h2
          refine c_region ?_
          refine l_q rfl (qs_idx hq1 Tryz.underlying64 fit61 rfl rfl) ?_
          refine l_q rfl (qs_ldC fit61 rfl ha1 rfl (.agg #[.int .i64 x2.Region.X, .int .i64 x2.Region.Y, .int .i64 x2.Region.W, .int .i64 x2.Region.H, .slice a1 x2.V.length cp1]) rfl) ?_
          refine l_alloc (zs := [.int .i64 0, .int .i64 0, .int .i64 0, .int .i64 0, .slice none 0 0]) rfl (by kernel_rfl) (fun b7 => ?_)
          refine l_store (dd := none) (vs := [.int .i64 x2.Region.X, .int .i64 x2.Region.Y, .int .i64 x2.Region.W, .int .i64 x2.Region.H, .slice a1 x2.V.length cp1]) (cs' := [.int .i64 x2.Region.X, .int .i64 x2.Region.Y, .int .i64 x2.Region.W, .int .i64 x2.Region.H, .slice a1 x2.V.length cp1]) rfl (by kernel_rfl) (by kernel_rfl) rfl rfl (Nat.le_of_ble_eq_true rfl) rfl rfl ?_
          refine l_nil ?_
          refine e_then ?_
          refine c_seq ?_
          refine c_quiet ?_
          refine ql_s (.pointer (some ⟨b7, 0, none⟩)) (by kernel_rfl) ?_
          refine ql_q rfl (qs_ldpt (encW 4 (by decide)) fitv59 rfl 0 rfl (.agg #[.int .i64 x2.Region.X, .int .i64 x2.Region.Y, .int .i64 x2.Region.W, .int .i64 x2.Region.H]) (Nat.le_of_ble_eq_true rfl) rfl) ?_
          refine ql_s (.pointer (some ⟨b3, 0, none⟩)) (by kernel_rfl) ?_
          refine ql_q rfl (qs_ldpt (encW 4 (by decide)) fitv59 rfl 1 rfl (.agg #[.int .i64 f0.Region.X, .int .i64 f0.Region.Y, .int .i64 f0.Region.W, .int .i64 f0.Region.H]) (Nat.le_of_ble_eq_true rfl) rfl) ?_
          refine ql_q rfl (qs_eqS (r := ((x2.Region.X == f0.Region.X) && ((x2.Region.Y == f0.Region.Y) && ((x2.Region.W == f0.Region.W) && ((x2.Region.H == f0.Region.H) && true))))) (v := !(((x2.Region.X == f0.Region.X) && ((x2.Region.Y == f0.Region.Y) && ((x2.Region.W == f0.Region.W) && ((x2.Region.H == f0.Region.H) && true)))))) rfl rfl (by kernel_rfl) (.inr rfl) rfl) ?_
          refine ql_nil ?_
          refine e_drop ?_
          refine e_then ?_
          refine c_cond (!(((x2.Region.X == f0.Region.X) && ((x2.Region.Y == f0.Region.Y) && ((x2.Region.W == f0.Region.W) && ((x2.Region.H == f0.Region.H) && true)))))) rfl (fun ht5 => ?_) (fun ht5 => ?_)
          · skip
            replace hx1 := if_t ht5 hx1
            refine c_seq ?_
            refine c_quiet ?_
            refine ql_s (.int .i64 5) (by kernel_rfl) ?_
            refine ql_nil ?_
            refine e_drop ?_
            refine e_then ?_
            refine c_ret ?_
            refine e_blk_ret ?_
            refine e_then_ret ?_
            refine e_then_ret ?_
            obtain rfl := Option.some.inj hx1
            obtain rfl := hs2
            refine e_blk_ret ?_
            refine e_then_ret ?_
            dsimp only at hp
            refine e_then_ret ?_
            obtain rfl := Option.some.inj hp
            exact post_all (vs := [.int .i64 5]) (.int .i64 5) ⟨rfl, trivial⟩ rfl (.inl rfl) (fun w hS => ⟨rfl, (hS.lower hD1)⟩)
          · skip
            replace hx1 := if_f ht5 hx1
            refine c_skip ?_
            refine e_blk ?_
            refine e_then ?_
            refine c_quiet ?_
            refine ql_s (.int .i64 (addI (i1 : Int) 1)) (by kernel_rfl) ?_
            refine ql_s (.int .i64 (addI (i1 : Int) 1)) (by kernel_rfl) ?_
            refine ql_nil ?_
            obtain rfl := Option.some.inj hx1
            exact e_cut ⟨j1, i1 + 1, (), by omega, by omega, ⟨rfl, rfl, rfl, (congrArg (Value.int .i64) (addI_succ (by omega))), trivial⟩, hD1, rfl, hs2⟩
      · skip
        rintro φ2 D1 As2 ⟨s1, rfl, hI2, hD2, hA2⟩
        subst As2
        replace f0_h1 := f0_h1.mono hD2
        replace s0_h1 := s0_h1.mono hD2
        dsimp only at hp
        refine e_frame _ hI2 ?_
        refine e_then ?_
        refine c_seq ?_
        refine c_quiet ?_
        refine ql_s (.int .i64 0) (by kernel_rfl) ?_
        refine ql_nil ?_
        refine e_drop ?_
        refine e_then ?_
        refine c_ret ?_
        obtain rfl := Option.some.inj hp
        exact post_all (vs := [.int .i64 0]) (.int .i64 0) ⟨rfl, trivial⟩ rfl (.inl rfl) (fun w hS => ⟨rfl, (hS.lower hD2)⟩)

-- tarnfell/field.Place
set_option maxRecDepth 100000 in
set_option maxHeartbeats 2000000 in
theorem field_Place_s (r0 : S_api_Region) (x0 : Int) (y0 : Int) (D : PH)  (F : List Assert) (r : Int × Bool) (hp : field_Place_p r0 x0 y0 = some r) : ∀ w : World, SInv D (F) w → Calls Tryz.prog 44 #[.agg #[.int .i64 r0.X, .int .i64 r0.Y, .int .i64 r0.W, .int .i64 r0.H], .int .i64 x0, .int .i64 y0] w (fun e w' => e = .returned (.tuple #[.int .i64 r.1, .bool r.2]) ∧ SInv D (F) w') := by
  intro w hS
  refine call_intro Tryz.func44 rfl Tryz.ntmps44 (Nat.le_of_ble_eq_true rfl) hS ?_
  clear hS w
  unfold field_Place_p at hp
  refine c_seq ?_
  refine c_region ?_
  refine l_box (cs := [.int .i64 r0.X, .int .i64 r0.Y, .int .i64 r0.W, .int .i64 r0.H]) rfl rfl (fun b2 => ?_)
  refine l_s (.int .i64 0) (by kernel_rfl) ?_
  refine l_s (.bool false) (by kernel_rfl) ?_
  refine l_nil ?_
  refine e_then ?_
  refine c_seq ?_
  refine c_seq ?_
  refine c_cutq_end [(1, .int .i64 x0), (2, .int .i64 y0), (3, .pointer (some ⟨b2, 0, none⟩)), (35, .bool ((decide (x0 < r0.X)) || ((decide (y0 < r0.Y)) || ((decide (x0 ≥ (addI r0.X r0.W))) || (decide (y0 ≥ (addI r0.Y r0.H)))))))] ?_ ?_
  · skip
    refine c_quiet ?_
    refine ql_s (.int .i64 x0) (by kernel_rfl) ?_
    refine ql_s (.pointer (some ⟨b2, 0, none⟩)) (by kernel_rfl) ?_
    refine ql_q rfl (qs_ldpt encV fitv3 rfl 0 rfl (.int .i64 r0.X) (Nat.le_of_ble_eq_true rfl) rfl) ?_
    refine ql_s (.bool (decide (x0 < r0.X))) (by kernel_rfl) ?_
    refine ql_s (.bool (decide (x0 < r0.X))) (by kernel_rfl) ?_
    refine ql_case 12 (decide (x0 < r0.X)) rfl (fun hg1 => ?_) (fun hg1 => ?_)
    · skip
      refine ql_s undef (by kernel_rfl) ?_
      refine ql_s undef (by kernel_rfl) ?_
      refine ql_s undef (by kernel_rfl) ?_
      refine ql_s undef (by kernel_rfl) ?_
      refine ql_s (.bool true) (by kernel_rfl) ?_
      refine ql_s (.bool true) (by kernel_rfl) ?_
      refine ql_s undef (by kernel_rfl) ?_
      refine ql_s undef (by kernel_rfl) ?_
      refine ql_s undef (by kernel_rfl) ?_
      refine ql_s undef (by kernel_rfl) ?_
      refine ql_s undef (by kernel_rfl) ?_
      refine ql_s undef (by kernel_rfl) ?_
      refine ql_s undef (by kernel_rfl) ?_
      refine ql_s (.bool true) (by kernel_rfl) ?_
      refine ql_s (.bool true) (by kernel_rfl) ?_
      refine ql_s undef (by kernel_rfl) ?_
      refine ql_s undef (by kernel_rfl) ?_
      refine ql_s undef (by kernel_rfl) ?_
      refine ql_s undef (by kernel_rfl) ?_
      refine ql_s undef (by kernel_rfl) ?_
      refine ql_s undef (by kernel_rfl) ?_
      refine ql_s undef (by kernel_rfl) ?_
      refine ql_s (.bool true) (by kernel_rfl) ?_
      refine ql_nil (e_cutq ?_)
      exact ⟨rfl, rfl, rfl, (congrArg Value.bool (by first | rfl | (rw [hg1]; rfl) | simp [hg1])), trivial⟩
    · skip
      refine ql_s (.int .i64 y0) (by kernel_rfl) ?_
      refine ql_s (.pointer (some ⟨b2, 1, none⟩)) (by kernel_rfl) ?_
      refine ql_q rfl (qs_ldpt encV fitv3 rfl 0 rfl (.int .i64 r0.Y) (Nat.le_of_ble_eq_true rfl) rfl) ?_
      refine ql_s (.bool (decide (y0 < r0.Y))) (by kernel_rfl) ?_
      refine ql_s (.bool (decide (y0 < r0.Y))) (by kernel_rfl) ?_
      refine ql_s (.bool (decide (y0 < r0.Y))) (by kernel_rfl) ?_
      refine ql_case 18 (decide (y0 < r0.Y)) rfl (fun hg2 => ?_) (fun hg2 => ?_)
      · skip
        refine ql_s undef (by kernel_rfl) ?_
        refine ql_s undef (by kernel_rfl) ?_
        refine ql_s undef (by kernel_rfl) ?_
        refine ql_s undef (by kernel_rfl) ?_
        refine ql_s undef (by kernel_rfl) ?_
        refine ql_s undef (by kernel_rfl) ?_
        refine ql_s undef (by kernel_rfl) ?_
        refine ql_s (.bool true) (by kernel_rfl) ?_
        refine ql_s (.bool true) (by kernel_rfl) ?_
        refine ql_s undef (by kernel_rfl) ?_
        refine ql_s undef (by kernel_rfl) ?_
        refine ql_s undef (by kernel_rfl) ?_
        refine ql_s undef (by kernel_rfl) ?_
        refine ql_s undef (by kernel_rfl) ?_
        refine ql_s undef (by kernel_rfl) ?_
        refine ql_s undef (by kernel_rfl) ?_
        refine ql_s (.bool true) (by kernel_rfl) ?_
        refine ql_nil (e_cutq ?_)
        exact ⟨rfl, rfl, rfl, (congrArg Value.bool (by first | rfl | (rw [hg1, hg2]; rfl) | simp [hg1, hg2])), trivial⟩
      · skip
        refine ql_s (.int .i64 x0) (by kernel_rfl) ?_
        refine ql_s (.pointer (some ⟨b2, 0, none⟩)) (by kernel_rfl) ?_
        refine ql_q rfl (qs_ldpt encV fitv3 rfl 0 rfl (.int .i64 r0.X) (Nat.le_of_ble_eq_true rfl) rfl) ?_
        refine ql_s (.pointer (some ⟨b2, 2, none⟩)) (by kernel_rfl) ?_
        refine ql_q rfl (qs_ldpt encV fitv3 rfl 0 rfl (.int .i64 r0.W) (Nat.le_of_ble_eq_true rfl) rfl) ?_
        refine ql_s (.int .i64 (addI r0.X r0.W)) (by kernel_rfl) ?_
        refine ql_s (.bool (decide (x0 ≥ (addI r0.X r0.W)))) (by kernel_rfl) ?_
        refine ql_s (.bool (decide (x0 ≥ (addI r0.X r0.W)))) (by kernel_rfl) ?_
        refine ql_s (.bool (decide (x0 ≥ (addI r0.X r0.W)))) (by kernel_rfl) ?_
        refine ql_case 27 (decide (x0 ≥ (addI r0.X r0.W))) rfl (fun hg3 => ?_) (fun hg3 => ?_)
        · skip
          refine ql_s undef (by kernel_rfl) ?_
          refine ql_s undef (by kernel_rfl) ?_
          refine ql_s undef (by kernel_rfl) ?_
          refine ql_s undef (by kernel_rfl) ?_
          refine ql_s undef (by kernel_rfl) ?_
          refine ql_s undef (by kernel_rfl) ?_
          refine ql_s undef (by kernel_rfl) ?_
          refine ql_s (.bool true) (by kernel_rfl) ?_
          refine ql_nil (e_cutq ?_)
          exact ⟨rfl, rfl, rfl, (congrArg Value.bool (by first | rfl | (rw [hg1, hg2, hg3]; rfl) | simp [hg1, hg2, hg3])), trivial⟩
        · skip
          refine ql_s (.int .i64 y0) (by kernel_rfl) ?_
          refine ql_s (.pointer (some ⟨b2, 1, none⟩)) (by kernel_rfl) ?_
          refine ql_q rfl (qs_ldpt encV fitv3 rfl 0 rfl (.int .i64 r0.Y) (Nat.le_of_ble_eq_true rfl) rfl) ?_
          refine ql_s (.pointer (some ⟨b2, 3, none⟩)) (by kernel_rfl) ?_
          refine ql_q rfl (qs_ldpt encV fitv3 rfl 0 rfl (.int .i64 r0.H) (Nat.le_of_ble_eq_true rfl) rfl) ?_
          refine ql_s (.int .i64 (addI r0.Y r0.H)) (by kernel_rfl) ?_
          refine ql_s (.bool (decide (y0 ≥ (addI r0.Y r0.H)))) (by kernel_rfl) ?_
          refine ql_s (.bool (decide (y0 ≥ (addI r0.Y r0.H)))) (by kernel_rfl) ?_
          refine ql_nil (e_cutq ?_)
          exact ⟨rfl, rfl, rfl, (congrArg Value.bool (by first | rfl | (rw [hg1, hg2, hg3]; rfl) | simp [hg1, hg2, hg3])), trivial⟩
  intro _
  refine e_then ?_
  refine c_cond (((decide (x0 < r0.X)) || ((decide (y0 < r0.Y)) || ((decide (x0 ≥ (addI r0.X r0.W))) || (decide (y0 ≥ (addI r0.Y r0.H))))))) rfl (fun ht1 => ?_) (fun ht1 => ?_)
  · skip
    replace hp := if_t ht1 hp
    refine c_seq ?_
    refine c_quiet ?_
    refine ql_s (.int .i64 0) (by kernel_rfl) ?_
    refine ql_s (.bool false) (by kernel_rfl) ?_
    refine ql_nil ?_
    refine e_drop ?_
    refine e_then ?_
    refine c_ret ?_
    refine e_then_ret ?_
    obtain rfl := Option.some.inj hp
    exact post_all (vs := [.int .i64 0, .bool false]) (.tuple #[.int .i64 0, .bool false]) ⟨rfl, rfl, trivial⟩ rfl (.inl rfl) (fun w hS => ⟨rfl, hS⟩)
  · skip
    replace hp := if_f ht1 hp
    refine c_skip ?_
    refine e_then ?_
    refine c_seq ?_
    refine c_quiet ?_
    refine ql_s (.int .i64 y0) (by kernel_rfl) ?_
    refine ql_s (.pointer (some ⟨b2, 1, none⟩)) (by kernel_rfl) ?_
    refine ql_q rfl (qs_ldpt encV fitv3 rfl 0 rfl (.int .i64 r0.Y) (Nat.le_of_ble_eq_true rfl) rfl) ?_
    refine ql_s (.int .i64 (subI y0 r0.Y)) (by kernel_rfl) ?_
    refine ql_s (.pointer (some ⟨b2, 2, none⟩)) (by kernel_rfl) ?_
    refine ql_q rfl (qs_ldpt encV fitv3 rfl 0 rfl (.int .i64 r0.W) (Nat.le_of_ble_eq_true rfl) rfl) ?_
    refine ql_s (.int .i64 (mulI (subI y0 r0.Y) r0.W)) (by kernel_rfl) ?_
    refine ql_s (.int .i64 x0) (by kernel_rfl) ?_
    refine ql_s (.int .i64 (addI (mulI (subI y0 r0.Y) r0.W) x0)) (by kernel_rfl) ?_
    refine ql_s (.pointer (some ⟨b2, 0, none⟩)) (by kernel_rfl) ?_
    refine ql_q rfl (qs_ldpt encV fitv3 rfl 0 rfl (.int .i64 r0.X) (Nat.le_of_ble_eq_true rfl) rfl) ?_
    refine ql_s (.int .i64 (subI (addI (mulI (subI y0 r0.Y) r0.W) x0) r0.X)) (by kernel_rfl) ?_
    refine ql_s (.int .i64 (subI (addI (mulI (subI y0 r0.Y) r0.W) x0) r0.X)) (by kernel_rfl) ?_
    refine ql_s (.bool true) (by kernel_rfl) ?_
    refine ql_nil ?_
    refine e_drop ?_
    refine e_then ?_
    refine c_ret ?_
    obtain rfl := Option.some.inj hp
    exact post_all (vs := [.int .i64 (subI (addI (mulI (subI y0 r0.Y) r0.W) x0) r0.X), .bool true]) (.tuple #[.int .i64 (subI (addI (mulI (subI y0 r0.Y) r0.W) x0) r0.X), .bool true]) ⟨rfl, rfl, trivial⟩ rfl (.inl rfl) (fun w hS => ⟨rfl, hS⟩)

-- tarnfell/road.inside
set_option maxRecDepth 100000 in
set_option maxHeartbeats 2000000 in
theorem road_inside_s (f0 : S_api_Field) (f0_v1a : Option Addr) (f0_v1c : Nat) (l0 : List S_api_Point) (l0_v1a : Option Addr) (l0_v1c : Nat) (D : PH) (f0_h1 : RO (encF .f32) D (.slice f0_v1a f0.V.length f0_v1c) f0.V) (l0_h1 : RO encS_api_Point D (.slice l0_v1a l0.length l0_v1c) l0) (F : List Assert) (r : Int) (hp : road_inside_p f0 l0 = some r) : ∀ w : World, SInv D (F) w → Calls Tryz.prog 42 #[.agg #[.int .i64 f0.Region.X, .int .i64 f0.Region.Y, .int .i64 f0.Region.W, .int .i64 f0.Region.H, .slice f0_v1a f0.V.length f0_v1c], .slice l0_v1a l0.length l0_v1c] w (fun e w' => e = .returned (.int .i64 r) ∧ SInv D (F) w') := by
  intro w hS
  refine call_intro Tryz.func42 rfl Tryz.ntmps42 (Nat.le_of_ble_eq_true rfl) hS ?_
  clear hS w
  unfold road_inside_p at hp
  refine c_seq ?_
  refine c_region ?_
  refine l_box (cs := [.int .i64 f0.Region.X, .int .i64 f0.Region.Y, .int .i64 f0.Region.W, .int .i64 f0.Region.H, .slice f0_v1a f0.V.length f0_v1c]) rfl rfl (fun b2 => ?_)
  refine l_s (.int .i64 0) (by kernel_rfl) ?_
  refine l_nil ?_
  refine e_then ?_
  refine c_seq ?_
  refine c_seq ?_
  refine c_quiet ?_
  refine ql_s (.slice l0_v1a l0.length l0_v1c) (by kernel_rfl) ?_
  refine ql_s (.int .i64 (l0.length : Int)) (by kernel_rfl) ?_
  refine ql_s (.int .i64 0) (by kernel_rfl) ?_
  refine ql_nil ?_
  refine e_then ?_
  have hb0 : (l0.length : Int) ≤ 4611686018427387904 := by have := RO.bound l0_h1; omega
  have hm0 : l0.length = (l0.length : Int).toNat := by omega
  have hm1 := hm0; have hb1 := hb0; clear hm0 hb0
  obtain ⟨x1, hs1, hp⟩ := bnd_some hp
  obtain ⟨body1, hbody1, hs1⟩ := forI_gen hs1
  refine c_cut_end (fun φ1 D1 As1 => ∃ (s1 : Unit), x1 = .go s1 ∧ Is φ1 [] ∧ PH.le D D1 ∧ As1 = pt b2 [.int .i64 f0.Region.X, .int .i64 f0.Region.Y, .int .i64 f0.Region.W, .int .i64 f0.Region.H, .slice f0_v1a f0.V.length f0_v1c] 61 :: F) ?_ ?_
  · skip
    refine c_block ?_
    refine c_loop (fun k φ1 D2 As1 => ∃ (j1 i1 : Nat) (s2 : Unit), k = j1 + 1 ∧ i1 + j1 = l0.length ∧ Is φ1 [(2, .pointer (some ⟨b2, 0, none⟩)), (9, .slice l0_v1a l0.length l0_v1c), (10, .int .i64 (l0.length : Int)), (11, .int .i64 (i1 : Int))] ∧ PH.le D D2 ∧ As1 = pt b2 [.int .i64 f0.Region.X, .int .i64 f0.Region.Y, .int .i64 f0.Region.W, .int .i64 f0.Region.H, .slice f0_v1a f0.V.length f0_v1c] 61 :: F ∧ forI body1 j1 i1 s2 = some x1) ⟨l0.length + 1, l0.length, 0, (), rfl, Nat.zero_add _, ⟨rfl, rfl, rfl, rfl, trivial⟩, (PH.le_refl _), rfl, hs1⟩ ?_ ?_
    · rintro _ _ _ ⟨_, _, _, h0, _⟩; omega
    intro k1
    rintro φ1 D2 As1 ⟨j1, i1, s2, hk1, hij1, hI1, hD1, hA1, hs2⟩
    subst As1
    replace l0_h1 := l0_h1.mono hD1
    replace f0_h1 := f0_h1.mono hD1
    refine c_frame _ hI1 ?_
    obtain rfl : k1 = j1 := by omega
    clear hk1
    rcases k1 with _ | j1
    · skip
      refine c_seq ?_
      refine c_quiet ?_
      refine ql_s (.bool (decide ((i1 : Int) < (l0.length : Int)))) (by kernel_rfl) ?_
      refine ql_nil ?_
      refine e_then ?_
      refine c_seq ?_
      refine c_cond (decide ((i1 : Int) < (l0.length : Int))) rfl (fun ht1 => absurd ((dec_lt_f hm1 (by omega)).symm.trans ht1) (by simp)) (fun _ => ?_)
      refine c_exit ?_
      refine e_then_exit ?_
      refine e_then_exit ?_
      obtain rfl := Option.some.inj hs2
      refine e_blk_exit ?_
      exact e_cut ⟨(), rfl, trivial, hD1, rfl⟩
    · skip
      obtain ⟨y1, hx1, hs2⟩ := forI_some hs2
      replace hx1 := (congrFun (congrFun hbody1 i1) s2).trans hx1
      refine c_seq ?_
      refine c_quiet ?_
      refine ql_s (.bool (decide ((i1 : Int) < (l0.length : Int)))) (by kernel_rfl) ?_
      refine ql_nil ?_
      refine e_then ?_
      refine c_seq ?_
      refine c_cond (decide ((i1 : Int) < (l0.length : Int))) rfl (fun _ => ?_) (fun ht2 => absurd ((dec_lt_t hm1 (by omega)).symm.trans ht2) (by simp))
      refine c_skip ?_
      refine e_then ?_
      refine c_seq ?_
      refine c_block ?_
      refine c_seq ?_
      obtain ⟨x2, hx2, hx1⟩ := bnd_some hx1
      obtain ⟨b3, o1, h1, hq1⟩ := RO.at l0_h1 hx2
      obtain ⟨cs1, hc1, ha1⟩ := h1.cells
      obtain rfl := hc1
      refine c_region ?_
      refine l_q rfl (qs_idx hq1 Tryz.underlying22 fit43 rfl rfl) ?_
      refine l_q rfl (qs_ldC fit43 rfl ha1 rfl (.agg #[.int .i64 x2.X, .int .i64 x2.Y]) rfl) ?_
      refine l_alloc (zs := [.int .i64 0, .int .i64 0]) rfl (by kernel_rfl) (fun b5 => ?_)
      refine l_store (dd := none) (vs := [.int .i64 x2.X, .int .i64 x2.Y]) (cs' := [.int .i64 x2.X, .int .i64 x2.Y]) rfl (by kernel_rfl) (by kernel_rfl) rfl rfl (Nat.le_of_ble_eq_true rfl) rfl rfl ?_
      refine l_nil ?_
      refine e_then ?_
      refine c_seq ?_
      obtain ⟨r1, hr1, hx1⟩ := bnd_some hx1
      refine c_quiet ?_
      refine ql_s (.pointer (some ⟨b2, 0, none⟩)) (by kernel_rfl) ?_
      refine ql_q rfl (qs_ldpt (encW 4 (by decide)) fitv59 rfl 1 rfl (.agg #[.int .i64 f0.Region.X, .int .i64 f0.Region.Y, .int .i64 f0.Region.W, .int .i64 f0.Region.H]) (Nat.le_of_ble_eq_true rfl) rfl) ?_
      refine ql_s (.pointer (some ⟨b5, 0, none⟩)) (by kernel_rfl) ?_
      refine ql_q rfl (qs_ldpt encV fitv3 rfl 0 rfl (.int .i64 x2.X) (Nat.le_of_ble_eq_true rfl) rfl) ?_
      refine ql_s (.pointer (some ⟨b5, 1, none⟩)) (by kernel_rfl) ?_
      refine ql_q rfl (qs_ldpt encV fitv3 rfl 0 rfl (.int .i64 x2.Y) (Nat.le_of_ble_eq_true rfl) rfl) ?_
      refine ql_call (v := .tuple #[.int .i64 r1.1, .bool r1.2]) rfl (run_call (vs := [.agg #[.int .i64 f0.Region.X, .int .i64 f0.Region.Y, .int .i64 f0.Region.W, .int .i64 f0.Region.H], .int .i64 x2.X, .int .i64 x2.Y]) rfl Tryz.call44 rfl) (fun w hS => (field_Place_s f0.Region x2.X x2.Y _  _ _ hr1 w (hS)).mono fun e w' h => ⟨h.1, h.2⟩) ?_
      refine ql_s (.tuple #[.int .i64 r1.1, .bool r1.2]) (by kernel_rfl) ?_
      refine ql_s (.int .i64 r1.1) (by kernel_rfl) ?_
      refine ql_s (.bool r1.2) (by kernel_rfl) ?_
      refine ql_s (.int .i64 r1.1) (by kernel_rfl) ?_
      refine ql_s (.bool r1.2) (by kernel_rfl) ?_
      refine ql_nil ?_
      refine e_drop ?_
      refine e_then ?_
      refine c_seq ?_
      refine c_quiet ?_
      refine ql_s (.bool r1.2) (by kernel_rfl) ?_
      refine ql_s (.bool (!r1.2)) (by kernel_rfl) ?_
      refine ql_nil ?_
      refine e_then ?_
      refine c_cond (!r1.2) rfl (fun ht3 => ?_) (fun ht3 => ?_)
      · skip
        replace hx1 := if_t ht3 hx1
        refine c_seq ?_
        refine c_quiet ?_
        refine ql_s (.int .i64 5) (by kernel_rfl) ?_
        refine ql_nil ?_
        refine e_drop ?_
        refine e_then ?_
        refine c_ret ?_
        refine e_blk_ret ?_
        refine e_then_ret ?_
        refine e_then_ret ?_
        obtain rfl := Option.some.inj hx1
        obtain rfl := hs2
        refine e_blk_ret ?_
        refine e_then_ret ?_
        dsimp only at hp
        refine e_then_ret ?_
        obtain rfl := Option.some.inj hp
        exact post_all (vs := [.int .i64 5]) (.int .i64 5) ⟨rfl, trivial⟩ rfl (.inl rfl) (fun w hS => ⟨rfl, (hS.lower hD1)⟩)
      · skip
        replace hx1 := if_f ht3 hx1
        refine c_skip ?_
        refine e_blk ?_
        refine e_then ?_
        refine c_quiet ?_
        refine ql_s (.int .i64 (addI (i1 : Int) 1)) (by kernel_rfl) ?_
        refine ql_s (.int .i64 (addI (i1 : Int) 1)) (by kernel_rfl) ?_
        refine ql_nil ?_
        obtain rfl := Option.some.inj hx1
        exact e_cut ⟨j1, i1 + 1, (), by omega, by omega, ⟨rfl, rfl, rfl, (congrArg (Value.int .i64) (addI_succ (by omega))), trivial⟩, hD1, rfl, hs2⟩
  · skip
    rintro φ2 D1 As2 ⟨s1, rfl, hI2, hD2, hA2⟩
    subst As2
    replace f0_h1 := f0_h1.mono hD2
    dsimp only at hp
    refine e_frame _ hI2 ?_
    refine e_then ?_
    refine c_seq ?_
    refine c_quiet ?_
    refine ql_s (.int .i64 0) (by kernel_rfl) ?_
    refine ql_nil ?_
    refine e_drop ?_
    refine e_then ?_
    refine c_ret ?_
    obtain rfl := Option.some.inj hp
    exact post_all (vs := [.int .i64 0]) (.int .i64 0) ⟨rfl, trivial⟩ rfl (.inl rfl) (fun w hS => ⟨rfl, (hS.lower hD2)⟩)

-- (tarnfell/road.queue).Len
set_option maxRecDepth 100000 in
set_option maxHeartbeats 2000000 in
theorem road_queue_Len_s (q0 : List S_road_reached) (q0_v1a : Option Addr) (q0_v1c : Nat) (D : PH) (q0_h1 : RO encS_road_reached D (.slice q0_v1a q0.length q0_v1c) q0) (F : List Assert) (r : Int) (hp : road_queue_Len_p q0 = some r) : ∀ w : World, SInv D (F) w → Calls Tryz.prog 147 #[.slice q0_v1a q0.length q0_v1c] w (fun e w' => e = .returned (.int .i64 r) ∧ SInv D (F) w') := by
  intro w hS
  refine call_intro Tryz.func147 rfl Tryz.ntmps147 (Nat.le_of_ble_eq_true rfl) hS ?_
  clear hS w
  unfold road_queue_Len_p at hp
  refine c_seq ?_
  refine c_quiet ?_
  refine ql_s (.int .i64 0) (by kernel_rfl) ?_
  refine ql_nil ?_
  refine e_then ?_
  refine c_seq ?_
  refine c_quiet ?_
  refine ql_s (.slice q0_v1a q0.length q0_v1c) (by kernel_rfl) ?_
  refine ql_s (.int .i64 (q0.length : Int)) (by kernel_rfl) ?_
  refine ql_s (.int .i64 (q0.length : Int)) (by kernel_rfl) ?_
  refine ql_nil ?_
  refine e_then ?_
  refine c_ret ?_
  obtain rfl := Option.some.inj hp
  exact post_all (vs := [.int .i64 (q0.length : Int)]) (.int .i64 (q0.length : Int)) ⟨rfl, trivial⟩ rfl (.inl rfl) (fun w hS => ⟨rfl, hS⟩)

-- (tarnfell/road.queue).Swap
set_option maxRecDepth 100000 in
set_option maxHeartbeats 2000000 in
theorem road_queue_Swap_s (q0 : List S_road_reached) (q0_a : Option Addr) (q0_c : Nat) (i0 : Int) (j0 : Int) (D : PH)  (F : List Assert) (r : (List S_road_reached)) (hp : road_queue_Swap_p q0 i0 j0 = some r) : ∀ w : World, SInv D (OwnS D encS_road_reached 136 (.slice q0_a q0.length q0_c) q0 :: F) w → Calls Tryz.prog 149 #[.slice q0_a q0.length q0_c, .int .i64 i0, .int .i64 j0] w (fun e w' => ∃ (D1 : PH) , PH.le D D1 ∧ e = .returned (.tuple #[]) ∧ SInv D1 (OwnS D1 encS_road_reached 136 (.slice q0_a q0.length q0_c) r :: F) w') := by
  intro w hS
  refine call_intro Tryz.func149 rfl Tryz.ntmps149 (Nat.le_of_ble_eq_true rfl) hS ?_
  clear hS w
  unfold road_queue_Swap_p at hp
  obtain ⟨x1, hx1, hp⟩ := bnd_some hp
  obtain ⟨x2, hx2, hp⟩ := bnd_some hp
  obtain ⟨l1, hl1, hp⟩ := bnd_some hp
  replace hl1 := Option.some.inj hl1
  obtain ⟨x3, hx3, hp⟩ := bnd_some hp
  obtain ⟨l2, hl2, hp⟩ := bnd_some hp
  replace hl2 := Option.some.inj hl2
  refine c_adr (fun b1 hb1 hl3 hbd1 hcap1 => ?_)
  refine c_cut_end (fun φ1 D1 As1 => Is φ1 [] ∧ D = D1 ∧ As1 = OwnS D encS_road_reached 136 (.slice q0_a q0.length q0_c) l2 :: F) ?_ ?_
  · skip
    refine c_order (B := []) (.q 0 (.q 1 (.q 2 (.q 3 (.q 4 (.q 5 (.q 6 (.q 8 (.q 9 (.q 10 (.f 7 (.e 11 (.q 12 (.e 13 (.q 14 (.e 15 .nil))))) (.e 11 (.e 7 (.q 12 (.e 13 (.q 14 (.e 15 .nil))))))))))))))))) hmix (by kernel_rfl) (NoPanic.then NoPanic.post) ?_
    refine o_s (.slice q0_a q0.length q0_c) rfl (by kernel_rfl) ?_
    refine o_s (.int .i64 i0) rfl (by kernel_rfl) ?_
    refine o_s (.slice q0_a q0.length q0_c) rfl (by kernel_rfl) ?_
    refine o_s (.int .i64 j0) rfl (by kernel_rfl) ?_
    refine o_s (.slice q0_a q0.length q0_c) rfl (by kernel_rfl) ?_
    refine o_s (.int .i64 j0) rfl (by kernel_rfl) ?_
    refine o_qs rfl rfl (qs_idx (IsIdx.beg (e := encS_road_reached) hb1 rfl hx1) Tryz.underlying138 fit136 rfl rfl) ?_
    refine o_s (.slice q0_a q0.length q0_c) rfl (by kernel_rfl) ?_
    refine o_s (.int .i64 i0) rfl (by kernel_rfl) ?_
    refine o_qs rfl rfl (qs_idx (IsIdx.beg (e := encS_road_reached) hb1 rfl hx2) Tryz.underlying138 fit136 rfl rfl) ?_
    refine o_f ?_ ?_
    · skip
      refine o_qe rfl rfl (PH.le_refl _) (qs_ldS fit136 hb1 rfl rfl 0 rfl (idx_some hx1).2.2 (v := .agg #[.float .f32 x1.price, .int .i64 x1.k]) (fun cs hcs => by rw [show cs = _ from hcs]; rfl)) ?_
      refine o_qe rfl rfl (PH.le_refl _) (qs_ldS fit136 hb1 rfl rfl 0 rfl (idx_some hx2).2.2 (v := .agg #[.float .f32 x2.price, .int .i64 x2.k]) (fun cs hcs => by rw [show cs = _ from hcs]; rfl)) ?_
      refine o_qs rfl rfl (qs_idx (IsIdx.beg (e := encS_road_reached) hb1 rfl hx2) Tryz.underlying138 fit136 rfl rfl) ?_
      refine o_stS (vs := [.float .f32 x1.price, .int .i64 x1.k]) hb1 rfl hl1 rfl rfl (PH.le_refl _) fit136 rfl rfl rfl rfl (idx_some hx2).2.1 ?_
      refine o_qs rfl rfl (qs_idx (IsIdx.beg (e := encS_road_reached) (Beg.set hl1 hb1) (len_set hl1 rfl) hx3) Tryz.underlying138 fit136 rfl rfl) ?_
      refine o_stS (vs := [.float .f32 x2.price, .int .i64 x2.k]) (Beg.set hl1 hb1) (len_set hl1 rfl) hl2 rfl rfl (PH.le_refl _) fit136 rfl rfl rfl rfl (idx_some hx3).2.1 ?_
      refine o_nil ?_
      exact e_cut ⟨trivial, rfl, rfl⟩
    refine o_qe rfl rfl (PH.le_refl _) (qs_ldS fit136 hb1 rfl rfl 0 rfl (idx_some hx2).2.2 (v := .agg #[.float .f32 x2.price, .int .i64 x2.k]) (fun cs hcs => by rw [show cs = _ from hcs]; rfl)) ?_
    refine o_qe rfl rfl (PH.le_refl _) (qs_ldS fit136 hb1 rfl rfl 0 rfl (idx_some hx1).2.2 (v := .agg #[.float .f32 x1.price, .int .i64 x1.k]) (fun cs hcs => by rw [show cs = _ from hcs]; rfl)) ?_
    refine o_qs rfl rfl (qs_idx (IsIdx.beg (e := encS_road_reached) hb1 rfl hx2) Tryz.underlying138 fit136 rfl rfl) ?_
    refine o_stS (vs := [.float .f32 x1.price, .int .i64 x1.k]) hb1 rfl hl1 rfl rfl (PH.le_refl _) fit136 rfl rfl rfl rfl (idx_some hx2).2.1 ?_
    refine o_qs rfl rfl (qs_idx (IsIdx.beg (e := encS_road_reached) (Beg.set hl1 hb1) (len_set hl1 rfl) hx3) Tryz.underlying138 fit136 rfl rfl) ?_
    refine o_stS (vs := [.float .f32 x2.price, .int .i64 x2.k]) (Beg.set hl1 hb1) (len_set hl1 rfl) hl2 rfl rfl (PH.le_refl _) fit136 rfl rfl rfl rfl (idx_some hx3).2.1 ?_
    refine o_nil ?_
    exact e_cut ⟨trivial, rfl, rfl⟩
  · skip
    rintro φ1 _ As1 ⟨hI1, rfl, hA⟩
    subst As1
    refine e_frame _ hI1 ?_
    obtain rfl := Option.some.inj hp
    exact post_all (vs := []) (.tuple #[]) trivial rfl (.inr rfl) (fun w hS => ⟨D, (PH.le_refl _), rfl, hS⟩)

-- (tarnfell/road.queue).Less
set_option maxRecDepth 100000 in
set_option maxHeartbeats 2000000 in
theorem road_queue_Less_s (q0 : List S_road_reached) (q0_v1a : Option Addr) (q0_v1c : Nat) (i0 : Int) (j0 : Int) (D : PH) (q0_h1 : RO encS_road_reached D (.slice q0_v1a q0.length q0_v1c) q0) (F : List Assert) (r : Bool) (hp : road_queue_Less_p q0 i0 j0 = some r) : ∀ w : World, SInv D (F) w → Calls Tryz.prog 148 #[.slice q0_v1a q0.length q0_v1c, .int .i64 i0, .int .i64 j0] w (fun e w' => e = .returned (.bool r) ∧ SInv D (F) w') := by
  intro w hS
  refine call_intro Tryz.func148 rfl Tryz.ntmps148 (Nat.le_of_ble_eq_true rfl) hS ?_
  clear hS w
  unfold road_queue_Less_p at hp
  refine c_seq ?_
  refine c_quiet ?_
  refine ql_s (.bool false) (by kernel_rfl) ?_
  refine ql_nil ?_
  refine e_then ?_
  refine c_seq ?_
  obtain ⟨x1, hx1, hp⟩ := bnd_some hp
  obtain ⟨b1, o1, h1, hq1⟩ := RO.at q0_h1 hx1
  have h2 := AtB.field (e' := encF .f32) (u := x1.price) 0 (by decide) (by intro cs hcs; rw [show cs = _ from hcs]; rfl) h1
  obtain ⟨x2, hx2, hp⟩ := bnd_some hp
  obtain ⟨b2, o2, h3, hq2⟩ := RO.at q0_h1 hx2
  have h4 := AtB.field (e' := encF .f32) (u := x2.price) 0 (by decide) (by intro cs hcs; rw [show cs = _ from hcs]; rfl) h3
  refine c_quiet_draw hmix (by kernel_rfl) ?_
  refine ql_s (.slice q0_v1a q0.length q0_v1c) (by kernel_rfl) ?_
  refine ql_s (.int .i64 i0) (by kernel_rfl) ?_
  refine ql_q rfl (qs_idx hq1 Tryz.underlying138 fit136 rfl rfl) ?_
  refine ql_s (.pointer (some ⟨b1, (o1 + 0), none⟩)) (by kernel_rfl) ?_
  refine ql_q rfl (qs_ldAtV fit35 rfl h2 valF) ?_
  refine ql_s (.slice q0_v1a q0.length q0_v1c) (by kernel_rfl) ?_
  refine ql_s (.int .i64 j0) (by kernel_rfl) ?_
  refine ql_q rfl (qs_idx hq2 Tryz.underlying138 fit136 rfl rfl) ?_
  refine ql_s (.pointer (some ⟨b2, (o2 + 0), none⟩)) (by kernel_rfl) ?_
  refine ql_q rfl (qs_ldAtV fit35 rfl h4 valF) ?_
  refine ql_s (.bool (flt .f32 x1.price x2.price)) (by kernel_rfl) ?_
  refine ql_s (.bool (flt .f32 x1.price x2.price)) (by kernel_rfl) ?_
  refine ql_nil ?_
  refine e_then ?_
  refine c_ret ?_
  obtain rfl := Option.some.inj hp
  exact post_all (vs := [.bool (flt .f32 x1.price x2.price)]) (.bool (flt .f32 x1.price x2.price)) ⟨rfl, trivial⟩ rfl (.inl rfl) (fun w hS => ⟨rfl, hS⟩)

-- container/heap.down
set_option maxRecDepth 100000 in
set_option maxHeartbeats 2000000 in
theorem container_heap_down_s (b_h0 : Nat) (h0 : List S_road_reached) (h0_a : Option Addr) (h0_c : Nat) (i00 : Int) (n0 : Int) (D : PH)  (F : List Assert) (r : Bool × (List S_road_reached)) (hp : container_heap_down_p h0 i00 n0 = some r) : ∀ w : World, SInv D (pt b_h0 [.slice h0_a h0.length h0_c] 138 :: OwnS D encS_road_reached 136 (.slice h0_a h0.length h0_c) h0 :: F) w → Calls Tryz.prog 108 #[.iface 140 (.pointer (some ⟨b_h0, 0, none⟩)), .int .i64 i00, .int .i64 n0] w (fun e w' => ∃ (D1 : PH) , PH.le D D1 ∧ e = .returned (.bool r.1) ∧ SInv D1 (pt b_h0 [.slice h0_a h0.length h0_c] 138 :: OwnS D1 encS_road_reached 136 (.slice h0_a h0.length h0_c) r.2 :: F) w') := by
  intro w hS
  refine call_intro Tryz.func108 rfl Tryz.ntmps108 (Nat.le_of_ble_eq_true rfl) hS ?_
  clear hS w
  unfold container_heap_down_p at hp
  refine c_seq ?_
  refine c_quiet ?_
  refine ql_s (.bool false) (by kernel_rfl) ?_
  refine ql_nil ?_
  refine e_then ?_
  refine c_seq ?_
  refine c_quiet ?_
  refine ql_s (.int .i64 i00) (by kernel_rfl) ?_
  refine ql_s (.int .i64 i00) (by kernel_rfl) ?_
  refine ql_nil ?_
  refine e_then ?_
  refine c_seq ?_
  obtain ⟨x1, hs1, hp⟩ := bnd_some hp
  obtain ⟨body1, hbody1, hs1⟩ := loopP_gen hs1
  refine c_cut_end (fun φ1 D1 As1 => Is φ1 [(1, .int .i64 i00), (7, .int .i64 x1.1)] ∧ PH.le D D1 ∧ As1 = pt b_h0 [.slice h0_a h0.length h0_c] 138 :: OwnS D1 encS_road_reached 136 (.slice h0_a h0.length h0_c) x1.2 :: F) ?_ ?_
  · skip
    refine c_block ?_
    refine c_perm (fr1_perm 1 _) ?_
    refine c_perm (fr1_perm 1 _) ?_
    obtain ⟨kz1, hs1⟩ := loopP_ex hs1
    refine c_loop (fun k φ1 D2 As1 => ∃ (s1 : Int × (List S_road_reached)), Is φ1 [(0, .iface 140 (.pointer (some ⟨b_h0, 0, none⟩))), (1, .int .i64 i00), (2, .int .i64 n0), (7, .int .i64 s1.1)] ∧ PH.le D D2 ∧ As1 = pt b_h0 [.slice h0_a h0.length h0_c] 138 :: OwnS D2 encS_road_reached 136 (.slice h0_a h0.length h0_c) s1.2 :: F ∧ iter body1 k s1 = some x1) ⟨kz1, (i00, h0), ⟨rfl, rfl, rfl, rfl, trivial⟩, (PH.le_refl _), rfl, hs1⟩ ?_ ?_
    · rintro _ _ _ ⟨_, _, _, _, h0⟩; cases h0
    intro k1
    rintro φ1 D2 As1 ⟨s1, hI1, hD1, hA1, hs2⟩
    subst As1
    refine c_frame _ hI1 ?_
    obtain ⟨y1, hx1, hs2⟩ := iter_some hs2
    replace hx1 := (congrFun hbody1 s1).trans hx1
    refine c_block ?_
    refine c_seq ?_
    refine c_quiet ?_
    refine ql_s (.int .i64 s1.1) (by kernel_rfl) ?_
    refine ql_s (.int .i64 (mulI 2 s1.1)) (by kernel_rfl) ?_
    refine ql_s (.int .i64 (addI (mulI 2 s1.1) 1)) (by kernel_rfl) ?_
    refine ql_s (.int .i64 (addI (mulI 2 s1.1) 1)) (by kernel_rfl) ?_
    refine ql_nil ?_
    refine e_then ?_
    refine c_seq ?_
    refine c_seq ?_
    refine c_cutq_end [(0, .iface 140 (.pointer (some ⟨b_h0, 0, none⟩))), (1, .int .i64 i00), (2, .int .i64 n0), (7, .int .i64 s1.1), (8, .int .i64 (addI (mulI 2 s1.1) 1)), (21, .bool ((decide ((addI (mulI 2 s1.1) 1) ≥ n0)) || (decide ((addI (mulI 2 s1.1) 1) < 0))))] ?_ ?_
    · skip
      refine c_quiet ?_
      refine ql_s (.int .i64 (addI (mulI 2 s1.1) 1)) (by kernel_rfl) ?_
      refine ql_s (.int .i64 n0) (by kernel_rfl) ?_
      refine ql_s (.bool (decide ((addI (mulI 2 s1.1) 1) ≥ n0))) (by kernel_rfl) ?_
      refine ql_s (.bool (decide ((addI (mulI 2 s1.1) 1) ≥ n0))) (by kernel_rfl) ?_
      refine ql_case 18 (decide ((addI (mulI 2 s1.1) 1) ≥ n0)) rfl (fun hg1 => ?_) (fun hg1 => ?_)
      · skip
        refine ql_s undef (by kernel_rfl) ?_
        refine ql_s undef (by kernel_rfl) ?_
        refine ql_s (.bool true) (by kernel_rfl) ?_
        refine ql_nil (e_cutq ?_)
        exact ⟨rfl, rfl, rfl, rfl, rfl, (congrArg Value.bool (by first | rfl | (rw [hg1]; rfl) | simp [hg1])), trivial⟩
      · skip
        refine ql_s (.int .i64 (addI (mulI 2 s1.1) 1)) (by kernel_rfl) ?_
        refine ql_s (.bool (decide ((addI (mulI 2 s1.1) 1) < 0))) (by kernel_rfl) ?_
        refine ql_s (.bool (decide ((addI (mulI 2 s1.1) 1) < 0))) (by kernel_rfl) ?_
        refine ql_nil (e_cutq ?_)
        exact ⟨rfl, rfl, rfl, rfl, rfl, (congrArg Value.bool (by first | rfl | (rw [hg1]; rfl) | simp [hg1])), trivial⟩
    intro _
    refine e_then ?_
    refine c_cond (((decide ((addI (mulI 2 s1.1) 1) ≥ n0)) || (decide ((addI (mulI 2 s1.1) 1) < 0)))) rfl (fun ht1 => ?_) (fun ht1 => ?_)
    · skip
      replace hx1 := if_t ht1 hx1
      refine c_exit ?_
      refine e_then_exit ?_
      refine e_blk_other (by decide) ?_
      refine e_then_exit ?_
      obtain rfl := Option.some.inj hx1
      obtain rfl := hs2
      refine e_blk_exit ?_
      refine e_perm (fr1_perm 1 _) ?_
      refine e_perm (fr1_perm 1 _) ?_
      exact e_cut ⟨⟨rfl, rfl, trivial⟩, hD1, rfl⟩
    · skip
      replace hx1 := if_f ht1 hx1
      refine c_skip ?_
      refine e_then ?_
      refine c_seq ?_
      refine c_quiet ?_
      refine ql_s (.int .i64 (addI (mulI 2 s1.1) 1)) (by kernel_rfl) ?_
      refine ql_s (.int .i64 (addI (mulI 2 s1.1) 1)) (by kernel_rfl) ?_
      refine ql_nil ?_
      refine e_then ?_
      refine c_seq ?_
      refine c_seq ?_
      obtain ⟨j2_1, hj2_1, hx1⟩ := bnd_some hx1
      replace hj2_1 := Option.some.inj hj2_1
      refine c_quiet ?_
      refine ql_s (.int .i64 (addI (mulI 2 s1.1) 1)) (by kernel_rfl) ?_
      refine ql_s (.int .i64 (addI (addI (mulI 2 s1.1) 1) 1)) (by kernel_rfl) ?_
      refine ql_s (.int .i64 j2_1) (congrArg (fun z => some (Value.int .i64 z)) hj2_1) ?_
      refine ql_nil ?_
      refine e_then ?_
      refine c_seq ?_
      refine c_perm (fr1_perm 1 _) ?_
      refine c_adr (fun b1 hb1 hl1 hbd1 hcap1 => ?_)
      obtain ⟨c1, hc1, hx1⟩ := bnd_some hx1
      refine c_cutq_end [(0, .iface 140 (.pointer (some ⟨b_h0, 0, none⟩))), (1, .int .i64 i00), (2, .int .i64 n0), (7, .int .i64 s1.1), (9, .int .i64 (addI (mulI 2 s1.1) 1)), (10, .int .i64 j2_1), (33, .bool c1)] ?_ ?_
      · skip
        refine c_quiet ?_
        refine ql_s (.int .i64 j2_1) (by kernel_rfl) ?_
        refine ql_s (.int .i64 n0) (by kernel_rfl) ?_
        refine ql_s (.bool (decide (j2_1 < n0))) (by kernel_rfl) ?_
        refine ql_s (.bool (decide (j2_1 < n0))) (by kernel_rfl) ?_
        refine ql_case 28 (decide (j2_1 < n0)) rfl (fun hg2 => ?_) (fun hg2 => ?_)
        · skip
          replace hc1 := if_t hg2 hc1
          refine ql_s (.iface 140 (.pointer (some ⟨b_h0, 0, none⟩))) (by kernel_rfl) ?_
          refine ql_s (.int .i64 j2_1) (by kernel_rfl) ?_
          refine ql_s (.int .i64 (addI (mulI 2 s1.1) 1)) (by kernel_rfl) ?_
          obtain ⟨r1, hr1, hc1⟩ := bnd_some hc1
          refine ql_ent (v := .bool r1) rfl (ent_methD encV (vs := [.slice h0_a h0.length h0_c, .int .i64 j2_1, .int .i64 (addI (mulI 2 s1.1) 1)]) rfl (by kernel_rfl) Tryz.underlying140 Tryz.call148 fitv138 1 rfl (.slice h0_a h0.length h0_c) (Nat.le_of_ble_eq_true rfl) rfl rfl) (fun w hS => (calls_thaw (PH.le_refl _) (hS) (fun D0' hLl0 hLr0 hS => (show Calls Tryz.prog 148 #[.slice h0_a h0.length h0_c, .int .i64 j2_1, .int .i64 (addI (mulI 2 s1.1) 1)] w (fun e w' => e = .returned (.bool r1) ∧ SInv D0' (pt b_h0 [.slice h0_a h0.length h0_c] 138 :: F) w') from by have hq := road_queue_Less_s s1.2 h0_a h0_c j2_1 (addI (mulI 2 s1.1) 1) _ (by rw [hl1]; exact hLr0) _ _ hr1 w (show SInv D0' (pt b_h0 [.slice h0_a s1.2.length h0_c] 138 :: F) w from by have h2 : SInv D0' (pt b_h0 [.slice h0_a h0.length h0_c] 138 :: F) w := hS; rw [← hl1] at h2; exact h2); (try simp only [hl1] at hq); exact hq).mono fun e w' h => ⟨h.1, h.2⟩)).mono fun e w' h => ⟨h.1, h.2⟩) ?_
          refine ql_s (.bool r1) (by kernel_rfl) ?_
          refine ql_nil (e_cutq ?_)
          obtain rfl := Option.some.inj hc1
          exact ⟨rfl, rfl, rfl, rfl, rfl, rfl, rfl, trivial⟩
        · skip
          replace hc1 := if_f hg2 hc1
          refine ql_s undef (by kernel_rfl) ?_
          refine ql_s undef (by kernel_rfl) ?_
          refine ql_s undef (by kernel_rfl) ?_
          refine ql_s undef (by kernel_rfl) ?_
          refine ql_s (.bool false) (by kernel_rfl) ?_
          refine ql_nil (e_cutq ?_)
          obtain rfl := Option.some.inj hc1
          exact ⟨rfl, rfl, rfl, rfl, rfl, rfl, rfl, trivial⟩
      intro _
      refine e_then ?_
      obtain ⟨s2, hs3, hx1⟩ := bnd_some hx1
      refine c_cut_end (fun φ1 D3 As1 => Is φ1 [(0, .iface 140 (.pointer (some ⟨b_h0, 0, none⟩))), (1, .int .i64 i00), (2, .int .i64 n0), (7, .int .i64 s1.1), (9, .int .i64 s2)] ∧ PH.le D2 D3 ∧ As1 = OwnS D3 encS_road_reached 136 (.slice h0_a h0.length h0_c) s1.2 :: pt b_h0 [.slice h0_a h0.length h0_c] 138 :: F) ?_ ?_
      · skip
        refine c_cond (c1) rfl (fun ht2 => ?_) (fun ht2 => ?_)
        · skip
          replace hs3 := if_t ht2 hs3
          refine c_quiet ?_
          refine ql_s (.int .i64 j2_1) (by kernel_rfl) ?_
          refine ql_s (.int .i64 j2_1) (by kernel_rfl) ?_
          refine ql_nil ?_
          refine e_perm (fr1_perm 1 _) ?_
          refine e_perm (fr1_perm 1 _) ?_
          obtain rfl := Option.some.inj hs3
          exact e_cut ⟨⟨rfl, rfl, rfl, rfl, rfl, trivial⟩, (PH.le_refl _), rfl⟩
        · skip
          replace hs3 := if_f ht2 hs3
          refine c_skip ?_
          refine e_perm (fr1_perm 1 _) ?_
          refine e_perm (fr1_perm 1 _) ?_
          obtain rfl := Option.some.inj hs3
          exact e_cut ⟨⟨rfl, rfl, rfl, rfl, rfl, trivial⟩, (PH.le_refl _), rfl⟩
      · skip
        rintro φ2 D3 As2 ⟨hI2, hD2, hA2⟩
        subst As2
        refine e_frame _ hI2 ?_
        refine e_then ?_
        refine c_seq ?_
        refine c_seq ?_
        obtain ⟨r2, hr2, hx1⟩ := bnd_some hx1
        refine c_quiet ?_
        refine ql_s (.iface 140 (.pointer (some ⟨b_h0, 0, none⟩))) (by kernel_rfl) ?_
        refine ql_s (.int .i64 s2) (by kernel_rfl) ?_
        refine ql_s (.int .i64 s1.1) (by kernel_rfl) ?_
        refine ql_ent (v := .bool r2) rfl (ent_methD encV (vs := [.slice h0_a h0.length h0_c, .int .i64 s2, .int .i64 s1.1]) rfl (by kernel_rfl) Tryz.underlying140 Tryz.call148 fitv138 1 rfl (.slice h0_a h0.length h0_c) (Nat.le_of_ble_eq_true rfl) rfl rfl) (fun w hS => (calls_thaw (PH.le_refl _) (hS) (fun D0' hLl0 hLr0 hS => (show Calls Tryz.prog 148 #[.slice h0_a h0.length h0_c, .int .i64 s2, .int .i64 s1.1] w (fun e w' => e = .returned (.bool r2) ∧ SInv D0' (pt b_h0 [.slice h0_a h0.length h0_c] 138 :: F) w') from by have hq := road_queue_Less_s s1.2 h0_a h0_c s2 s1.1 _ (by rw [hl1]; exact hLr0) _ _ hr2 w (show SInv D0' (pt b_h0 [.slice h0_a s1.2.length h0_c] 138 :: F) w from by have h2 : SInv D0' (pt b_h0 [.slice h0_a h0.length h0_c] 138 :: F) w := hS; rw [← hl1] at h2; exact h2); (try simp only [hl1] at hq); exact hq).mono fun e w' h => ⟨h.1, h.2⟩)).mono fun e w' h => ⟨h.1, h.2⟩) ?_
        refine ql_s (.bool (!r2)) (by kernel_rfl) ?_
        refine ql_nil ?_
        refine e_then ?_
        refine c_cond (!r2) rfl (fun ht3 => ?_) (fun ht3 => ?_)
        · skip
          replace hx1 := if_t ht3 hx1
          refine c_exit ?_
          refine e_then_exit ?_
          refine e_blk_other (by decide) ?_
          refine e_then_exit ?_
          obtain rfl := Option.some.inj hx1
          obtain rfl := hs2
          refine e_blk_exit ?_
          refine e_perm (fr1_perm 1 _) ?_
          exact e_cut ⟨⟨rfl, rfl, trivial⟩, (PH.le_trans hD1 hD2), rfl⟩
        · skip
          replace hx1 := if_f ht3 hx1
          refine c_skip ?_
          refine e_then ?_
          refine c_seq ?_
          obtain ⟨r3, hr3, hx1⟩ := bnd_some hx1
          refine c_region ?_
          refine l_s (.iface 140 (.pointer (some ⟨b_h0, 0, none⟩))) (by kernel_rfl) ?_
          refine l_s (.int .i64 s1.1) (by kernel_rfl) ?_
          refine l_s (.int .i64 s2) (by kernel_rfl) ?_
          refine l_ent rfl (ent_methD encV (vs := [.slice h0_a h0.length h0_c, .int .i64 s1.1, .int .i64 s2]) rfl (by kernel_rfl) Tryz.underlying140 Tryz.call149 fitv138 1 rfl (.slice h0_a h0.length h0_c) (Nat.le_of_ble_eq_true rfl) rfl rfl) (fun v D5 As4 => PH.le D3 D5 ∧ v = .tuple #[] ∧ As4 = OwnS D5 encS_road_reached 136 (.slice h0_a h0.length h0_c) r3 :: pt b_h0 [.slice h0_a h0.length h0_c] 138 :: F) (fun w hS => (show Calls Tryz.prog 149 #[.slice h0_a h0.length h0_c, .int .i64 s1.1, .int .i64 s2] w (fun e w' => ∃ (D5 : PH) , PH.le D3 D5 ∧ e = .returned (.tuple #[]) ∧ SInv D5 (OwnS D5 encS_road_reached 136 (.slice h0_a h0.length h0_c) r3 :: pt b_h0 [.slice h0_a h0.length h0_c] 138 :: F) w') from by have hq := road_queue_Swap_s s1.2 h0_a h0_c s1.1 s2 _  _ _ hr3 w (show SInv D3 (OwnS D3 encS_road_reached 136 (.slice h0_a s1.2.length h0_c) s1.2 :: pt b_h0 [.slice h0_a s1.2.length h0_c] 138 :: F) w from by have h2 : SInv D3 (OwnS D3 encS_road_reached 136 (.slice h0_a h0.length h0_c) s1.2 :: pt b_h0 [.slice h0_a h0.length h0_c] 138 :: F) w := hS; rw [← hl1] at h2; exact h2); (try simp only [hl1] at hq); exact hq).mono fun e w' ⟨D5, hle2, he, hS2⟩ => ⟨_, D5, _, he, ⟨hle2, rfl, rfl⟩, hS2⟩) ?_
          rintro _ D5 As4 ⟨hle2, rfl, hA4⟩
          subst As4
          refine l_nil ?_
          refine e_then ?_
          refine c_quiet ?_
          refine ql_s (.int .i64 s2) (by kernel_rfl) ?_
          refine ql_s (.int .i64 s2) (by kernel_rfl) ?_
          refine ql_nil ?_
          refine e_blk ?_
          refine e_perm (fr1_perm 1 _) ?_
          obtain rfl := Option.some.inj hx1
          exact e_cut ⟨(s2, r3), ⟨rfl, rfl, rfl, rfl, trivial⟩, (PH.le_trans (PH.le_trans hD1 hD2) hle2), rfl, hs2⟩
  · skip
    rintro φ3 D1 As5 ⟨hI3, hD3, hA5⟩
    subst As5
    refine e_frame _ hI3 ?_
    refine e_then ?_
    refine c_seq ?_
    refine c_quiet ?_
    refine ql_s (.int .i64 x1.1) (by kernel_rfl) ?_
    refine ql_s (.int .i64 i00) (by kernel_rfl) ?_
    refine ql_s (.bool (decide (x1.1 > i00))) (by kernel_rfl) ?_
    refine ql_s (.bool (decide (x1.1 > i00))) (by kernel_rfl) ?_
    refine ql_nil ?_
    refine e_then ?_
    refine c_ret ?_
    obtain rfl := Option.some.inj hp
    refine e_perm (fr1_perm 1 _) ?_
    refine e_perm (fr1_perm 1 _) ?_
    exact post_all (vs := [.bool (decide (x1.1 > i00))]) (.bool (decide (x1.1 > i00))) ⟨rfl, trivial⟩ rfl (.inl rfl) (fun w hS => ⟨D1, hD3, rfl, hS⟩)

end Go.Proofs.YtlngccfplnbeiaaGreatDoor
