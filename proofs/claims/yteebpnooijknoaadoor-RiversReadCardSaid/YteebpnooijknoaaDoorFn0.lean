/- Own text, by program: that the code computes the pure functions. -/
import Derived.Test.YteebpnooijknoaaDoorPu
namespace Go.Proofs.YteebpnooijknoaaDoor
open Sx
set_option linter.all false
variable [WB] [GV Tryd.prog]

-- strings.Cut
set_option maxRecDepth 100000 in
set_option maxHeartbeats 3000000 in
theorem strings_Cut_s (s0 : ByteArray) (sep0 : ByteArray) (D : PH)  (F : List Assert) (r : ByteArray × ByteArray × Bool) (hp : cutP s0 sep0 = some r) : ∀ w : World, SInv D (F) w → Calls Tryd.prog 11 #[.string s0, .string sep0] w (fun e w' => e = .returned (.tuple #[.string r.1, .string r.2.1, .bool r.2.2]) ∧ SInv D (F) w') := by
  exact given_cut (P := Tryd.prog) (g := 0) (by kernel_rfl) GV.maxLen (fun s sep m w hs hm => Tryd.strings_Cut s sep m w hs hm) hp

-- strings.Split
set_option maxRecDepth 100000 in
set_option maxHeartbeats 3000000 in
theorem strings_Split_s (s0 : ByteArray) (sep0 : ByteArray) (D : PH)  (F : List Assert) (r : (List ByteArray)) (hp : splitP s0 sep0 = some r) : ∀ w : World, SInv D (F) w → Calls Tryd.prog 22 #[.string s0, .string sep0] w (fun e w' => ∃ (D1 : PH) (q_a1 : Option Addr) (q_cp1 : Nat), PH.le D D1 ∧ e = .returned (.slice q_a1 r.length q_cp1) ∧ RO encStr D1 (.slice q_a1 r.length q_cp1) r ∧ SInv D1 (F) w') := by
  exact given_split (P := Tryd.prog) (g := 0) (by kernel_rfl) GV.maxLen (fun s sep m w hs hm h1 => Tryd.strings_Split s sep m w hs hm h1) hp

-- internal/stringslite.HasPrefix
set_option maxRecDepth 100000 in
set_option maxHeartbeats 3000000 in
theorem internal_stringslite_HasPrefix_s (s0 : ByteArray) (prefix0 : ByteArray) (D : PH)  (F : List Assert) (r : Bool) (hp : internal_stringslite_HasPrefix_p s0 prefix0 = some r) : ∀ w : World, SInv D (F) w → Calls Tryd.prog 68 #[.string s0, .string prefix0] w (fun e w' => e = .returned (.bool r) ∧ SInv D (F) w') := by
  intro w hS
  refine call_intro Tryd.func68 rfl Tryd.ntmps68 (Nat.le_of_ble_eq_true rfl) hS ?_
  clear hS w
  unfold internal_stringslite_HasPrefix_p at hp
  refine c_seq ?_
  refine c_quiet ?_
  refine ql_s (.bool false) (by kernel_rfl) ?_
  refine ql_nil ?_
  refine e_then ?_
  refine c_seq ?_
  obtain ⟨c1, hc1, hp⟩ := bnd_some hp
  refine c_cutq_end [(4, .bool c1)] ?_ ?_
  · skip
    refine c_quiet ?_
    refine ql_s (.string s0) (by kernel_rfl) ?_
    refine ql_q rfl (qs_strLen Tryd.underlying9 rfl) ?_
    refine ql_s (.string prefix0) (by kernel_rfl) ?_
    refine ql_q rfl (qs_strLen Tryd.underlying9 rfl) ?_
    refine ql_s (.bool (decide ((s0.size : Int) ≥ (prefix0.size : Int)))) (by kernel_rfl) ?_
    refine ql_s (.bool (decide ((s0.size : Int) ≥ (prefix0.size : Int)))) (by kernel_rfl) ?_
    refine ql_case 10 (decide ((s0.size : Int) ≥ (prefix0.size : Int))) rfl (fun hg1 => ?_) (fun hg1 => ?_)
    · skip
      replace hc1 := if_t hg1 hc1
      refine ql_s (.string s0) (by kernel_rfl) ?_
      refine ql_s (.string prefix0) (by kernel_rfl) ?_
      refine ql_q rfl (qs_strLen Tryd.underlying9 rfl) ?_
      obtain ⟨z1, hz1, hc1⟩ := bnd_some hc1
      refine ql_q rfl (qs_strSlc Tryd.underlying9 rfl rfl ⟨_, rfl⟩ hz1) ?_
      refine ql_s (.string prefix0) (by kernel_rfl) ?_
      refine ql_q rfl (qs_strCmp (op := .eql) (v := strEq z1 prefix0) rfl rfl rfl rfl) ?_
      refine ql_s (.bool (strEq z1 prefix0)) (by kernel_rfl) ?_
      refine ql_s (.bool (strEq z1 prefix0)) (by kernel_rfl) ?_
      refine ql_nil (e_cutq ?_)
      obtain rfl := Option.some.inj hc1
      exact ⟨rfl, trivial⟩
    · skip
      replace hc1 := if_f hg1 hc1
      refine ql_s undef (by kernel_rfl) ?_
      refine ql_s undef (by kernel_rfl) ?_
      refine ql_s undef (by kernel_rfl) ?_
      refine ql_s undef (by kernel_rfl) ?_
      refine ql_s undef (by kernel_rfl) ?_
      refine ql_s undef (by kernel_rfl) ?_
      refine ql_s (.bool false) (by kernel_rfl) ?_
      refine ql_s (.bool false) (by kernel_rfl) ?_
      refine ql_nil (e_cutq ?_)
      obtain rfl := Option.some.inj hc1
      exact ⟨rfl, trivial⟩
  intro _
  refine e_then ?_
  refine c_ret ?_
  obtain rfl := Option.some.inj hp
  exact post_all (vs := [.bool c1]) (.bool c1) ⟨rfl, trivial⟩ rfl (.inl rfl) (fun w hS => ⟨rfl, hS⟩)

-- internal/stringslite.CutPrefix
set_option maxRecDepth 100000 in
set_option maxHeartbeats 3000000 in
theorem internal_stringslite_CutPrefix_s (s0 : ByteArray) (prefix0 : ByteArray) (D : PH)  (F : List Assert) (r : ByteArray × Bool) (hp : internal_stringslite_CutPrefix_p s0 prefix0 = some r) : ∀ w : World, SInv D (F) w → Calls Tryd.prog 54 #[.string s0, .string prefix0] w (fun e w' => e = .returned (.tuple #[.string r.1, .bool r.2]) ∧ SInv D (F) w') := by
  intro w hS
  refine call_intro Tryd.func54 rfl Tryd.ntmps54 (Nat.le_of_ble_eq_true rfl) hS ?_
  clear hS w
  unfold internal_stringslite_CutPrefix_p at hp
  refine c_seq ?_
  refine c_quiet ?_
  refine ql_s (.string (⟨#[]⟩ : ByteArray)) (by kernel_rfl) ?_
  refine ql_s (.bool false) (by kernel_rfl) ?_
  refine ql_nil ?_
  refine e_then ?_
  refine c_seq ?_
  refine c_seq ?_
  obtain ⟨r1, hr1, hp⟩ := bnd_some hp
  refine c_quiet ?_
  refine ql_s (.string s0) (by kernel_rfl) ?_
  refine ql_s (.string prefix0) (by kernel_rfl) ?_
  refine ql_call (v := .bool r1) rfl (run_call (vs := [.string s0, .string prefix0]) rfl Tryd.call68 rfl) (fun w hS => (internal_stringslite_HasPrefix_s s0 prefix0 _  _ _ hr1 w (hS)).mono fun e w' h => ⟨h.1, h.2⟩) ?_
  refine ql_s (.bool (!r1)) (by kernel_rfl) ?_
  refine ql_nil ?_
  refine e_then ?_
  refine c_cond (!r1) rfl (fun ht1 => ?_) (fun ht1 => ?_)
  · skip
    replace hp := if_t ht1 hp
    refine c_seq ?_
    refine c_quiet ?_
    refine ql_s (.string s0) (by kernel_rfl) ?_
    refine ql_s (.string s0) (by kernel_rfl) ?_
    refine ql_s (.bool false) (by kernel_rfl) ?_
    refine ql_nil ?_
    refine e_then ?_
    refine c_ret ?_
    refine e_then_ret ?_
    obtain rfl := Option.some.inj hp
    exact post_all (vs := [.string s0, .bool false]) (.tuple #[.string s0, .bool false]) ⟨rfl, rfl, trivial⟩ rfl (.inl rfl) (fun w hS => ⟨rfl, hS⟩)
  · skip
    replace hp := if_f ht1 hp
    refine c_skip ?_
    refine e_then ?_
    refine c_seq ?_
    obtain ⟨z1, hz1, hp⟩ := bnd_some hp
    refine c_quiet ?_
    refine ql_s (.string s0) (by kernel_rfl) ?_
    refine ql_s (.string prefix0) (by kernel_rfl) ?_
    refine ql_q rfl (qs_strLen Tryd.underlying9 rfl) ?_
    refine ql_q rfl (qs_strSlc Tryd.underlying9 rfl ⟨_, rfl⟩ rfl hz1) ?_
    refine ql_s (.string z1) (by kernel_rfl) ?_
    refine ql_s (.bool true) (by kernel_rfl) ?_
    refine ql_nil ?_
    refine e_then ?_
    refine c_ret ?_
    obtain rfl := Option.some.inj hp
    exact post_all (vs := [.string z1, .bool true]) (.tuple #[.string z1, .bool true]) ⟨rfl, rfl, trivial⟩ rfl (.inl rfl) (fun w hS => ⟨rfl, hS⟩)

-- strings.CutPrefix
set_option maxRecDepth 100000 in
set_option maxHeartbeats 3000000 in
theorem strings_CutPrefix_s (s0 : ByteArray) (prefix0 : ByteArray) (D : PH)  (F : List Assert) (r : ByteArray × Bool) (hp : strings_CutPrefix_p s0 prefix0 = some r) : ∀ w : World, SInv D (F) w → Calls Tryd.prog 34 #[.string s0, .string prefix0] w (fun e w' => e = .returned (.tuple #[.string r.1, .bool r.2]) ∧ SInv D (F) w') := by
  intro w hS
  refine call_intro Tryd.func34 rfl Tryd.ntmps34 (Nat.le_of_ble_eq_true rfl) hS ?_
  clear hS w
  unfold strings_CutPrefix_p at hp
  refine c_seq ?_
  refine c_quiet ?_
  refine ql_s (.string (⟨#[]⟩ : ByteArray)) (by kernel_rfl) ?_
  refine ql_s (.bool false) (by kernel_rfl) ?_
  refine ql_nil ?_
  refine e_then ?_
  refine c_seq ?_
  obtain ⟨r1, hr1, hp⟩ := bnd_some hp
  refine c_quiet ?_
  refine ql_s (.string s0) (by kernel_rfl) ?_
  refine ql_s (.string prefix0) (by kernel_rfl) ?_
  refine ql_call (v := .tuple #[.string r1.1, .bool r1.2]) rfl (run_call (vs := [.string s0, .string prefix0]) rfl Tryd.call54 rfl) (fun w hS => (internal_stringslite_CutPrefix_s s0 prefix0 _  _ _ hr1 w (hS)).mono fun e w' h => ⟨h.1, h.2⟩) ?_
  refine ql_s (.string r1.1) (by kernel_rfl) ?_
  refine ql_s (.bool r1.2) (by kernel_rfl) ?_
  refine ql_s (.string r1.1) (by kernel_rfl) ?_
  refine ql_s (.bool r1.2) (by kernel_rfl) ?_
  refine ql_nil ?_
  refine e_then ?_
  refine c_ret ?_
  obtain rfl := Option.some.inj hp
  exact post_all (vs := [.string r1.1, .bool r1.2]) (.tuple #[.string r1.1, .bool r1.2]) ⟨rfl, rfl, trivial⟩ rfl (.inl rfl) (fun w hS => ⟨rfl, hS⟩)

-- tarnfell/field.digits
set_option maxRecDepth 100000 in
set_option maxHeartbeats 3000000 in
theorem field_digits_s (s0 : ByteArray) (D : PH)  (F : List Assert) (r : Int) (hp : field_digits_p s0 = some r) : ∀ w : World, SInv D (F) w → Calls Tryd.prog 35 #[.string s0] w (fun e w' => e = .returned (.int .i64 r) ∧ SInv D (F) w') := by
  intro w hS
  refine call_intro Tryd.func35 rfl Tryd.ntmps35 (Nat.le_of_ble_eq_true rfl) hS ?_
  clear hS w
  unfold field_digits_p at hp
  refine c_seq ?_
  refine c_quiet ?_
  refine ql_s (.int .i64 0) (by kernel_rfl) ?_
  refine ql_nil ?_
  refine e_then ?_
  refine c_seq ?_
  refine c_quiet ?_
  refine ql_s (.int .i64 0) (by kernel_rfl) ?_
  refine ql_nil ?_
  refine e_then ?_
  refine c_seq ?_
  obtain ⟨x1, hs1, hp⟩ := bnd_some hp
  obtain ⟨body1, hbody1, hs1⟩ := loopP_gen hs1
  refine c_cut_end (fun φ1 D1 As1 => Is φ1 [(3, .int .i64 x1)] ∧ PH.le D D1 ∧ As1 = F) ?_ ?_
  · skip
    refine c_block ?_
    obtain ⟨kz1, hs1⟩ := loopP_ex hs1
    refine c_loop (fun k φ1 D2 As1 => ∃ (s1 : Int), Is φ1 [(0, .string s0), (3, .int .i64 s1)] ∧ PH.le D D2 ∧ As1 = F ∧ iter body1 k s1 = some x1) ⟨kz1, 0, ⟨rfl, rfl, trivial⟩, (PH.le_refl _), rfl, hs1⟩ ?_ ?_
    · rintro _ _ _ ⟨_, _, _, _, h0⟩; cases h0
    intro k1
    rintro φ1 D2 As1 ⟨s1, hI1, hD1, hA1, hs2⟩
    subst As1
    refine c_frame _ hI1 ?_
    obtain ⟨y1, hx1, hs2⟩ := iter_some hs2
    replace hx1 := (congrFun hbody1 s1).trans hx1
    refine c_seq ?_
    refine c_seq ?_
    obtain ⟨c1, hc1, hx1⟩ := bnd_some hx1
    refine c_cutq_end [(0, .string s0), (3, .int .i64 s1), (19, .bool c1)] ?_ ?_
    · skip
      refine c_quiet ?_
      refine ql_s (.int .i64 s1) (by kernel_rfl) ?_
      refine ql_s (.string s0) (by kernel_rfl) ?_
      refine ql_q rfl (qs_strLen Tryd.underlying9 rfl) ?_
      refine ql_s (.bool (decide (s1 < (s0.size : Int)))) (by kernel_rfl) ?_
      refine ql_s (.bool (decide (s1 < (s0.size : Int)))) (by kernel_rfl) ?_
      refine ql_case 8 (decide (s1 < (s0.size : Int))) rfl (fun hg1 => ?_) (fun hg1 => ?_)
      · skip
        replace hc1 := if_t hg1 hc1
        refine ql_s (.string s0) (by kernel_rfl) ?_
        refine ql_s (.int .i64 s1) (by kernel_rfl) ?_
        obtain ⟨x2, hx2, hc1⟩ := bnd_some hc1
        refine ql_q rfl (qs_strIdx Tryd.underlying9 rfl rfl hx2) ?_
        refine ql_s (.bool (decide ((byteI x2) ≥ 48))) (by kernel_rfl) ?_
        refine ql_s (.bool (decide ((byteI x2) ≥ 48))) (by kernel_rfl) ?_
        refine ql_s (.bool (decide ((byteI x2) ≥ 48))) (by kernel_rfl) ?_
        refine ql_case 14 (decide ((byteI x2) ≥ 48)) rfl (fun hg2 => ?_) (fun hg2 => ?_)
        · skip
          replace hc1 := if_t hg2 hc1
          refine ql_s (.string s0) (by kernel_rfl) ?_
          refine ql_s (.int .i64 s1) (by kernel_rfl) ?_
          obtain ⟨x3, hx3, hc1⟩ := bnd_some hc1
          refine ql_q rfl (qs_strIdx Tryd.underlying9 rfl rfl hx3) ?_
          refine ql_s (.bool (decide ((byteI x3) ≤ 57))) (by kernel_rfl) ?_
          refine ql_s (.bool (decide ((byteI x3) ≤ 57))) (by kernel_rfl) ?_
          refine ql_nil (e_cutq ?_)
          obtain rfl := Option.some.inj hc1
          exact ⟨rfl, rfl, rfl, trivial⟩
        · skip
          replace hc1 := if_f hg2 hc1
          refine ql_s undef (by kernel_rfl) ?_
          refine ql_s undef (by kernel_rfl) ?_
          refine ql_s undef (by kernel_rfl) ?_
          refine ql_s undef (by kernel_rfl) ?_
          refine ql_s (.bool false) (by kernel_rfl) ?_
          refine ql_nil (e_cutq ?_)
          obtain rfl := Option.some.inj hc1
          exact ⟨rfl, rfl, rfl, trivial⟩
      · skip
        replace hc1 := if_f hg1 hc1
        refine ql_s undef (by kernel_rfl) ?_
        refine ql_s undef (by kernel_rfl) ?_
        refine ql_s undef (by kernel_rfl) ?_
        refine ql_s undef (by kernel_rfl) ?_
        refine ql_s (.bool false) (by kernel_rfl) ?_
        refine ql_s (.bool false) (by kernel_rfl) ?_
        refine ql_s undef (by kernel_rfl) ?_
        refine ql_s undef (by kernel_rfl) ?_
        refine ql_s undef (by kernel_rfl) ?_
        refine ql_s undef (by kernel_rfl) ?_
        refine ql_s (.bool false) (by kernel_rfl) ?_
        refine ql_nil (e_cutq ?_)
        obtain rfl := Option.some.inj hc1
        exact ⟨rfl, rfl, rfl, trivial⟩
    intro _
    refine e_then ?_
    refine c_cond (c1) rfl (fun ht1 => ?_) (fun ht1 => ?_)
    · skip
      replace hx1 := if_t ht1 hx1
      refine c_skip ?_
      refine e_then ?_
      refine c_block ?_
      refine c_quiet ?_
      refine ql_s (.int .i64 s1) (by kernel_rfl) ?_
      refine ql_s (.int .i64 (addI s1 1)) (by kernel_rfl) ?_
      refine ql_s (.int .i64 (addI s1 1)) (by kernel_rfl) ?_
      refine ql_nil ?_
      refine e_blk ?_
      obtain rfl := Option.some.inj hx1
      exact e_cut ⟨addI s1 1, ⟨rfl, rfl, trivial⟩, hD1, rfl, hs2⟩
    · skip
      replace hx1 := if_f ht1 hx1
      refine c_exit ?_
      refine e_then_exit ?_
      refine e_then_exit ?_
      obtain rfl := Option.some.inj hx1
      obtain rfl := hs2
      refine e_blk_exit ?_
      exact e_cut ⟨⟨rfl, trivial⟩, hD1, rfl⟩
  · skip
    rintro φ2 D1 As2 ⟨hI2, hD2, hA2⟩
    subst As2
    refine e_frame _ hI2 ?_
    refine e_then ?_
    refine c_seq ?_
    refine c_quiet ?_
    refine ql_s (.int .i64 x1) (by kernel_rfl) ?_
    refine ql_s (.int .i64 x1) (by kernel_rfl) ?_
    refine ql_nil ?_
    refine e_then ?_
    refine c_ret ?_
    obtain rfl := Option.some.inj hp
    exact post_all (vs := [.int .i64 x1]) (.int .i64 x1) ⟨rfl, trivial⟩ rfl (.inl rfl) (fun w hS => ⟨rfl, (hS.lower hD2)⟩)

-- strconv.Atoi
set_option maxRecDepth 100000 in
set_option maxHeartbeats 3000000 in
theorem strconv_Atoi_s (s0 : ByteArray) (D : PH)  (F : List Assert) (r : Int × Bool) (hp : atoiP s0 = some r) : ∀ w : World, SInv D (F) w → Calls Tryd.prog 36 #[.string s0] w (fun e w' => ∃ (D1 : PH) (q_ev1 : Value), PH.le D D1 ∧ e = .returned (.tuple #[.int .i64 r.1, q_ev1]) ∧ ErrIs q_ev1 r.2 ∧ SInv D1 (F) w') := by
  exact given_atoi (P := Tryd.prog) GV.errS GV.errR (fun s h v hv w => Tryd.strconv_Atoi_ok s h v hv w) (fun s h hv tp p w hw => (Tryd.strconv_Atoi_syntax_var s h hv tp p w hw).mono fun e w2 ⟨N, h1, _, _, h4⟩ => ⟨_, N, h1, h4⟩) (fun s h hv tp p w hw => (Tryd.strconv_Atoi_range_var s h hv tp p w hw).mono fun e w2 ⟨N, h1, _, _, h4⟩ => ⟨_, N, h1, h4⟩) hp

-- tarnfell/field.Integer
set_option maxRecDepth 100000 in
set_option maxHeartbeats 3000000 in
theorem field_Integer_s (s0 : ByteArray) (D : PH)  (F : List Assert) (r : Int × Bool) (hp : field_Integer_p s0 = some r) : ∀ w : World, SInv D (F) w → Calls Tryd.prog 23 #[.string s0] w (fun e w' => e = .returned (.tuple #[.int .i64 r.1, .bool r.2]) ∧ SInv D (F) w') := by
  intro w hS
  refine call_intro Tryd.func23 rfl Tryd.ntmps23 (Nat.le_of_ble_eq_true rfl) hS ?_
  clear hS w
  unfold field_Integer_p at hp
  refine c_seq ?_
  refine c_quiet ?_
  refine ql_s (.int .i64 0) (by kernel_rfl) ?_
  refine ql_s (.bool false) (by kernel_rfl) ?_
  refine ql_nil ?_
  refine e_then ?_
  refine c_seq ?_
  obtain ⟨r1, hr1, hp⟩ := bnd_some hp
  refine c_quiet ?_
  refine ql_s (.string s0) (by kernel_rfl) ?_
  refine ql_call (v := .tuple #[.string r1.1, .bool r1.2]) rfl (run_call (vs := [.string s0, .string (⟨#[45]⟩ : ByteArray)]) rfl Tryd.call34 rfl) (fun w hS => (strings_CutPrefix_s s0 (⟨#[45]⟩ : ByteArray) _  _ _ hr1 w (hS)).mono fun e w' h => ⟨h.1, h.2⟩) ?_
  refine ql_s (.tuple #[.string r1.1, .bool r1.2]) (by kernel_rfl) ?_
  refine ql_s (.string r1.1) (by kernel_rfl) ?_
  refine ql_s (.bool r1.2) (by kernel_rfl) ?_
  refine ql_s (.string r1.1) (by kernel_rfl) ?_
  refine ql_s (.bool r1.2) (by kernel_rfl) ?_
  refine ql_nil ?_
  refine e_then ?_
  refine c_seq ?_
  refine c_seq ?_
  obtain ⟨c1, hc1, hp⟩ := bnd_some hp
  refine c_cutq_end [(0, .string s0), (34, .bool c1)] ?_ ?_
  · skip
    refine c_quiet ?_
    refine ql_s (.string r1.1) (by kernel_rfl) ?_
    refine ql_q rfl (qs_strCmp (op := .eql) (v := strEq r1.1 (⟨#[]⟩ : ByteArray)) rfl rfl rfl rfl) ?_
    refine ql_s (.bool (strEq r1.1 (⟨#[]⟩ : ByteArray))) (by kernel_rfl) ?_
    refine ql_case 15 (strEq r1.1 (⟨#[]⟩ : ByteArray)) rfl (fun hg1 => ?_) (fun hg1 => ?_)
    · skip
      replace hc1 := if_t hg1 hc1
      refine ql_s undef (by kernel_rfl) ?_
      refine ql_s undef (by kernel_rfl) ?_
      refine ql_s undef (by kernel_rfl) ?_
      refine ql_s undef (by kernel_rfl) ?_
      refine ql_s undef (by kernel_rfl) ?_
      refine ql_s (.bool true) (by kernel_rfl) ?_
      refine ql_s (.bool true) (by kernel_rfl) ?_
      refine ql_s undef (by kernel_rfl) ?_
      refine ql_s undef (by kernel_rfl) ?_
      refine ql_s undef (by kernel_rfl) ?_
      refine ql_s undef (by kernel_rfl) ?_
      refine ql_s undef (by kernel_rfl) ?_
      refine ql_s undef (by kernel_rfl) ?_
      refine ql_s undef (by kernel_rfl) ?_
      refine ql_s undef (by kernel_rfl) ?_
      refine ql_s undef (by kernel_rfl) ?_
      refine ql_s undef (by kernel_rfl) ?_
      refine ql_s undef (by kernel_rfl) ?_
      refine ql_s (.bool true) (by kernel_rfl) ?_
      refine ql_nil (e_cutq ?_)
      obtain rfl := Option.some.inj hc1
      exact ⟨rfl, rfl, trivial⟩
    · skip
      replace hc1 := if_f hg1 hc1
      refine ql_s (.string r1.1) (by kernel_rfl) ?_
      obtain ⟨r2, hr2, hc1⟩ := bnd_some hc1
      refine ql_call (v := .int .i64 r2) rfl (run_call (vs := [.string r1.1]) rfl Tryd.call35 rfl) (fun w hS => (field_digits_s r1.1 _  _ _ hr2 w (hS)).mono fun e w' h => ⟨h.1, h.2⟩) ?_
      refine ql_s (.string r1.1) (by kernel_rfl) ?_
      refine ql_q rfl (qs_strLen Tryd.underlying9 rfl) ?_
      refine ql_s (.bool (r2 != (r1.1.size : Int))) (by kernel_rfl) ?_
      refine ql_s (.bool (r2 != (r1.1.size : Int))) (by kernel_rfl) ?_
      refine ql_s (.bool (r2 != (r1.1.size : Int))) (by kernel_rfl) ?_
      refine ql_case 22 ((r2 != (r1.1.size : Int))) rfl (fun hg2 => ?_) (fun hg2 => ?_)
      · skip
        replace hc1 := if_t hg2 hc1
        refine ql_s undef (by kernel_rfl) ?_
        refine ql_s undef (by kernel_rfl) ?_
        refine ql_s undef (by kernel_rfl) ?_
        refine ql_s undef (by kernel_rfl) ?_
        refine ql_s undef (by kernel_rfl) ?_
        refine ql_s undef (by kernel_rfl) ?_
        refine ql_s undef (by kernel_rfl) ?_
        refine ql_s undef (by kernel_rfl) ?_
        refine ql_s undef (by kernel_rfl) ?_
        refine ql_s undef (by kernel_rfl) ?_
        refine ql_s undef (by kernel_rfl) ?_
        refine ql_s (.bool true) (by kernel_rfl) ?_
        refine ql_nil (e_cutq ?_)
        obtain rfl := Option.some.inj hc1
        exact ⟨rfl, rfl, trivial⟩
      · skip
        replace hc1 := if_f hg2 hc1
        refine ql_s (.string r1.1) (by kernel_rfl) ?_
        obtain ⟨x1, hx1, hc1⟩ := bnd_some hc1
        refine ql_q rfl (qs_strIdx Tryd.underlying9 rfl rfl hx1) ?_
        refine ql_s (.bool ((byteI x1) == 48)) (by kernel_rfl) ?_
        refine ql_s (.bool ((byteI x1) == 48)) (by kernel_rfl) ?_
        refine ql_case 26 (((byteI x1) == 48)) rfl (fun hg3 => ?_) (fun hg3 => ?_)
        · skip
          replace hc1 := if_t hg3 hc1
          refine ql_s (.string r1.1) (by kernel_rfl) ?_
          refine ql_q rfl (qs_strLen Tryd.underlying9 rfl) ?_
          refine ql_s (.bool (decide ((r1.1.size : Int) > 1))) (by kernel_rfl) ?_
          refine ql_s (.bool (decide ((r1.1.size : Int) > 1))) (by kernel_rfl) ?_
          refine ql_case 30 (decide ((r1.1.size : Int) > 1)) rfl (fun hg4 => ?_) (fun hg4 => ?_)
          · skip
            replace hc1 := if_t hg4 hc1
            refine ql_s undef (by kernel_rfl) ?_
            refine ql_s (.bool true) (by kernel_rfl) ?_
            refine ql_s (.bool true) (by kernel_rfl) ?_
            refine ql_s (.bool true) (by kernel_rfl) ?_
            refine ql_nil (e_cutq ?_)
            obtain rfl := Option.some.inj hc1
            exact ⟨rfl, rfl, trivial⟩
          · skip
            replace hc1 := if_f hg4 hc1
            refine ql_s (.bool r1.2) (by kernel_rfl) ?_
            refine ql_s (.bool r1.2) (by kernel_rfl) ?_
            refine ql_s (.bool r1.2) (by kernel_rfl) ?_
            refine ql_s (.bool r1.2) (by kernel_rfl) ?_
            refine ql_nil (e_cutq ?_)
            obtain rfl := Option.some.inj hc1
            exact ⟨rfl, rfl, trivial⟩
        · skip
          replace hc1 := if_f hg3 hc1
          refine ql_s undef (by kernel_rfl) ?_
          refine ql_s undef (by kernel_rfl) ?_
          refine ql_s undef (by kernel_rfl) ?_
          refine ql_s undef (by kernel_rfl) ?_
          refine ql_s undef (by kernel_rfl) ?_
          refine ql_s undef (by kernel_rfl) ?_
          refine ql_s (.bool false) (by kernel_rfl) ?_
          refine ql_s (.bool false) (by kernel_rfl) ?_
          refine ql_nil (e_cutq ?_)
          obtain rfl := Option.some.inj hc1
          exact ⟨rfl, rfl, trivial⟩
  intro _
  refine e_then ?_
  refine c_cond (c1) rfl (fun ht1 => ?_) (fun ht1 => ?_)
  · skip
    replace hp := if_t ht1 hp
    refine c_seq ?_
    refine c_quiet ?_
    refine ql_s (.int .i64 0) (by kernel_rfl) ?_
    refine ql_s (.bool false) (by kernel_rfl) ?_
    refine ql_nil ?_
    refine e_then ?_
    refine c_ret ?_
    refine e_then_ret ?_
    obtain rfl := Option.some.inj hp
    exact post_all (vs := [.int .i64 0, .bool false]) (.tuple #[.int .i64 0, .bool false]) ⟨rfl, rfl, trivial⟩ rfl (.inl rfl) (fun w hS => ⟨rfl, hS⟩)
  · skip
    replace hp := if_f ht1 hp
    refine c_skip ?_
    refine e_then ?_
    refine c_seq ?_
    obtain ⟨r3, hr3, hp⟩ := bnd_some hp
    refine c_region ?_
    refine l_s (.string s0) (by kernel_rfl) ?_
    refine l_call rfl rfl Tryd.call36 (vs := [.string s0]) rfl (fun v D2 As2 => ∃ (ev2 : Value), PH.le D D2 ∧ v = .tuple #[.int .i64 r3.1, ev2] ∧ ErrIs ev2 r3.2 ∧ As2 = F) (fun w hS => (strconv_Atoi_s s0 _  _ _ hr3 w (hS)).mono fun e w' ⟨D2, ev2, hle2, he, he2, hS2⟩ => ⟨_, D2, _, he, ⟨ev2, hle2, rfl, he2, rfl⟩, hS2⟩) ?_
    rintro _ D2 As2 ⟨ev2, hle2, rfl, he2, hA2⟩
    subst As2
    refine l_s (.tuple #[.int .i64 r3.1, ev2]) (by kernel_rfl) ?_
    refine l_s (.int .i64 r3.1) (by kernel_rfl) ?_
    refine l_s (ev2) (by kernel_rfl) ?_
    refine l_s (.int .i64 r3.1) (by kernel_rfl) ?_
    refine l_s (ev2) (by kernel_rfl) ?_
    refine l_nil ?_
    refine e_then ?_
    refine c_seq ?_
    refine c_quiet_draw hmix (by kernel_rfl) ?_
    refine ql_s (.int .i64 r3.1) (by kernel_rfl) ?_
    refine ql_s (ev2) (by kernel_rfl) ?_
    refine ql_q rfl (qs_errnil (op := .eql) Tryd.underlying73 rfl he2 (.inl rfl) (r := r3.2) rfl) ?_
    refine ql_s (.int .i64 r3.1) (by kernel_rfl) ?_
    refine ql_s (.bool r3.2) (by kernel_rfl) ?_
    refine ql_nil ?_
    refine e_then ?_
    refine c_ret ?_
    obtain rfl := Option.some.inj hp
    exact post_all (vs := [.int .i64 r3.1, .bool r3.2]) (.tuple #[.int .i64 r3.1, .bool r3.2]) ⟨rfl, rfl, trivial⟩ rfl (.inl rfl) (fun w hS => ⟨rfl, (hS.lower hle2)⟩)

-- tarnfell/water.Toward
set_option maxRecDepth 100000 in
set_option maxHeartbeats 3000000 in
theorem water_Toward_s (d0 : Int) (D : PH)  (F : List Assert) (r : S_api_Point) (hp : water_Toward_p d0 = some r) : ∀ w : World, SInv D (F) w → Calls Tryd.prog 24 #[.int .i64 d0] w (fun e w' => e = .returned (.agg #[.int .i64 r.X, .int .i64 r.Y]) ∧ SInv D (F) w') := by
  intro w hS
  refine call_intro Tryd.func24 rfl Tryd.ntmps24 (Nat.le_of_ble_eq_true rfl) hS ?_
  clear hS w
  unfold water_Toward_p at hp
  refine c_seq ?_
  refine c_region ?_
  refine l_alloc (zs := [.int .i64 0, .int .i64 0]) rfl (by kernel_rfl) (fun b2 => ?_)
  refine l_nil ?_
  refine e_then ?_
  refine c_seq ?_
  refine c_region ?_
  refine l_s (.agg #[.int .i64 1, .int .i64 0]) (by kernel_rfl) ?_
  refine l_s (.agg #[.int .i64 1, .int .i64 1]) (by kernel_rfl) ?_
  refine l_s (.agg #[.int .i64 0, .int .i64 1]) (by kernel_rfl) ?_
  refine l_s (.agg #[.int .i64 (-1), .int .i64 1]) (by kernel_rfl) ?_
  refine l_s (.agg #[.int .i64 (-1), .int .i64 0]) (by kernel_rfl) ?_
  refine l_s (.agg #[.int .i64 (-1), .int .i64 (-1)]) (by kernel_rfl) ?_
  refine l_s (.agg #[.int .i64 0, .int .i64 (-1)]) (by kernel_rfl) ?_
  refine l_s (.agg #[.int .i64 1, .int .i64 (-1)]) (by kernel_rfl) ?_
  refine l_q rfl (qs_bldArr (zs := [.int .i64 0, .int .i64 0, .int .i64 0, .int .i64 0, .int .i64 0, .int .i64 0, .int .i64 0, .int .i64 0, .int .i64 0, .int .i64 0, .int .i64 0, .int .i64 0, .int .i64 0, .int .i64 0, .int .i64 0, .int .i64 0]) (cs := [.int .i64 1, .int .i64 0, .int .i64 1, .int .i64 1, .int .i64 0, .int .i64 1, .int .i64 (-1), .int .i64 1, .int .i64 (-1), .int .i64 0, .int .i64 (-1), .int .i64 (-1), .int .i64 0, .int .i64 (-1), .int .i64 1, .int .i64 (-1)]) Tryd.underlying76 (by kernel_rfl) (by kernel_rfl) (by kernel_rfl)) ?_
  refine l_alloc (zs := [.int .i64 0, .int .i64 0, .int .i64 0, .int .i64 0, .int .i64 0, .int .i64 0, .int .i64 0, .int .i64 0, .int .i64 0, .int .i64 0, .int .i64 0, .int .i64 0, .int .i64 0, .int .i64 0, .int .i64 0, .int .i64 0]) rfl (by kernel_rfl) (fun b4 => ?_)
  refine l_store (dd := none) (vs := [.int .i64 1, .int .i64 0, .int .i64 1, .int .i64 1, .int .i64 0, .int .i64 1, .int .i64 (-1), .int .i64 1, .int .i64 (-1), .int .i64 0, .int .i64 (-1), .int .i64 (-1), .int .i64 0, .int .i64 (-1), .int .i64 1, .int .i64 (-1)]) (cs' := [.int .i64 1, .int .i64 0, .int .i64 1, .int .i64 1, .int .i64 0, .int .i64 1, .int .i64 (-1), .int .i64 1, .int .i64 (-1), .int .i64 0, .int .i64 (-1), .int .i64 (-1), .int .i64 0, .int .i64 (-1), .int .i64 1, .int .i64 (-1)]) rfl (by kernel_rfl) (by kernel_rfl) rfl rfl (Nat.le_of_ble_eq_true rfl) rfl rfl ?_
  refine l_nil ?_
  refine e_then ?_
  refine c_seq ?_
  obtain ⟨x1, hx1, hp⟩ := bnd_some hp
  refine c_region ?_
  refine l_s (.int .i64 d0) (by kernel_rfl) ?_
  refine l_q rfl (qs_idxAP Tryd.underlying76 (by kernel_rfl) (sz := 2) (by kernel_rfl) rfl rfl (idx_some hx1).1 (idx_lt hx1 rfl)) ?_
  refine l_q rfl (qs_ldAP (D0 := D) (cs := [.int .i64 1, .int .i64 0, .int .i64 1, .int .i64 1, .int .i64 0, .int .i64 1, .int .i64 (-1), .int .i64 1, .int .i64 (-1), .int .i64 0, .int .i64 (-1), .int .i64 (-1), .int .i64 0, .int .i64 (-1), .int .i64 1, .int .i64 (-1)]) fit50 (off := 0) (xs := ([(⟨1, 0⟩ : S_api_Point), (⟨1, 1⟩ : S_api_Point), (⟨0, 1⟩ : S_api_Point), (⟨(-1), 1⟩ : S_api_Point), (⟨(-1), 0⟩ : S_api_Point), (⟨(-1), (-1)⟩ : S_api_Point), (⟨0, (-1)⟩ : S_api_Point), (⟨1, (-1)⟩ : S_api_Point)] : List S_api_Point)) rfl rfl 0 rfl ⟨rfl, rfl, rfl, rfl, rfl, rfl, rfl, rfl, trivial⟩ hx1 (v := .agg #[.int .i64 x1.X, .int .i64 x1.Y]) (fun cs hcs => by rw [show cs = _ from hcs]; rfl)) ?_
  refine l_perm (fr1_perm 1 _) ?_
  refine l_store (dd := none) (vs := [.int .i64 x1.X, .int .i64 x1.Y]) (cs' := [.int .i64 x1.X, .int .i64 x1.Y]) rfl (by kernel_rfl) (by kernel_rfl) rfl rfl (Nat.le_of_ble_eq_true rfl) rfl rfl ?_
  refine l_nil ?_
  refine e_perm (fr1_perm 1 _) ?_
  refine e_drop ?_
  refine e_then ?_
  refine c_ret ?_
  obtain rfl := Option.some.inj hp
  exact post_all (vs := [.agg #[.int .i64 x1.X, .int .i64 x1.Y]]) (.agg #[.int .i64 x1.X, .int .i64 x1.Y]) ⟨⟨_, 0, _, _, 2, by decide, rfl, rfl, .inr ⟨fitv50, rfl, rfl⟩⟩, trivial⟩ rfl (.inl rfl) (fun w hS => ⟨rfl, hS.tail⟩)

-- tarnfell/water.readRiver
set_option maxRecDepth 100000 in
set_option maxHeartbeats 3000000 in
theorem water_readRiver_s (line0 : ByteArray) (D : PH)  (F : List Assert) (r : S_api_River × Bool) (hp : water_readRiver_p line0 = some r) : ∀ w : World, SInv D (F) w → Calls Tryd.prog 12 #[.string line0] w (fun e w' => ∃ (D1 : PH) (q_a1 : Option Addr) (q_cp1 : Nat), PH.le D D1 ∧ e = .returned (.tuple #[.agg #[.slice q_a1 r.1.Points.length q_cp1, .int .i64 r.1.Amount, .int .i64 r.1.Order, .int .i64 r.1.Into], .bool r.2]) ∧ RO encS_api_Point D1 (.slice q_a1 r.1.Points.length q_cp1) r.1.Points ∧ SInv D1 (F) w') := by
  intro w hS
  refine call_intro Tryd.func12 rfl Tryd.ntmps12 (Nat.le_of_ble_eq_true rfl) hS ?_
  clear hS w
  unfold water_readRiver_p at hp
  refine c_seq ?_
  refine c_region ?_
  refine l_alloc (zs := [.slice none 0 0, .int .i64 0, .int .i64 0, .int .i64 0]) rfl (by kernel_rfl) (fun b2 => ?_)
  refine l_s (.bool false) (by kernel_rfl) ?_
  refine l_nil ?_
  refine e_then ?_
  refine c_seq ?_
  obtain ⟨r1, hr1, hp⟩ := bnd_some hp
  refine c_region ?_
  refine l_s (.string line0) (by kernel_rfl) ?_
  refine l_call rfl rfl Tryd.call22 (vs := [.string line0, .string (⟨#[32]⟩ : ByteArray)]) rfl (fun v D2 As2 => ∃ (a2 : Option Addr) (cp2 : Nat), PH.le D D2 ∧ v = .slice a2 r1.length cp2 ∧ RO encStr D2 (.slice a2 r1.length cp2) r1 ∧ As2 = pt b2 [.slice none 0 0, .int .i64 0, .int .i64 0, .int .i64 0] 38 :: F) (fun w hS => (strings_Split_s line0 (⟨#[32]⟩ : ByteArray) _  _ _ hr1 w (hS)).mono fun e w' ⟨D2, a2, cp2, hle2, he, h2, hS2⟩ => ⟨_, D2, _, he, ⟨a2, cp2, hle2, rfl, h2, rfl⟩, hS2⟩) ?_
  rintro _ D2 As2 ⟨a2, cp2, hle2, rfl, h2, hA2⟩
  subst As2
  refine l_s (.slice a2 r1.length cp2) (by kernel_rfl) ?_
  refine l_nil ?_
  refine e_then ?_
  refine c_seq ?_
  refine c_seq ?_
  obtain ⟨c1, hc1, hp⟩ := bnd_some hp
  refine c_cutq_end [(2, .pointer (some ⟨b2, 0, none⟩)), (4, .slice a2 r1.length cp2), (22, .bool c1)] ?_ ?_
  · skip
    refine c_quiet ?_
    refine ql_s (.slice a2 r1.length cp2) (by kernel_rfl) ?_
    refine ql_s (.int .i64 (r1.length : Int)) (by kernel_rfl) ?_
    refine ql_s (.bool ((r1.length : Int) != 7)) (by kernel_rfl) ?_
    refine ql_s (.bool ((r1.length : Int) != 7)) (by kernel_rfl) ?_
    refine ql_case 17 (((r1.length : Int) != 7)) rfl (fun hg1 => ?_) (fun hg1 => ?_)
    · skip
      replace hc1 := if_t hg1 hc1
      refine ql_s undef (by kernel_rfl) ?_
      refine ql_s undef (by kernel_rfl) ?_
      refine ql_s undef (by kernel_rfl) ?_
      refine ql_s undef (by kernel_rfl) ?_
      refine ql_s (.bool true) (by kernel_rfl) ?_
      refine ql_nil (e_cutq ?_)
      obtain rfl := Option.some.inj hc1
      exact ⟨rfl, rfl, rfl, trivial⟩
    · skip
      replace hc1 := if_f hg1 hc1
      refine ql_s (.slice a2 r1.length cp2) (by kernel_rfl) ?_
      obtain ⟨x1, hx1, hc1⟩ := bnd_some hc1
      obtain ⟨b3, o1, h3, hq1⟩ := RO.at h2 hx1
      refine ql_q rfl (qs_idx hq1 Tryd.underlying56 fit9 rfl rfl) ?_
      refine ql_q rfl (qs_ldAtV fit9 rfl h3 valS) ?_
      refine ql_q rfl (qs_strCmp (op := .neq) (v := !(strEq x1 (⟨#[114, 105, 118, 101, 114]⟩ : ByteArray))) rfl rfl rfl rfl) ?_
      refine ql_s (.bool (!(strEq x1 (⟨#[114, 105, 118, 101, 114]⟩ : ByteArray)))) (by kernel_rfl) ?_
      refine ql_nil (e_cutq ?_)
      obtain rfl := Option.some.inj hc1
      exact ⟨rfl, rfl, rfl, trivial⟩
  intro _
  refine e_then ?_
  refine c_cond (c1) rfl (fun ht1 => ?_) (fun ht1 => ?_)
  · skip
    replace hp := if_t ht1 hp
    refine c_seq ?_
    refine c_region ?_
    refine l_s (.agg #[.slice none 0 0, .int .i64 0, .int .i64 0, .int .i64 0]) (by kernel_rfl) ?_
    refine l_store (dd := none) (vs := [.slice none 0 0, .int .i64 0, .int .i64 0, .int .i64 0]) (cs' := [.slice none 0 0, .int .i64 0, .int .i64 0, .int .i64 0]) rfl (by kernel_rfl) (by kernel_rfl) rfl rfl (Nat.le_of_ble_eq_true rfl) rfl rfl ?_
    refine l_s (.bool false) (by kernel_rfl) ?_
    refine l_nil ?_
    refine e_then ?_
    refine c_ret ?_
    refine e_then_ret ?_
    obtain rfl := Option.some.inj hp
    exact post_all (vs := [.agg #[.slice none 0 0, .int .i64 0, .int .i64 0, .int .i64 0], .bool false]) (.tuple #[.agg #[.slice none 0 0, .int .i64 0, .int .i64 0, .int .i64 0], .bool false]) ⟨⟨_, 0, _, _, 4, by decide, rfl, rfl, .inr ⟨fitv38, rfl, rfl⟩⟩, rfl, trivial⟩ rfl (.inl rfl) (fun w hS => ⟨D2, none, 0, hle2, rfl, (RO.nil _ _), hS.tail⟩)
  · skip
    replace hp := if_f ht1 hp
    refine c_skip ?_
    refine e_then ?_
    refine c_seq ?_
    refine c_region ?_
    refine l_alloc (zs := [.int .i64 0, .int .i64 0, .int .i64 0, .int .i64 0, .int .i64 0]) rfl (by kernel_rfl) (fun b5 => ?_)
    refine l_nil ?_
    refine e_then ?_
    refine c_seq ?_
    refine c_seq ?_
    refine c_quiet ?_
    refine ql_s (.int .i64 0) (by kernel_rfl) ?_
    refine ql_nil ?_
    refine e_then ?_
    have hm0 : (5 : Nat) = ((5 : Int)).toNat := rfl
    have hb0 : ((5 : Int)) ≤ 4611686018427387904 := by decide
    have hm1 := hm0; have hb1 := hb0; clear hm0 hb0
    obtain ⟨x2, hs1, hp⟩ := bnd_some hp
    obtain ⟨body1, hbody1, hs1⟩ := forI_gen hs1
    refine c_cut_end (fun φ1 D3 As1 => ∃ (s1 : Int × Int × Int × Int × Int), x2 = .go s1 ∧ Is φ1 [(2, .pointer (some ⟨b2, 0, none⟩)), (4, .slice a2 r1.length cp2), (5, .pointer (some ⟨b5, 0, none⟩))] ∧ PH.le D2 D3 ∧ As1 = pt b5 [.int .i64 s1.1, .int .i64 s1.2.1, .int .i64 s1.2.2.1, .int .i64 s1.2.2.2.1, .int .i64 s1.2.2.2.2] 58 :: pt b2 [.slice none 0 0, .int .i64 0, .int .i64 0, .int .i64 0] 38 :: F) ?_ ?_
    · skip
      refine c_block ?_
      refine c_loop (fun k φ1 D4 As1 => ∃ (j1 i1 : Nat) (s2 : Int × Int × Int × Int × Int), k = j1 + 1 ∧ i1 + j1 = 5 ∧ Is φ1 [(2, .pointer (some ⟨b2, 0, none⟩)), (4, .slice a2 r1.length cp2), (5, .pointer (some ⟨b5, 0, none⟩)), (24, .int .i64 (i1 : Int))] ∧ PH.le D2 D4 ∧ As1 = pt b5 [.int .i64 s2.1, .int .i64 s2.2.1, .int .i64 s2.2.2.1, .int .i64 s2.2.2.2.1, .int .i64 s2.2.2.2.2] 58 :: pt b2 [.slice none 0 0, .int .i64 0, .int .i64 0, .int .i64 0] 38 :: F ∧ forI body1 j1 i1 s2 = some x2) ⟨5 + 1, 5, 0, (0, 0, 0, 0, 0), rfl, Nat.zero_add _, ⟨rfl, rfl, rfl, rfl, trivial⟩, (PH.le_refl _), rfl, hs1⟩ ?_ ?_
      · rintro _ _ _ ⟨_, _, _, h0, _⟩; omega
      intro k1
      rintro φ1 D4 As3 ⟨j1, i1, s2, hk1, hij1, hI1, hD1, hA3, hs2⟩
      subst As3
      replace h2 := h2.mono hD1
      refine c_frame _ hI1 ?_
      obtain rfl : k1 = j1 := by omega
      clear hk1
      rcases k1 with _ | j1
      · skip
        refine c_seq ?_
        refine c_quiet ?_
        refine ql_s (.bool (decide ((i1 : Int) < 5))) (by kernel_rfl) ?_
        refine ql_nil ?_
        refine e_then ?_
        refine c_seq ?_
        refine c_cond (decide ((i1 : Int) < 5)) rfl (fun ht2 => absurd ((dec_lt_f hm1 (by omega)).symm.trans ht2) (by simp)) (fun _ => ?_)
        refine c_exit ?_
        refine e_then_exit ?_
        refine e_then_exit ?_
        obtain rfl := Option.some.inj hs2
        refine e_blk_exit ?_
        exact e_cut ⟨(s2.1, s2.2.1, s2.2.2.1, s2.2.2.2.1, s2.2.2.2.2), rfl, ⟨rfl, rfl, rfl, trivial⟩, hD1, rfl⟩
      · skip
        obtain ⟨y1, hx2, hs2⟩ := forI_some hs2
        replace hx2 := (congrFun (congrFun hbody1 i1) s2).trans hx2
        refine c_seq ?_
        refine c_quiet ?_
        refine ql_s (.bool (decide ((i1 : Int) < 5))) (by kernel_rfl) ?_
        refine ql_nil ?_
        refine e_then ?_
        refine c_seq ?_
        refine c_cond (decide ((i1 : Int) < 5)) rfl (fun _ => ?_) (fun ht3 => absurd ((dec_lt_t hm1 (by omega)).symm.trans ht3) (by simp))
        refine c_skip ?_
        refine e_then ?_
        refine c_seq ?_
        refine c_block ?_
        refine c_seq ?_
        refine c_quiet ?_
        refine ql_s (.int .i64 (i1 : Int)) (by kernel_rfl) ?_
        refine ql_s (.int .i64 (i1 : Int)) (by kernel_rfl) ?_
        refine ql_nil ?_
        refine e_then ?_
        refine c_seq ?_
        refine c_quiet ?_
        refine ql_s (.bool false) (by kernel_rfl) ?_
        refine ql_nil ?_
        refine e_then ?_
        refine c_seq ?_
        obtain ⟨x3, hx3, hx2⟩ := bnd_some hx2
        obtain ⟨b6, o2, h4, hq2⟩ := RO.at h2 hx3
        obtain ⟨r2, hr2, hx2⟩ := bnd_some hx2
        obtain ⟨x4, hx4, hx2⟩ := bnd_some hx2
        refine c_region ?_
        refine l_s (.int .i64 (i1 : Int)) (by kernel_rfl) ?_
        refine l_s (.slice a2 r1.length cp2) (by kernel_rfl) ?_
        refine l_s (.int .i64 (i1 : Int)) (by kernel_rfl) ?_
        refine l_s (.int .i64 (addI (i1 : Int) 1)) (by kernel_rfl) ?_
        refine l_q rfl (qs_idx hq2 Tryd.underlying56 fit9 rfl rfl) ?_
        refine l_q rfl (qs_ldAtV fit9 rfl h4 valS) ?_
        refine l_callq (v := .tuple #[.int .i64 r2.1, .bool r2.2]) rfl rfl Tryd.call23 (vs := [.string x3]) rfl (fun w hS => (field_Integer_s x3 _  _ _ hr2 w (hS)).mono fun e w' h => ⟨h.1, h.2⟩) ?_
        refine l_s (.tuple #[.int .i64 r2.1, .bool r2.2]) (by kernel_rfl) ?_
        refine l_s (.int .i64 r2.1) (by kernel_rfl) ?_
        refine l_s (.bool r2.2) (by kernel_rfl) ?_
        refine l_q rfl (qs_idxAP Tryd.underlying58 (by kernel_rfl) (sz := 1) (by kernel_rfl) rfl rfl (idx_some hx4).1 (idx_lt hx4 rfl)) ?_
        refine l_store (dd := none) (off := 0 + (i1 : Int).toNat * 1) (vs := [.int .i64 r2.1]) (cs' := [.int .i64 (bif (i1 : Int).toNat == 0 then r2.1 else s2.1), .int .i64 (bif (i1 : Int).toNat == 1 then r2.1 else s2.2.1), .int .i64 (bif (i1 : Int).toNat == 2 then r2.1 else s2.2.2.1), .int .i64 (bif (i1 : Int).toNat == 3 then r2.1 else s2.2.2.2.1), .int .i64 (bif (i1 : Int).toNat == 4 then r2.1 else s2.2.2.2.2)]) rfl (by kernel_rfl) (by kernel_rfl) rfl rfl (by have hq : (i1 : Int).toNat < 5 := (idx_some hx4).2.1; show 0 + (i1 : Int).toNat * 1 + 1 ≤ 5; omega) rfl (by have hq : (i1 : Int).toNat < 5 := (idx_some hx4).2.1; have hc : (i1 : Int).toNat = 0 ∨ (i1 : Int).toNat = 1 ∨ (i1 : Int).toNat = 2 ∨ (i1 : Int).toNat = 3 ∨ (i1 : Int).toNat = 4 := (by omega); rcases hc with hc | hc | hc | hc | hc <;> (rw [hc]; rfl)) ?_
        refine l_s (.bool r2.2) (by kernel_rfl) ?_
        refine l_nil ?_
        refine e_then ?_
        refine c_seq ?_
        refine c_quiet ?_
        refine ql_s (.bool r2.2) (by kernel_rfl) ?_
        refine ql_s (.bool (!r2.2)) (by kernel_rfl) ?_
        refine ql_nil ?_
        refine e_then ?_
        refine c_cond (!r2.2) rfl (fun ht4 => ?_) (fun ht4 => ?_)
        · skip
          replace hx2 := if_t ht4 hx2
          refine c_seq ?_
          refine c_region ?_
          refine l_s (.agg #[.slice none 0 0, .int .i64 0, .int .i64 0, .int .i64 0]) (by kernel_rfl) ?_
          refine l_perm (fr1_perm 1 _) ?_
          refine l_store (dd := none) (vs := [.slice none 0 0, .int .i64 0, .int .i64 0, .int .i64 0]) (cs' := [.slice none 0 0, .int .i64 0, .int .i64 0, .int .i64 0]) rfl (by kernel_rfl) (by kernel_rfl) rfl rfl (Nat.le_of_ble_eq_true rfl) rfl rfl ?_
          refine l_s (.bool false) (by kernel_rfl) ?_
          refine l_nil ?_
          refine e_perm (fr1_perm 1 _) ?_
          refine e_drop ?_
          refine e_then ?_
          refine c_ret ?_
          refine e_blk_ret ?_
          refine e_then_ret ?_
          refine e_then_ret ?_
          obtain rfl := Option.some.inj hx2
          obtain rfl := hs2
          refine e_blk_ret ?_
          refine e_then_ret ?_
          dsimp only at hp
          refine e_then_ret ?_
          obtain rfl := Option.some.inj hp
          exact post_all (vs := [.agg #[.slice none 0 0, .int .i64 0, .int .i64 0, .int .i64 0], .bool false]) (.tuple #[.agg #[.slice none 0 0, .int .i64 0, .int .i64 0, .int .i64 0], .bool false]) ⟨⟨_, 0, _, _, 4, by decide, rfl, rfl, .inr ⟨fitv38, rfl, rfl⟩⟩, rfl, trivial⟩ rfl (.inl rfl) (fun w hS => ⟨D4, none, 0, (PH.le_trans hle2 hD1), rfl, (RO.nil _ _), hS.tail⟩)
        · skip
          replace hx2 := if_f ht4 hx2
          refine c_skip ?_
          refine e_blk ?_
          refine e_then ?_
          refine c_quiet ?_
          refine ql_s (.int .i64 (addI (i1 : Int) 1)) (by kernel_rfl) ?_
          refine ql_s (.int .i64 (addI (i1 : Int) 1)) (by kernel_rfl) ?_
          refine ql_nil ?_
          obtain rfl := Option.some.inj hx2
          exact e_cut ⟨j1, i1 + 1, ((bif (i1 : Int).toNat == 0 then r2.1 else s2.1), (bif (i1 : Int).toNat == 1 then r2.1 else s2.2.1), (bif (i1 : Int).toNat == 2 then r2.1 else s2.2.2.1), (bif (i1 : Int).toNat == 3 then r2.1 else s2.2.2.2.1), (bif (i1 : Int).toNat == 4 then r2.1 else s2.2.2.2.2)), by omega, by omega, ⟨rfl, rfl, rfl, (congrArg (Value.int .i64) (addI_succ (by omega))), trivial⟩, hD1, rfl, hs2⟩
    · skip
      rintro φ2 D3 As4 ⟨s1, rfl, hI2, hD2, hA4⟩
      subst As4
      replace h2 := h2.mono hD2
      dsimp only at hp
      refine e_frame _ hI2 ?_
      refine e_then ?_
      refine c_seq ?_
      obtain ⟨x5, hx5, hp⟩ := bnd_some hp
      obtain ⟨x6, hx6, hp⟩ := bnd_some hp
      refine c_region ?_
      refine l_q rfl (qs_idxAP Tryd.underlying58 (by kernel_rfl) (sz := 1) (by kernel_rfl) rfl rfl (idx_some hx5).1 (idx_lt hx5 rfl)) ?_
      refine l_q rfl (qs_ldAP (D0 := D3) (cs := [.int .i64 s1.1, .int .i64 s1.2.1, .int .i64 s1.2.2.1, .int .i64 s1.2.2.2.1, .int .i64 s1.2.2.2.2]) fit3 (off := 0) (xs := ([s1.1, s1.2.1, s1.2.2.1, s1.2.2.2.1, s1.2.2.2.2] : List Int)) rfl rfl 0 rfl ⟨rfl, rfl, rfl, rfl, rfl, trivial⟩ hx5 (v := .int .i64 x5) valI) ?_
      refine l_q rfl (qs_idxAP Tryd.underlying58 (by kernel_rfl) (sz := 1) (by kernel_rfl) rfl rfl (idx_some hx6).1 (idx_lt hx6 rfl)) ?_
      refine l_q rfl (qs_ldAP (D0 := D3) (cs := [.int .i64 s1.1, .int .i64 s1.2.1, .int .i64 s1.2.2.1, .int .i64 s1.2.2.2.1, .int .i64 s1.2.2.2.2]) fit3 (off := 0) (xs := ([s1.1, s1.2.1, s1.2.2.1, s1.2.2.2.1, s1.2.2.2.2] : List Int)) rfl rfl 0 rfl ⟨rfl, rfl, rfl, rfl, rfl, trivial⟩ hx6 (v := .int .i64 x6) valI) ?_
      refine l_s (.agg #[.int .i64 x5, .int .i64 x6]) (by kernel_rfl) ?_
      refine l_alloc (zs := [.int .i64 0, .int .i64 0]) rfl (by kernel_rfl) (fun b8 => ?_)
      refine l_store (dd := none) (vs := [.int .i64 x5, .int .i64 x6]) (cs' := [.int .i64 x5, .int .i64 x6]) rfl (by kernel_rfl) (by kernel_rfl) rfl rfl (Nat.le_of_ble_eq_true rfl) rfl rfl ?_
      refine l_nil ?_
      refine e_then ?_
      refine c_seq ?_
      obtain ⟨x7, hx7, hp⟩ := bnd_some hp
      obtain ⟨x8, hx8, hp⟩ := bnd_some hp
      obtain ⟨x9, hx9, hp⟩ := bnd_some hp
      refine c_region ?_
      refine l_q rfl (qs_ldpt (encW 2 (by decide)) fitv50 rfl 0 rfl (.agg #[.int .i64 x5, .int .i64 x6]) (Nat.le_of_ble_eq_true rfl) rfl) ?_
      refine l_bslS (cs := [.int .i64 x5, .int .i64 x6]) (E := 50) (e := encS_api_Point) ([(⟨x5, x6⟩ : S_api_Point)] : List S_api_Point) rfl (by kernel_rfl) rfl rfl (Nat.le_of_ble_eq_true rfl) ⟨rfl, trivial⟩ (fun b11 cp4 => ?_)
      refine l_q rfl (qs_idxAP Tryd.underlying58 (by kernel_rfl) (sz := 1) (by kernel_rfl) rfl rfl (idx_some hx7).1 (idx_lt hx7 rfl)) ?_
      refine l_q rfl (qs_ldAP (D0 := D3) (cs := [.int .i64 s1.1, .int .i64 s1.2.1, .int .i64 s1.2.2.1, .int .i64 s1.2.2.2.1, .int .i64 s1.2.2.2.2]) fit3 (off := 0) (xs := ([s1.1, s1.2.1, s1.2.2.1, s1.2.2.2.1, s1.2.2.2.2] : List Int)) rfl rfl 2 rfl ⟨rfl, rfl, rfl, rfl, rfl, trivial⟩ hx7 (v := .int .i64 x7) valI) ?_
      refine l_q rfl (qs_idxAP Tryd.underlying58 (by kernel_rfl) (sz := 1) (by kernel_rfl) rfl rfl (idx_some hx8).1 (idx_lt hx8 rfl)) ?_
      refine l_q rfl (qs_ldAP (D0 := D3) (cs := [.int .i64 s1.1, .int .i64 s1.2.1, .int .i64 s1.2.2.1, .int .i64 s1.2.2.2.1, .int .i64 s1.2.2.2.2]) fit3 (off := 0) (xs := ([s1.1, s1.2.1, s1.2.2.1, s1.2.2.2.1, s1.2.2.2.2] : List Int)) rfl rfl 2 rfl ⟨rfl, rfl, rfl, rfl, rfl, trivial⟩ hx8 (v := .int .i64 x8) valI) ?_
      refine l_q rfl (qs_idxAP Tryd.underlying58 (by kernel_rfl) (sz := 1) (by kernel_rfl) rfl rfl (idx_some hx9).1 (idx_lt hx9 rfl)) ?_
      refine l_q rfl (qs_ldAP (D0 := D3) (cs := [.int .i64 s1.1, .int .i64 s1.2.1, .int .i64 s1.2.2.1, .int .i64 s1.2.2.2.1, .int .i64 s1.2.2.2.2]) fit3 (off := 0) (xs := ([s1.1, s1.2.1, s1.2.2.1, s1.2.2.2.1, s1.2.2.2.2] : List Int)) rfl rfl 2 rfl ⟨rfl, rfl, rfl, rfl, rfl, trivial⟩ hx9 (v := .int .i64 x9) valI) ?_
      refine l_s (.agg #[.slice (some ⟨b11, 0, none⟩) (([(⟨x5, x6⟩ : S_api_Point)] : List S_api_Point).length) cp4, .int .i64 x7, .int .i64 x8, .int .i64 x9]) (by kernel_rfl) ?_
      refine l_alloc (zs := [.slice none 0 0, .int .i64 0, .int .i64 0, .int .i64 0]) rfl (by kernel_rfl) (fun b12 => ?_)
      refine l_nilS D3 encS_api_Point 50 ?_
      refine l_perm (fr1_perm 1 _) ?_
      refine l_store (dd := none) (vs := [.slice (some ⟨b11, 0, none⟩) (([(⟨x5, x6⟩ : S_api_Point)] : List S_api_Point).length) cp4, .int .i64 x7, .int .i64 x8, .int .i64 x9]) (cs' := [.slice (some ⟨b11, 0, none⟩) (([(⟨x5, x6⟩ : S_api_Point)] : List S_api_Point).length) cp4, .int .i64 x7, .int .i64 x8, .int .i64 x9]) rfl (by kernel_rfl) (by kernel_rfl) rfl rfl (Nat.le_of_ble_eq_true rfl) rfl rfl ?_
      refine l_nil ?_
      refine e_perm (fr1_perm 1 _) ?_
      refine e_drop ?_
      refine e_perm (fr1_perm 3 _) ?_
      refine e_drop ?_
      refine e_then ?_
      refine c_seq ?_
      refine c_seq ?_
      obtain ⟨x10, hx10, hp⟩ := bnd_some hp
      obtain ⟨b13, o3, h5, hq3⟩ := RO.at h2 hx10
      refine c_quiet ?_
      refine ql_s (.slice a2 r1.length cp2) (by kernel_rfl) ?_
      refine ql_q rfl (qs_idx hq3 Tryd.underlying56 fit9 rfl rfl) ?_
      refine ql_q rfl (qs_ldAtV fit9 rfl h5 valS) ?_
      refine ql_q rfl (qs_strCmp (op := .eql) (v := strEq x10 (⟨#[45]⟩ : ByteArray)) rfl rfl rfl rfl) ?_
      refine ql_nil ?_
      refine e_then ?_
      refine c_cond (strEq x10 (⟨#[45]⟩ : ByteArray)) rfl (fun ht5 => ?_) (fun ht5 => ?_)
      · skip
        replace hp := if_t ht5 hp
        refine c_seq ?_
        refine c_region ?_
        refine l_q rfl (qs_ldpt (encW 4 (by decide)) fitv38 rfl 0 rfl (.agg #[.slice (some ⟨b11, 0, none⟩) (([(⟨x5, x6⟩ : S_api_Point)] : List S_api_Point).length) cp4, .int .i64 x7, .int .i64 x8, .int .i64 x9]) (Nat.le_of_ble_eq_true rfl) rfl) ?_
        refine l_perm (fr1_perm 3 _) ?_
        refine l_store (dd := none) (vs := [.slice (some ⟨b11, 0, none⟩) (([(⟨x5, x6⟩ : S_api_Point)] : List S_api_Point).length) cp4, .int .i64 x7, .int .i64 x8, .int .i64 x9]) (cs' := [.slice (some ⟨b11, 0, none⟩) (([(⟨x5, x6⟩ : S_api_Point)] : List S_api_Point).length) cp4, .int .i64 x7, .int .i64 x8, .int .i64 x9]) rfl (by kernel_rfl) (by kernel_rfl) rfl rfl (Nat.le_of_ble_eq_true rfl) rfl rfl ?_
        refine l_s (.bool true) (by kernel_rfl) ?_
        refine l_nil ?_
        refine e_perm (fr1_perm 1 _) ?_
        refine e_drop ?_
        refine e_perm (fr1_perm 2 _) ?_
        refine e_drop ?_
        refine e_then ?_
        refine c_ret ?_
        refine e_then_ret ?_
        refine e_perm (fr1_perm 1 _) ?_
        refine e_layS (PH.le_refl _) (fun D5 hle3 h6 => ?_)
        obtain rfl := Option.some.inj hp
        exact post_all (vs := [.agg #[.slice (some ⟨b11, 0, none⟩) ([(⟨x5, x6⟩ : S_api_Point)] : List S_api_Point).length cp4, .int .i64 x7, .int .i64 x8, .int .i64 x9], .bool true]) (.tuple #[.agg #[.slice (some ⟨b11, 0, none⟩) ([(⟨x5, x6⟩ : S_api_Point)] : List S_api_Point).length cp4, .int .i64 x7, .int .i64 x8, .int .i64 x9], .bool true]) ⟨⟨_, 0, _, _, 4, by decide, rfl, rfl, .inr ⟨fitv38, rfl, rfl⟩⟩, rfl, trivial⟩ rfl (.inl rfl) (fun w hS => ⟨D5, some ⟨b11, 0, none⟩, cp4, (PH.le_trans (PH.le_trans hle2 hD2) hle3), rfl, h6, hS.tail⟩)
      · skip
        replace hp := if_f ht5 hp
        refine c_skip ?_
        refine e_then ?_
        refine c_seq ?_
        refine c_seq ?_
        refine c_quiet ?_
        refine ql_s (.int .i64 0) (by kernel_rfl) ?_
        refine ql_nil ?_
        refine e_then ?_
        obtain ⟨x11, hs3, hp⟩ := bnd_some hp
        obtain ⟨body2, hbody2, hs3⟩ := loopP_gen hs3
        refine c_cut_end (fun φ1 D6 As1 => ∃ (s3 : (List S_api_Point) × Int × Int) (a3 : Option Addr) (cp5 : Nat), x11 = .go s3 ∧ Is φ1 [(2, .pointer (some ⟨b2, 0, none⟩)), (9, .pointer (some ⟨b12, 0, none⟩))] ∧ PH.le D3 D6 ∧ As1 = pt b12 [.slice a3 s3.1.length cp5, .int .i64 x7, .int .i64 x8, .int .i64 x9] 38 :: OwnS D6 encS_api_Point 50 (.slice a3 s3.1.length cp5) s3.1 :: pt b8 [.int .i64 s3.2.1, .int .i64 s3.2.2] 50 :: pt b2 [.slice none 0 0, .int .i64 0, .int .i64 0, .int .i64 0] 38 :: F) ?_ ?_
        · skip
          refine c_block ?_
          obtain ⟨kz1, hs3⟩ := loopP_ex hs3
          refine c_loop (fun k φ1 D7 As1 => ∃ (s4 : Int × (List S_api_Point) × Int × Int) (a4 : Option Addr) (cp6 : Nat), Is φ1 [(2, .pointer (some ⟨b2, 0, none⟩)), (4, .slice a2 r1.length cp2), (8, .pointer (some ⟨b8, 0, none⟩)), (9, .pointer (some ⟨b12, 0, none⟩)), (10, .int .i64 s4.1)] ∧ PH.le D3 D7 ∧ As1 = pt b12 [.slice a4 s4.2.1.length cp6, .int .i64 x7, .int .i64 x8, .int .i64 x9] 38 :: OwnS D7 encS_api_Point 50 (.slice a4 s4.2.1.length cp6) s4.2.1 :: pt b8 [.int .i64 s4.2.2.1, .int .i64 s4.2.2.2] 50 :: pt b2 [.slice none 0 0, .int .i64 0, .int .i64 0, .int .i64 0] 38 :: F ∧ iter body2 k s4 = some x11) ⟨kz1, (0, ([(⟨x5, x6⟩ : S_api_Point)] : List S_api_Point), x5, x6), some ⟨b11, 0, none⟩, cp4, ⟨rfl, rfl, rfl, rfl, rfl, trivial⟩, (PH.le_refl _), rfl, hs3⟩ ?_ ?_
          · rintro _ _ _ ⟨_, _, _, _, _, _, h0⟩; cases h0
          intro k2
          rintro φ3 D7 As5 ⟨s4, a4, cp6, hI3, hD3, hA5, hs4⟩
          subst As5
          replace h2 := h2.mono hD3
          refine c_frame _ hI3 ?_
          obtain ⟨y2, hx11, hs4⟩ := iter_some hs4
          replace hx11 := (congrFun hbody2 s4).trans hx11
          refine c_seq ?_
          refine c_seq ?_
          obtain ⟨x12, hx12, hx11⟩ := bnd_some hx11
          obtain ⟨b14, o4, h7, hq4⟩ := RO.at h2 hx12
          refine c_quiet ?_
          refine ql_s (.int .i64 s4.1) (by kernel_rfl) ?_
          refine ql_s (.slice a2 r1.length cp2) (by kernel_rfl) ?_
          refine ql_q rfl (qs_idx hq4 Tryd.underlying56 fit9 rfl rfl) ?_
          refine ql_q rfl (qs_ldAtV fit9 rfl h7 valS) ?_
          refine ql_q rfl (qs_strLen Tryd.underlying9 rfl) ?_
          refine ql_s (.bool (decide (s4.1 < (x12.size : Int)))) (by kernel_rfl) ?_
          refine ql_nil ?_
          refine e_then ?_
          refine c_cond (decide (s4.1 < (x12.size : Int))) rfl (fun ht6 => ?_) (fun ht6 => ?_)
          · skip
            replace hx11 := if_t ht6 hx11
            refine c_skip ?_
            refine e_then ?_
            refine c_seq ?_
            refine c_block ?_
            refine c_seq ?_
            obtain ⟨x13, hx13, hx11⟩ := bnd_some hx11
            obtain ⟨b15, o5, h8, hq5⟩ := RO.at h2 hx13
            obtain ⟨x14, hx14, hx11⟩ := bnd_some hx11
            obtain ⟨d_1, hd_1, hx11⟩ := bnd_some hx11
            replace hd_1 := Option.some.inj hd_1
            refine c_quiet ?_
            refine ql_s (.slice a2 r1.length cp2) (by kernel_rfl) ?_
            refine ql_q rfl (qs_idx hq5 Tryd.underlying56 fit9 rfl rfl) ?_
            refine ql_q rfl (qs_ldAtV fit9 rfl h8 valS) ?_
            refine ql_s (.int .i64 s4.1) (by kernel_rfl) ?_
            refine ql_q rfl (qs_strIdx Tryd.underlying9 rfl rfl hx14) ?_
            refine ql_s (.int .i64 (IntKind.wrap .i64 (byteI x14))) (by kernel_rfl) ?_
            refine ql_s (.int .i64 (subI (IntKind.wrap .i64 (byteI x14)) 48)) (by kernel_rfl) ?_
            refine ql_s (.int .i64 d_1) (congrArg (fun z => some (Value.int .i64 z)) hd_1) ?_
            refine ql_nil ?_
            refine e_then ?_
            refine c_seq ?_
            refine c_seq ?_
            refine c_cutq_end [(2, .pointer (some ⟨b2, 0, none⟩)), (4, .slice a2 r1.length cp2), (8, .pointer (some ⟨b8, 0, none⟩)), (9, .pointer (some ⟨b12, 0, none⟩)), (10, .int .i64 s4.1), (11, .int .i64 d_1), (81, .bool ((decide (d_1 < 0)) || (decide (d_1 ≥ 8))))] ?_ ?_
            · skip
              refine c_quiet ?_
              refine ql_s (.int .i64 d_1) (by kernel_rfl) ?_
              refine ql_s (.bool (decide (d_1 < 0))) (by kernel_rfl) ?_
              refine ql_s (.bool (decide (d_1 < 0))) (by kernel_rfl) ?_
              refine ql_case 78 (decide (d_1 < 0)) rfl (fun hg2 => ?_) (fun hg2 => ?_)
              · skip
                refine ql_s undef (by kernel_rfl) ?_
                refine ql_s undef (by kernel_rfl) ?_
                refine ql_s (.bool true) (by kernel_rfl) ?_
                refine ql_nil (e_cutq ?_)
                exact ⟨rfl, rfl, rfl, rfl, rfl, rfl, (congrArg Value.bool (by first | rfl | (rw [hg2]; rfl) | simp [hg2])), trivial⟩
              · skip
                refine ql_s (.int .i64 d_1) (by kernel_rfl) ?_
                refine ql_s (.bool (decide (d_1 ≥ 8))) (by kernel_rfl) ?_
                refine ql_s (.bool (decide (d_1 ≥ 8))) (by kernel_rfl) ?_
                refine ql_nil (e_cutq ?_)
                exact ⟨rfl, rfl, rfl, rfl, rfl, rfl, (congrArg Value.bool (by first | rfl | (rw [hg2]; rfl) | simp [hg2])), trivial⟩
            intro _
            refine e_then ?_
            refine c_cond (((decide (d_1 < 0)) || (decide (d_1 ≥ 8)))) rfl (fun ht7 => ?_) (fun ht7 => ?_)
            · skip
              replace hx11 := if_t ht7 hx11
              refine c_seq ?_
              refine c_region ?_
              refine l_s (.agg #[.slice none 0 0, .int .i64 0, .int .i64 0, .int .i64 0]) (by kernel_rfl) ?_
              refine l_perm (fr1_perm 3 _) ?_
              refine l_store (dd := none) (vs := [.slice none 0 0, .int .i64 0, .int .i64 0, .int .i64 0]) (cs' := [.slice none 0 0, .int .i64 0, .int .i64 0, .int .i64 0]) rfl (by kernel_rfl) (by kernel_rfl) rfl rfl (Nat.le_of_ble_eq_true rfl) rfl rfl ?_
              refine l_s (.bool false) (by kernel_rfl) ?_
              refine l_nil ?_
              refine e_perm (fr1_perm 1 _) ?_
              refine e_drop ?_
              refine e_perm (fr1_perm 1 _) ?_
              refine e_drop ?_
              refine e_perm (fr1_perm 1 _) ?_
              refine e_drop ?_
              refine e_then ?_
              refine c_ret ?_
              refine e_then_ret ?_
              refine e_blk_ret ?_
              refine e_then_ret ?_
              refine e_then_ret ?_
              obtain rfl := Option.some.inj hx11
              obtain rfl := hs4
              refine e_blk_ret ?_
              refine e_then_ret ?_
              dsimp only at hp
              refine e_then_ret ?_
              obtain rfl := Option.some.inj hp
              exact post_all (vs := [.agg #[.slice none 0 0, .int .i64 0, .int .i64 0, .int .i64 0], .bool false]) (.tuple #[.agg #[.slice none 0 0, .int .i64 0, .int .i64 0, .int .i64 0], .bool false]) ⟨⟨_, 0, _, _, 4, by decide, rfl, rfl, .inr ⟨fitv38, rfl, rfl⟩⟩, rfl, trivial⟩ rfl (.inl rfl) (fun w hS => ⟨D7, none, 0, (PH.le_trans (PH.le_trans hle2 hD2) hD3), rfl, (RO.nil _ _), hS.tail⟩)
            · skip
              replace hx11 := if_f ht7 hx11
              refine c_skip ?_
              refine e_then ?_
              refine c_seq ?_
              obtain ⟨r3, hr3, hx11⟩ := bnd_some hx11
              refine c_perm (pick_perm [0, 1, 3, 2] rfl rfl) ?_
              refine c_cut_end (fun φ1 D1 As1 => Is φ1 [(2, .pointer (some ⟨b2, 0, none⟩)), (4, .slice a2 r1.length cp2), (8, .pointer (some ⟨b8, 0, none⟩)), (9, .pointer (some ⟨b12, 0, none⟩)), (10, .int .i64 s4.1)] ∧ D7 = D1 ∧ As1 = pt b12 [.slice a4 s4.2.1.length cp6, .int .i64 x7, .int .i64 x8, .int .i64 x9] 38 :: OwnS D7 encS_api_Point 50 (.slice a4 s4.2.1.length cp6) s4.2.1 :: pt b2 [.slice none 0 0, .int .i64 0, .int .i64 0, .int .i64 0] 38 :: pt b8 [.int .i64 (addI s4.2.2.1 r3.X), .int .i64 (addI s4.2.2.2 r3.Y)] 50 :: F) ?_ ?_
              · skip
                refine c_order (B := [pt b12 [.slice a4 s4.2.1.length cp6, .int .i64 x7, .int .i64 x8, .int .i64 x9] 38, OwnS D7 encS_api_Point 50 (.slice a4 s4.2.1.length cp6) s4.2.1, pt b2 [.slice none 0 0, .int .i64 0, .int .i64 0, .int .i64 0] 38]) (.q 0 (.q 2 (.q 3 (.q 4 (.q 6 (.q 8 (.q 9 (.q 10 (.f 1 (.q 5 (.e 7 (.q 11 (.q 12 (.e 13 .nil))))) (.e 7 (.q 11 (.e 1 (.q 5 (.q 12 (.e 13 .nil))))))))))))))) hmix (by kernel_rfl) (NoPanic.then (NoPanic.then (NoPanic.blk (NoPanic.then (NoPanic.then (NoPanic.blk (NoPanic.then (NoPanic.then NoPanic.post)))))))) ?_
                refine o_s (.pointer (some ⟨b8, 0, none⟩)) rfl (by kernel_rfl) ?_
                refine o_s (.int .i64 d_1) rfl (by kernel_rfl) ?_
                refine o_call (v := .agg #[.int .i64 r3.X, .int .i64 r3.Y]) rfl rfl (run_call (vs := [.int .i64 d_1]) rfl Tryd.call24 rfl) (fun D' R' hD w hS => (water_Toward_s d_1 _  _ _ hr3 w (hS)).mono fun e w' h => ⟨h.1, h.2⟩) ?_
                refine o_s (.int .i64 r3.X) rfl (by kernel_rfl) ?_
                refine o_s (.pointer (some ⟨b8, 1, none⟩)) rfl (by kernel_rfl) ?_
                refine o_s (.int .i64 d_1) rfl (by kernel_rfl) ?_
                refine o_call (v := .agg #[.int .i64 r3.X, .int .i64 r3.Y]) rfl rfl (run_call (vs := [.int .i64 d_1]) rfl Tryd.call24 rfl) (fun D' R' hD w hS => (water_Toward_s d_1 _  _ _ hr3 w (hS)).mono fun e w' h => ⟨h.1, h.2⟩) ?_
                refine o_s (.int .i64 r3.Y) rfl (by kernel_rfl) ?_
                refine o_f ?_ ?_
                · skip
                  refine o_qe rfl rfl (PH.le_refl _) (qs_ldpt encV fitv3 rfl 3 rfl (.int .i64 s4.2.2.1) (Nat.le_of_ble_eq_true rfl) rfl) ?_
                  refine o_s (.int .i64 (addI s4.2.2.1 r3.X)) rfl (by kernel_rfl) ?_
                  refine o_qe rfl rfl (PH.le_refl _) (qs_ldpt encV fitv3 rfl 3 rfl (.int .i64 s4.2.2.2) (Nat.le_of_ble_eq_true rfl) rfl) ?_
                  refine o_s (.int .i64 (addI s4.2.2.2 r3.Y)) rfl (by kernel_rfl) ?_
                  refine o_s (.agg #[.int .i64 (addI s4.2.2.1 r3.X), .int .i64 (addI s4.2.2.2 r3.Y)]) rfl (by kernel_rfl) ?_
                  refine o_store (vs := [.int .i64 (addI s4.2.2.1 r3.X), .int .i64 (addI s4.2.2.2 r3.Y)]) (cs' := [.int .i64 (addI s4.2.2.1 r3.X), .int .i64 (addI s4.2.2.2 r3.Y)]) rfl rfl (PH.le_refl _) (by kernel_rfl) (by kernel_rfl) rfl rfl (Nat.le_of_ble_eq_true rfl) rfl rfl ?_
                  refine o_nil ?_
                  exact e_cut ⟨⟨rfl, rfl, rfl, rfl, rfl, trivial⟩, rfl, rfl⟩
                refine o_qe rfl rfl (PH.le_refl _) (qs_ldpt encV fitv3 rfl 3 rfl (.int .i64 s4.2.2.2) (Nat.le_of_ble_eq_true rfl) rfl) ?_
                refine o_s (.int .i64 (addI s4.2.2.2 r3.Y)) rfl (by kernel_rfl) ?_
                refine o_qe rfl rfl (PH.le_refl _) (qs_ldpt encV fitv3 rfl 3 rfl (.int .i64 s4.2.2.1) (Nat.le_of_ble_eq_true rfl) rfl) ?_
                refine o_s (.int .i64 (addI s4.2.2.1 r3.X)) rfl (by kernel_rfl) ?_
                refine o_s (.agg #[.int .i64 (addI s4.2.2.1 r3.X), .int .i64 (addI s4.2.2.2 r3.Y)]) rfl (by kernel_rfl) ?_
                refine o_store (vs := [.int .i64 (addI s4.2.2.1 r3.X), .int .i64 (addI s4.2.2.2 r3.Y)]) (cs' := [.int .i64 (addI s4.2.2.1 r3.X), .int .i64 (addI s4.2.2.2 r3.Y)]) rfl rfl (PH.le_refl _) (by kernel_rfl) (by kernel_rfl) rfl rfl (Nat.le_of_ble_eq_true rfl) rfl rfl ?_
                refine o_nil ?_
                exact e_cut ⟨⟨rfl, rfl, rfl, rfl, rfl, trivial⟩, rfl, rfl⟩
              · skip
                rintro φ4 _ As6 ⟨hI4, rfl, hA⟩
                subst As6
                refine e_frame _ hI4 ?_
                refine e_then ?_
                obtain ⟨l1, hl1, hx11⟩ := bnd_some hx11
                refine c_region ?_
                refine l_s (.pointer (some ⟨b12, 0, none⟩)) (by kernel_rfl) ?_
                refine l_q rfl (qs_ldpt encV fitv36 rfl 0 rfl (.slice a4 s4.2.1.length cp6) (Nat.le_of_ble_eq_true rfl) rfl) ?_
                refine l_q rfl (qs_ldpt (encW 2 (by decide)) fitv50 rfl 3 rfl (.agg #[.int .i64 (addI s4.2.2.1 r3.X), .int .i64 (addI s4.2.2.2 r3.Y)]) (Nat.le_of_ble_eq_true rfl) rfl) ?_
                refine l_bslS (cs := [.int .i64 (addI s4.2.2.1 r3.X), .int .i64 (addI s4.2.2.2 r3.Y)]) (E := 50) (e := encS_api_Point) ([(⟨addI s4.2.2.1 r3.X, addI s4.2.2.2 r3.Y⟩ : S_api_Point)] : List S_api_Point) rfl (by kernel_rfl) rfl rfl (Nat.le_of_ble_eq_true rfl) ⟨rfl, trivial⟩ (fun b17 cp9 => ?_)
                refine l_perm (fr1_perm 2 _) ?_
                refine l_app hl1 rfl elem36 Tryd.underlying36 rfl rfl rfl (OwnS.src 1 rfl ⟨_, _, rfl⟩) (fun a6 cp10 => ?_)
                refine l_s (.pointer (some ⟨b12, 0, none⟩)) (by kernel_rfl) ?_
                refine l_perm (fr1_perm 2 _) ?_
                refine l_store (dd := none) (vs := [.slice a6 l1.length cp10]) (cs' := [.slice a6 l1.length cp10, .int .i64 x7, .int .i64 x8, .int .i64 x9]) rfl (by kernel_rfl) (by kernel_rfl) rfl rfl (Nat.le_of_ble_eq_true rfl) rfl rfl ?_
                refine l_nil ?_
                refine e_perm (fr1_perm 2 _) ?_
                refine e_drop ?_
                refine e_blk ?_
                refine e_then ?_
                refine c_quiet ?_
                refine ql_s (.int .i64 s4.1) (by kernel_rfl) ?_
                refine ql_s (.int .i64 (addI s4.1 1)) (by kernel_rfl) ?_
                refine ql_s (.int .i64 (addI s4.1 1)) (by kernel_rfl) ?_
                refine ql_nil ?_
                refine e_perm (pick_perm [0, 1, 3, 2] rfl rfl) ?_
                obtain rfl := Option.some.inj hx11
                exact e_cut ⟨(addI s4.1 1, l1, addI s4.2.2.1 r3.X, addI s4.2.2.2 r3.Y), a6, cp10, ⟨rfl, rfl, rfl, rfl, rfl, trivial⟩, hD3, rfl, hs4⟩
          · skip
            replace hx11 := if_f ht6 hx11
            refine c_exit ?_
            refine e_then_exit ?_
            refine e_then_exit ?_
            obtain rfl := Option.some.inj hx11
            obtain rfl := hs4
            refine e_blk_exit ?_
            exact e_cut ⟨(s4.2.1, s4.2.2.1, s4.2.2.2), a4, cp6, rfl, ⟨rfl, rfl, trivial⟩, hD3, rfl⟩
        · skip
          rintro φ5 D6 As7 ⟨s3, a3, cp5, rfl, hI5, hD4, hA6⟩
          subst As7
          dsimp only at hp
          refine e_frame _ hI5 ?_
          refine e_then ?_
          refine c_seq ?_
          refine c_order (B := [pt b12 [.slice a3 s3.1.length cp5, .int .i64 x7, .int .i64 x8, .int .i64 x9] 38, OwnS D6 encS_api_Point 50 (.slice a3 s3.1.length cp5) s3.1, pt b8 [.int .i64 s3.2.1, .int .i64 s3.2.2] 50]) (.q 0 (.q 1 (.q 2 (.q 3 (.q 4 (.e 5 (.q 6 .nil))))))) hmix (by kernel_rfl) (NoPanic.then NoPanic.post) ?_
          refine o_qs rfl rfl (qs_ldpt (encW 4 (by decide)) fitv38 rfl 0 rfl (.agg #[.slice a3 s3.1.length cp5, .int .i64 x7, .int .i64 x8, .int .i64 x9]) (Nat.le_of_ble_eq_true rfl) rfl) ?_
          refine o_s (.pointer (some ⟨b12, 0, none⟩)) rfl (by kernel_rfl) ?_
          refine o_qs rfl rfl (qs_ldpt encV fitv36 rfl 0 rfl (.slice a3 s3.1.length cp5) (Nat.le_of_ble_eq_true rfl) rfl) ?_
          refine o_s (.int .i64 (s3.1.length : Int)) rfl (by kernel_rfl) ?_
          refine o_s (.bool (decide ((s3.1.length : Int) > 1))) rfl (by kernel_rfl) ?_
          refine o_store (vs := [.slice a3 s3.1.length cp5, .int .i64 x7, .int .i64 x8, .int .i64 x9]) (cs' := [.slice a3 s3.1.length cp5, .int .i64 x7, .int .i64 x8, .int .i64 x9]) rfl rfl (PH.le_refl _) (by kernel_rfl) (by kernel_rfl) rfl rfl (Nat.le_of_ble_eq_true rfl) rfl rfl ?_
          refine o_s (.bool (decide ((s3.1.length : Int) > 1))) rfl (by kernel_rfl) ?_
          refine o_nil ?_
          refine e_drop ?_
          refine e_perm (fr1_perm 1 _) ?_
          refine e_drop ?_
          refine e_then ?_
          refine c_ret ?_
          refine e_layS (PH.le_refl _) (fun D8 hle4 h9 => ?_)
          obtain rfl := Option.some.inj hp
          exact post_all (vs := [.agg #[.slice a3 s3.1.length cp5, .int .i64 x7, .int .i64 x8, .int .i64 x9], .bool (decide ((s3.1.length : Int) > 1))]) (.tuple #[.agg #[.slice a3 s3.1.length cp5, .int .i64 x7, .int .i64 x8, .int .i64 x9], .bool (decide ((s3.1.length : Int) > 1))]) ⟨⟨_, 0, _, _, 4, by decide, rfl, rfl, .inr ⟨fitv38, rfl, rfl⟩⟩, rfl, trivial⟩ rfl (.inl rfl) (fun w hS => ⟨D8, a3, cp5, (PH.le_trans (PH.le_trans (PH.le_trans hle2 hD2) hD4) hle4), rfl, h9, hS.tail⟩)

-- tarnfell/noise.CheckPlace
set_option maxRecDepth 100000 in
set_option maxHeartbeats 3000000 in
theorem noise_CheckPlace_s (x0 : Int) (y0 : Int) (D : PH)  (F : List Assert) (r : Int) (hp : noise_CheckPlace_p x0 y0 = some r) : ∀ w : World, SInv D (F) w → Calls Tryd.prog 37 #[.int .i64 x0, .int .i64 y0] w (fun e w' => e = .returned (.int .i64 r) ∧ SInv D (F) w') := by
  intro w hS
  refine call_intro Tryd.func37 rfl Tryd.ntmps37 (Nat.le_of_ble_eq_true rfl) hS ?_
  clear hS w
  unfold noise_CheckPlace_p at hp
  refine c_seq ?_
  refine c_quiet ?_
  refine ql_s (.int .i64 0) (by kernel_rfl) ?_
  refine ql_nil ?_
  refine e_then ?_
  refine c_seq ?_
  refine c_seq ?_
  refine c_cutq_end [(18, .bool ((decide (x0 < (-4194304))) || ((decide (x0 > 4194304)) || ((decide (y0 < (-4194304))) || (decide (y0 > 4194304))))))] ?_ ?_
  · skip
    refine c_quiet ?_
    refine ql_s (.int .i64 x0) (by kernel_rfl) ?_
    refine ql_s (.bool (decide (x0 < (-4194304)))) (by kernel_rfl) ?_
    refine ql_s (.bool (decide (x0 < (-4194304)))) (by kernel_rfl) ?_
    refine ql_case 7 (decide (x0 < (-4194304))) rfl (fun hg1 => ?_) (fun hg1 => ?_)
    · skip
      refine ql_s undef (by kernel_rfl) ?_
      refine ql_s undef (by kernel_rfl) ?_
      refine ql_s (.bool true) (by kernel_rfl) ?_
      refine ql_s (.bool true) (by kernel_rfl) ?_
      refine ql_s undef (by kernel_rfl) ?_
      refine ql_s undef (by kernel_rfl) ?_
      refine ql_s (.bool true) (by kernel_rfl) ?_
      refine ql_s (.bool true) (by kernel_rfl) ?_
      refine ql_s undef (by kernel_rfl) ?_
      refine ql_s undef (by kernel_rfl) ?_
      refine ql_s (.bool true) (by kernel_rfl) ?_
      refine ql_nil (e_cutq ?_)
      exact ⟨(congrArg Value.bool (by first | rfl | (rw [hg1]; rfl) | simp [hg1])), trivial⟩
    · skip
      refine ql_s (.int .i64 x0) (by kernel_rfl) ?_
      refine ql_s (.bool (decide (x0 > 4194304))) (by kernel_rfl) ?_
      refine ql_s (.bool (decide (x0 > 4194304))) (by kernel_rfl) ?_
      refine ql_s (.bool (decide (x0 > 4194304))) (by kernel_rfl) ?_
      refine ql_case 11 (decide (x0 > 4194304)) rfl (fun hg2 => ?_) (fun hg2 => ?_)
      · skip
        refine ql_s undef (by kernel_rfl) ?_
        refine ql_s undef (by kernel_rfl) ?_
        refine ql_s (.bool true) (by kernel_rfl) ?_
        refine ql_s (.bool true) (by kernel_rfl) ?_
        refine ql_s undef (by kernel_rfl) ?_
        refine ql_s undef (by kernel_rfl) ?_
        refine ql_s (.bool true) (by kernel_rfl) ?_
        refine ql_nil (e_cutq ?_)
        exact ⟨(congrArg Value.bool (by first | rfl | (rw [hg1, hg2]; rfl) | simp [hg1, hg2])), trivial⟩
      · skip
        refine ql_s (.int .i64 y0) (by kernel_rfl) ?_
        refine ql_s (.bool (decide (y0 < (-4194304)))) (by kernel_rfl) ?_
        refine ql_s (.bool (decide (y0 < (-4194304)))) (by kernel_rfl) ?_
        refine ql_s (.bool (decide (y0 < (-4194304)))) (by kernel_rfl) ?_
        refine ql_case 15 (decide (y0 < (-4194304))) rfl (fun hg3 => ?_) (fun hg3 => ?_)
        · skip
          refine ql_s undef (by kernel_rfl) ?_
          refine ql_s undef (by kernel_rfl) ?_
          refine ql_s (.bool true) (by kernel_rfl) ?_
          refine ql_nil (e_cutq ?_)
          exact ⟨(congrArg Value.bool (by first | rfl | (rw [hg1, hg2, hg3]; rfl) | simp [hg1, hg2, hg3])), trivial⟩
        · skip
          refine ql_s (.int .i64 y0) (by kernel_rfl) ?_
          refine ql_s (.bool (decide (y0 > 4194304))) (by kernel_rfl) ?_
          refine ql_s (.bool (decide (y0 > 4194304))) (by kernel_rfl) ?_
          refine ql_nil (e_cutq ?_)
          exact ⟨(congrArg Value.bool (by first | rfl | (rw [hg1, hg2, hg3]; rfl) | simp [hg1, hg2, hg3])), trivial⟩
  intro _
  refine e_then ?_
  refine c_cond (((decide (x0 < (-4194304))) || ((decide (x0 > 4194304)) || ((decide (y0 < (-4194304))) || (decide (y0 > 4194304)))))) rfl (fun ht1 => ?_) (fun ht1 => ?_)
  · skip
    replace hp := if_t ht1 hp
    refine c_seq ?_
    refine c_quiet ?_
    refine ql_s (.int .i64 5) (by kernel_rfl) ?_
    refine ql_nil ?_
    refine e_then ?_
    refine c_ret ?_
    refine e_then_ret ?_
    obtain rfl := Option.some.inj hp
    exact post_all (vs := [.int .i64 5]) (.int .i64 5) ⟨rfl, trivial⟩ rfl (.inl rfl) (fun w hS => ⟨rfl, hS⟩)
  · skip
    replace hp := if_f ht1 hp
    refine c_skip ?_
    refine e_then ?_
    refine c_seq ?_
    refine c_quiet ?_
    refine ql_s (.int .i64 0) (by kernel_rfl) ?_
    refine ql_nil ?_
    refine e_then ?_
    refine c_ret ?_
    obtain rfl := Option.some.inj hp
    exact post_all (vs := [.int .i64 0]) (.int .i64 0) ⟨rfl, trivial⟩ rfl (.inl rfl) (fun w hS => ⟨rfl, hS⟩)

-- tarnfell/water.Direction
set_option maxRecDepth 100000 in
set_option maxHeartbeats 3000000 in
theorem water_Direction_s (a0 : S_api_Point) (b0 : S_api_Point) (D : PH)  (F : List Assert) (r : Int) (hp : water_Direction_p a0 b0 = some r) : ∀ w : World, SInv D (F) w → Calls Tryd.prog 38 #[.agg #[.int .i64 a0.X, .int .i64 a0.Y], .agg #[.int .i64 b0.X, .int .i64 b0.Y]] w (fun e w' => e = .returned (.int .i64 r) ∧ SInv D (F) w') := by
  intro w hS
  refine call_intro Tryd.func38 rfl Tryd.ntmps38 (Nat.le_of_ble_eq_true rfl) hS ?_
  clear hS w
  unfold water_Direction_p at hp
  refine c_seq ?_
  refine c_region ?_
  refine l_box (cs := [.int .i64 a0.X, .int .i64 a0.Y]) rfl rfl (fun b3 => ?_)
  refine l_box (cs := [.int .i64 b0.X, .int .i64 b0.Y]) rfl rfl (fun b4 => ?_)
  refine l_s (.int .i64 0) (by kernel_rfl) ?_
  refine l_nil ?_
  refine e_then ?_
  refine c_seq ?_
  refine c_seq ?_
  refine c_quiet ?_
  refine ql_s (.int .i64 0) (by kernel_rfl) ?_
  refine ql_nil ?_
  refine e_then ?_
  have hm0 : (8 : Nat) = ((8 : Int)).toNat := rfl
  have hb0 : ((8 : Int)) ≤ 4611686018427387904 := by decide
  have hm1 := hm0; have hb1 := hb0; clear hm0 hb0
  obtain ⟨x1, hs1, hp⟩ := bnd_some hp
  obtain ⟨body1, hbody1, hs1⟩ := forI_gen hs1
  refine c_cut_end (fun φ1 D1 As1 => ∃ (s1 : Unit), x1 = .go s1 ∧ Is φ1 [] ∧ PH.le D D1 ∧ As1 = pt b4 [.int .i64 b0.X, .int .i64 b0.Y] 50 :: pt b3 [.int .i64 a0.X, .int .i64 a0.Y] 50 :: F) ?_ ?_
  · skip
    refine c_block ?_
    refine c_loop (fun k φ1 D2 As1 => ∃ (j1 i1 : Nat) (s2 : Unit), k = j1 + 1 ∧ i1 + j1 = 8 ∧ Is φ1 [(2, .pointer (some ⟨b3, 0, none⟩)), (3, .pointer (some ⟨b4, 0, none⟩)), (7, .int .i64 (i1 : Int))] ∧ PH.le D D2 ∧ As1 = pt b4 [.int .i64 b0.X, .int .i64 b0.Y] 50 :: pt b3 [.int .i64 a0.X, .int .i64 a0.Y] 50 :: F ∧ forI body1 j1 i1 s2 = some x1) ⟨8 + 1, 8, 0, (), rfl, Nat.zero_add _, ⟨rfl, rfl, rfl, trivial⟩, (PH.le_refl _), rfl, hs1⟩ ?_ ?_
    · rintro _ _ _ ⟨_, _, _, h0, _⟩; omega
    intro k1
    rintro φ1 D2 As1 ⟨j1, i1, s2, hk1, hij1, hI1, hD1, hA1, hs2⟩
    subst As1
    refine c_frame _ hI1 ?_
    obtain rfl : k1 = j1 := by omega
    clear hk1
    rcases k1 with _ | j1
    · skip
      refine c_seq ?_
      refine c_quiet ?_
      refine ql_s (.bool (decide ((i1 : Int) < 8))) (by kernel_rfl) ?_
      refine ql_nil ?_
      refine e_then ?_
      refine c_seq ?_
      refine c_cond (decide ((i1 : Int) < 8)) rfl (fun ht1 => absurd ((dec_lt_f hm1 (by omega)).symm.trans ht1) (by simp)) (fun _ => ?_)
      refine c_exit ?_
      refine e_then_exit ?_
      refine e_then_exit ?_
      obtain rfl := Option.some.inj hs2
      refine e_blk_exit ?_
      exact e_cut ⟨(), rfl, trivial, hD1, rfl⟩
    · skip
      obtain ⟨y1, hx1, hs2⟩ := forI_some hs2
      replace hx1 := (congrFun (congrFun hbody1 i1) s2).trans hx1
      refine c_seq ?_
      refine c_quiet ?_
      refine ql_s (.bool (decide ((i1 : Int) < 8))) (by kernel_rfl) ?_
      refine ql_nil ?_
      refine e_then ?_
      refine c_seq ?_
      refine c_cond (decide ((i1 : Int) < 8)) rfl (fun _ => ?_) (fun ht2 => absurd ((dec_lt_t hm1 (by omega)).symm.trans ht2) (by simp))
      refine c_skip ?_
      refine e_then ?_
      refine c_seq ?_
      refine c_block ?_
      refine c_seq ?_
      refine c_quiet ?_
      refine ql_s (.int .i64 (i1 : Int)) (by kernel_rfl) ?_
      refine ql_s (.int .i64 (i1 : Int)) (by kernel_rfl) ?_
      refine ql_nil ?_
      refine e_then ?_
      refine c_seq ?_
      obtain ⟨r1, hr1, hx1⟩ := bnd_some hx1
      refine c_region ?_
      refine l_s (.int .i64 (i1 : Int)) (by kernel_rfl) ?_
      refine l_callq (v := .agg #[.int .i64 r1.X, .int .i64 r1.Y]) rfl rfl Tryd.call24 (vs := [.int .i64 (i1 : Int)]) rfl (fun w hS => (water_Toward_s (i1 : Int) _  _ _ hr1 w (hS)).mono fun e w' h => ⟨h.1, h.2⟩) ?_
      refine l_alloc (zs := [.int .i64 0, .int .i64 0]) rfl (by kernel_rfl) (fun b6 => ?_)
      refine l_store (dd := none) (vs := [.int .i64 r1.X, .int .i64 r1.Y]) (cs' := [.int .i64 r1.X, .int .i64 r1.Y]) rfl (by kernel_rfl) (by kernel_rfl) rfl rfl (Nat.le_of_ble_eq_true rfl) rfl rfl ?_
      refine l_nil ?_
      refine e_then ?_
      refine c_seq ?_
      refine c_cutq_end [(2, .pointer (some ⟨b3, 0, none⟩)), (3, .pointer (some ⟨b4, 0, none⟩)), (5, .int .i64 (i1 : Int)), (7, .int .i64 (i1 : Int)), (29, .bool (((addI a0.X r1.X) == b0.X) && ((addI a0.Y r1.Y) == b0.Y)))] ?_ ?_
      · skip
        refine c_quiet ?_
        refine ql_s (.pointer (some ⟨b3, 0, none⟩)) (by kernel_rfl) ?_
        refine ql_q rfl (qs_ldpt encV fitv3 rfl 2 rfl (.int .i64 a0.X) (Nat.le_of_ble_eq_true rfl) rfl) ?_
        refine ql_s (.pointer (some ⟨b6, 0, none⟩)) (by kernel_rfl) ?_
        refine ql_q rfl (qs_ldpt encV fitv3 rfl 0 rfl (.int .i64 r1.X) (Nat.le_of_ble_eq_true rfl) rfl) ?_
        refine ql_s (.int .i64 (addI a0.X r1.X)) (by kernel_rfl) ?_
        refine ql_s (.pointer (some ⟨b4, 0, none⟩)) (by kernel_rfl) ?_
        refine ql_q rfl (qs_ldpt encV fitv3 rfl 1 rfl (.int .i64 b0.X) (Nat.le_of_ble_eq_true rfl) rfl) ?_
        refine ql_s (.bool ((addI a0.X r1.X) == b0.X)) (by kernel_rfl) ?_
        refine ql_s (.bool ((addI a0.X r1.X) == b0.X)) (by kernel_rfl) ?_
        refine ql_case 20 (((addI a0.X r1.X) == b0.X)) rfl (fun hg1 => ?_) (fun hg1 => ?_)
        · skip
          refine ql_s (.pointer (some ⟨b3, 1, none⟩)) (by kernel_rfl) ?_
          refine ql_q rfl (qs_ldpt encV fitv3 rfl 2 rfl (.int .i64 a0.Y) (Nat.le_of_ble_eq_true rfl) rfl) ?_
          refine ql_s (.pointer (some ⟨b6, 1, none⟩)) (by kernel_rfl) ?_
          refine ql_q rfl (qs_ldpt encV fitv3 rfl 0 rfl (.int .i64 r1.Y) (Nat.le_of_ble_eq_true rfl) rfl) ?_
          refine ql_s (.int .i64 (addI a0.Y r1.Y)) (by kernel_rfl) ?_
          refine ql_s (.pointer (some ⟨b4, 1, none⟩)) (by kernel_rfl) ?_
          refine ql_q rfl (qs_ldpt encV fitv3 rfl 1 rfl (.int .i64 b0.Y) (Nat.le_of_ble_eq_true rfl) rfl) ?_
          refine ql_s (.bool ((addI a0.Y r1.Y) == b0.Y)) (by kernel_rfl) ?_
          refine ql_s (.bool ((addI a0.Y r1.Y) == b0.Y)) (by kernel_rfl) ?_
          refine ql_nil (e_cutq ?_)
          exact ⟨rfl, rfl, rfl, rfl, (congrArg Value.bool (by first | rfl | (rw [hg1]; rfl) | simp [hg1])), trivial⟩
        · skip
          refine ql_s undef (by kernel_rfl) ?_
          refine ql_s undef (by kernel_rfl) ?_
          refine ql_s undef (by kernel_rfl) ?_
          refine ql_s undef (by kernel_rfl) ?_
          refine ql_s undef (by kernel_rfl) ?_
          refine ql_s undef (by kernel_rfl) ?_
          refine ql_s undef (by kernel_rfl) ?_
          refine ql_s undef (by kernel_rfl) ?_
          refine ql_s (.bool false) (by kernel_rfl) ?_
          refine ql_nil (e_cutq ?_)
          exact ⟨rfl, rfl, rfl, rfl, (congrArg Value.bool (by first | rfl | (rw [hg1]; rfl) | simp [hg1])), trivial⟩
      intro _
      refine e_then ?_
      refine c_cond ((((addI a0.X r1.X) == b0.X) && ((addI a0.Y r1.Y) == b0.Y))) rfl (fun ht3 => ?_) (fun ht3 => ?_)
      · skip
        replace hx1 := if_t ht3 hx1
        refine c_seq ?_
        refine c_quiet ?_
        refine ql_s (.int .i64 (i1 : Int)) (by kernel_rfl) ?_
        refine ql_s (.int .i64 (i1 : Int)) (by kernel_rfl) ?_
        refine ql_nil ?_
        refine e_drop ?_
        refine e_drop ?_
        refine e_drop ?_
        refine e_then ?_
        refine c_ret ?_
        refine e_blk_ret ?_
        refine e_then_ret ?_
        refine e_then_ret ?_
        obtain rfl := Option.some.inj hx1
        obtain rfl := hs2
        refine e_blk_ret ?_
        refine e_then_ret ?_
        dsimp only at hp
        refine e_then_ret ?_
        obtain rfl := Option.some.inj hp
        exact post_all (vs := [.int .i64 (i1 : Int)]) (.int .i64 (i1 : Int)) ⟨rfl, trivial⟩ rfl (.inl rfl) (fun w hS => ⟨rfl, (hS.lower hD1)⟩)
      · skip
        replace hx1 := if_f ht3 hx1
        refine c_skip ?_
        refine e_blk ?_
        refine e_then ?_
        refine c_quiet ?_
        refine ql_s (.int .i64 (addI (i1 : Int) 1)) (by kernel_rfl) ?_
        refine ql_s (.int .i64 (addI (i1 : Int) 1)) (by kernel_rfl) ?_
        refine ql_nil ?_
        refine e_drop ?_
        obtain rfl := Option.some.inj hx1
        exact e_cut ⟨j1, i1 + 1, (), by omega, by omega, ⟨rfl, rfl, (congrArg (Value.int .i64) (addI_succ (by omega))), trivial⟩, hD1, rfl, hs2⟩
  · skip
    rintro φ2 D1 As2 ⟨s1, rfl, hI2, hD2, hA2⟩
    subst As2
    dsimp only at hp
    refine e_frame _ hI2 ?_
    refine e_then ?_
    refine c_seq ?_
    refine c_quiet ?_
    refine ql_s (.int .i64 (-1)) (by kernel_rfl) ?_
    refine ql_nil ?_
    refine e_drop ?_
    refine e_drop ?_
    refine e_then ?_
    refine c_ret ?_
    obtain rfl := Option.some.inj hp
    exact post_all (vs := [.int .i64 (-1)]) (.int .i64 (-1)) ⟨rfl, trivial⟩ rfl (.inl rfl) (fun w hS => ⟨rfl, (hS.lower hD2)⟩)

-- tarnfell/water.checkRiver
set_option maxRecDepth 100000 in
set_option maxHeartbeats 3000000 in
theorem water_checkRiver_s (r0 : S_api_River) (r0_v1a : Option Addr) (r0_v1c : Nat) (many0 : Int) (D : PH) (r0_h1 : RO encS_api_Point D (.slice r0_v1a r0.Points.length r0_v1c) r0.Points) (F : List Assert) (r : Int) (hp : water_checkRiver_p r0 many0 = some r) : ∀ w : World, SInv D (F) w → Calls Tryd.prog 25 #[.agg #[.slice r0_v1a r0.Points.length r0_v1c, .int .i64 r0.Amount, .int .i64 r0.Order, .int .i64 r0.Into], .int .i64 many0] w (fun e w' => e = .returned (.int .i64 r) ∧ SInv D (F) w') := by
  intro w hS
  refine call_intro Tryd.func25 rfl Tryd.ntmps25 (Nat.le_of_ble_eq_true rfl) hS ?_
  clear hS w
  unfold water_checkRiver_p at hp
  refine c_seq ?_
  refine c_region ?_
  refine l_box (cs := [.slice r0_v1a r0.Points.length r0_v1c, .int .i64 r0.Amount, .int .i64 r0.Order, .int .i64 r0.Into]) rfl rfl (fun b2 => ?_)
  refine l_s (.int .i64 0) (by kernel_rfl) ?_
  refine l_nil ?_
  refine e_then ?_
  refine c_seq ?_
  refine c_block ?_
  refine c_seq ?_
  refine c_quiet ?_
  refine ql_s (.pointer (some ⟨b2, 0, none⟩)) (by kernel_rfl) ?_
  refine ql_q rfl (qs_ldpt encV fitv36 rfl 0 rfl (.slice r0_v1a r0.Points.length r0_v1c) (Nat.le_of_ble_eq_true rfl) rfl) ?_
  refine ql_s (.int .i64 (r0.Points.length : Int)) (by kernel_rfl) ?_
  refine ql_s (.bool ((r0.Points.length : Int) == 0)) (by kernel_rfl) ?_
  refine ql_s (.bool ((r0.Points.length : Int) == 0)) (by kernel_rfl) ?_
  refine ql_nil ?_
  refine e_then ?_
  refine c_cond (((r0.Points.length : Int) == 0)) rfl (fun ht1 => ?_) (fun ht1 => ?_)
  · skip
    replace hp := if_t ht1 hp
    refine c_seq ?_
    refine c_quiet ?_
    refine ql_s (.int .i64 10) (by kernel_rfl) ?_
    refine ql_nil ?_
    refine e_drop ?_
    refine e_then ?_
    refine c_ret ?_
    refine e_blk_ret ?_
    refine e_then_ret ?_
    obtain rfl := Option.some.inj hp
    exact post_all (vs := [.int .i64 10]) (.int .i64 10) ⟨rfl, trivial⟩ rfl (.inl rfl) (fun w hS => ⟨rfl, hS⟩)
  · skip
    replace hp := if_f ht1 hp
    refine c_seq ?_
    refine c_cutq_end [(1, .int .i64 many0), (2, .pointer (some ⟨b2, 0, none⟩)), (14, .bool ((decide (r0.Amount < 0)) || ((decide (r0.Amount > 1099511627776)) || ((decide (r0.Order < 1)) || (decide (r0.Order > 100))))))] ?_ ?_
    · skip
      refine c_quiet ?_
      refine ql_s (.pointer (some ⟨b2, 1, none⟩)) (by kernel_rfl) ?_
      refine ql_q rfl (qs_ldpt encV fitv3 rfl 0 rfl (.int .i64 r0.Amount) (Nat.le_of_ble_eq_true rfl) rfl) ?_
      refine ql_s (.bool (decide (r0.Amount < 0))) (by kernel_rfl) ?_
      refine ql_s (.bool (decide (r0.Amount < 0))) (by kernel_rfl) ?_
      refine ql_case 18 (decide (r0.Amount < 0)) rfl (fun hg1 => ?_) (fun hg1 => ?_)
      · skip
        refine ql_s undef (by kernel_rfl) ?_
        refine ql_s undef (by kernel_rfl) ?_
        refine ql_s undef (by kernel_rfl) ?_
        refine ql_s (.bool true) (by kernel_rfl) ?_
        refine ql_s (.bool true) (by kernel_rfl) ?_
        refine ql_s undef (by kernel_rfl) ?_
        refine ql_s undef (by kernel_rfl) ?_
        refine ql_s undef (by kernel_rfl) ?_
        refine ql_s (.bool true) (by kernel_rfl) ?_
        refine ql_s (.bool true) (by kernel_rfl) ?_
        refine ql_s undef (by kernel_rfl) ?_
        refine ql_s undef (by kernel_rfl) ?_
        refine ql_s undef (by kernel_rfl) ?_
        refine ql_s (.bool true) (by kernel_rfl) ?_
        refine ql_s (.bool true) (by kernel_rfl) ?_
        refine ql_nil (e_cutq ?_)
        exact ⟨rfl, rfl, (congrArg Value.bool (by first | rfl | (rw [hg1]; rfl) | simp [hg1])), trivial⟩
      · skip
        refine ql_s (.pointer (some ⟨b2, 1, none⟩)) (by kernel_rfl) ?_
        refine ql_q rfl (qs_ldpt encV fitv3 rfl 0 rfl (.int .i64 r0.Amount) (Nat.le_of_ble_eq_true rfl) rfl) ?_
        refine ql_s (.bool (decide (r0.Amount > 1099511627776))) (by kernel_rfl) ?_
        refine ql_s (.bool (decide (r0.Amount > 1099511627776))) (by kernel_rfl) ?_
        refine ql_s (.bool (decide (r0.Amount > 1099511627776))) (by kernel_rfl) ?_
        refine ql_case 23 (decide (r0.Amount > 1099511627776)) rfl (fun hg2 => ?_) (fun hg2 => ?_)
        · skip
          refine ql_s undef (by kernel_rfl) ?_
          refine ql_s undef (by kernel_rfl) ?_
          refine ql_s undef (by kernel_rfl) ?_
          refine ql_s (.bool true) (by kernel_rfl) ?_
          refine ql_s (.bool true) (by kernel_rfl) ?_
          refine ql_s undef (by kernel_rfl) ?_
          refine ql_s undef (by kernel_rfl) ?_
          refine ql_s undef (by kernel_rfl) ?_
          refine ql_s (.bool true) (by kernel_rfl) ?_
          refine ql_s (.bool true) (by kernel_rfl) ?_
          refine ql_nil (e_cutq ?_)
          exact ⟨rfl, rfl, (congrArg Value.bool (by first | rfl | (rw [hg1, hg2]; rfl) | simp [hg1, hg2])), trivial⟩
        · skip
          refine ql_s (.pointer (some ⟨b2, 2, none⟩)) (by kernel_rfl) ?_
          refine ql_q rfl (qs_ldpt encV fitv3 rfl 0 rfl (.int .i64 r0.Order) (Nat.le_of_ble_eq_true rfl) rfl) ?_
          refine ql_s (.bool (decide (r0.Order < 1))) (by kernel_rfl) ?_
          refine ql_s (.bool (decide (r0.Order < 1))) (by kernel_rfl) ?_
          refine ql_s (.bool (decide (r0.Order < 1))) (by kernel_rfl) ?_
          refine ql_case 28 (decide (r0.Order < 1)) rfl (fun hg3 => ?_) (fun hg3 => ?_)
          · skip
            refine ql_s undef (by kernel_rfl) ?_
            refine ql_s undef (by kernel_rfl) ?_
            refine ql_s undef (by kernel_rfl) ?_
            refine ql_s (.bool true) (by kernel_rfl) ?_
            refine ql_s (.bool true) (by kernel_rfl) ?_
            refine ql_nil (e_cutq ?_)
            exact ⟨rfl, rfl, (congrArg Value.bool (by first | rfl | (rw [hg1, hg2, hg3]; rfl) | simp [hg1, hg2, hg3])), trivial⟩
          · skip
            refine ql_s (.pointer (some ⟨b2, 2, none⟩)) (by kernel_rfl) ?_
            refine ql_q rfl (qs_ldpt encV fitv3 rfl 0 rfl (.int .i64 r0.Order) (Nat.le_of_ble_eq_true rfl) rfl) ?_
            refine ql_s (.bool (decide (r0.Order > 100))) (by kernel_rfl) ?_
            refine ql_s (.bool (decide (r0.Order > 100))) (by kernel_rfl) ?_
            refine ql_s (.bool (decide (r0.Order > 100))) (by kernel_rfl) ?_
            refine ql_nil (e_cutq ?_)
            exact ⟨rfl, rfl, (congrArg Value.bool (by first | rfl | (rw [hg1, hg2, hg3]; rfl) | simp [hg1, hg2, hg3])), trivial⟩
    intro _
    refine e_then ?_
    refine c_cond (((decide (r0.Amount < 0)) || ((decide (r0.Amount > 1099511627776)) || ((decide (r0.Order < 1)) || (decide (r0.Order > 100)))))) rfl (fun ht2 => ?_) (fun ht2 => ?_)
    · skip
      replace hp := if_t ht2 hp
      refine c_seq ?_
      refine c_quiet ?_
      refine ql_s (.int .i64 3) (by kernel_rfl) ?_
      refine ql_nil ?_
      refine e_drop ?_
      refine e_then ?_
      refine c_ret ?_
      refine e_blk_ret ?_
      refine e_then_ret ?_
      obtain rfl := Option.some.inj hp
      exact post_all (vs := [.int .i64 3]) (.int .i64 3) ⟨rfl, trivial⟩ rfl (.inl rfl) (fun w hS => ⟨rfl, hS⟩)
    · skip
      replace hp := if_f ht2 hp
      refine c_seq ?_
      refine c_cutq_end [(2, .pointer (some ⟨b2, 0, none⟩)), (33, .bool ((decide (r0.Into < (-1))) || (decide (r0.Into ≥ many0))))] ?_ ?_
      · skip
        refine c_quiet ?_
        refine ql_s (.pointer (some ⟨b2, 3, none⟩)) (by kernel_rfl) ?_
        refine ql_q rfl (qs_ldpt encV fitv3 rfl 0 rfl (.int .i64 r0.Into) (Nat.le_of_ble_eq_true rfl) rfl) ?_
        refine ql_s (.bool (decide (r0.Into < (-1)))) (by kernel_rfl) ?_
        refine ql_s (.bool (decide (r0.Into < (-1)))) (by kernel_rfl) ?_
        refine ql_case 37 (decide (r0.Into < (-1))) rfl (fun hg4 => ?_) (fun hg4 => ?_)
        · skip
          refine ql_s undef (by kernel_rfl) ?_
          refine ql_s undef (by kernel_rfl) ?_
          refine ql_s undef (by kernel_rfl) ?_
          refine ql_s undef (by kernel_rfl) ?_
          refine ql_s (.bool true) (by kernel_rfl) ?_
          refine ql_s (.bool true) (by kernel_rfl) ?_
          refine ql_nil (e_cutq ?_)
          exact ⟨rfl, (congrArg Value.bool (by first | rfl | (rw [hg4]; rfl) | simp [hg4])), trivial⟩
        · skip
          refine ql_s (.pointer (some ⟨b2, 3, none⟩)) (by kernel_rfl) ?_
          refine ql_q rfl (qs_ldpt encV fitv3 rfl 0 rfl (.int .i64 r0.Into) (Nat.le_of_ble_eq_true rfl) rfl) ?_
          refine ql_s (.int .i64 many0) (by kernel_rfl) ?_
          refine ql_s (.bool (decide (r0.Into ≥ many0))) (by kernel_rfl) ?_
          refine ql_s (.bool (decide (r0.Into ≥ many0))) (by kernel_rfl) ?_
          refine ql_s (.bool (decide (r0.Into ≥ many0))) (by kernel_rfl) ?_
          refine ql_nil (e_cutq ?_)
          exact ⟨rfl, (congrArg Value.bool (by first | rfl | (rw [hg4]; rfl) | simp [hg4])), trivial⟩
      intro _
      refine e_then ?_
      refine c_cond (((decide (r0.Into < (-1))) || (decide (r0.Into ≥ many0)))) rfl (fun ht3 => ?_) (fun ht3 => ?_)
      · skip
        replace hp := if_t ht3 hp
        refine c_seq ?_
        refine c_quiet ?_
        refine ql_s (.int .i64 11) (by kernel_rfl) ?_
        refine ql_nil ?_
        refine e_drop ?_
        refine e_then ?_
        refine c_ret ?_
        refine e_blk_ret ?_
        refine e_then_ret ?_
        obtain rfl := Option.some.inj hp
        exact post_all (vs := [.int .i64 11]) (.int .i64 11) ⟨rfl, trivial⟩ rfl (.inl rfl) (fun w hS => ⟨rfl, hS⟩)
      · skip
        replace hp := if_f ht3 hp
        refine c_skip ?_
        refine e_blk ?_
        refine e_then ?_
        refine c_seq ?_
        refine c_seq ?_
        refine c_quiet ?_
        refine ql_s (.pointer (some ⟨b2, 0, none⟩)) (by kernel_rfl) ?_
        refine ql_q rfl (qs_ldpt encV fitv36 rfl 0 rfl (.slice r0_v1a r0.Points.length r0_v1c) (Nat.le_of_ble_eq_true rfl) rfl) ?_
        refine ql_s (.int .i64 (r0.Points.length : Int)) (by kernel_rfl) ?_
        refine ql_s (.int .i64 0) (by kernel_rfl) ?_
        refine ql_nil ?_
        refine e_then ?_
        have hb0 : (r0.Points.length : Int) ≤ 4611686018427387904 := by have := RO.bound r0_h1; omega
        have hm0 : r0.Points.length = (r0.Points.length : Int).toNat := by omega
        have hm1 := hm0; have hb1 := hb0; clear hm0 hb0
        obtain ⟨x1, hs1, hp⟩ := bnd_some hp
        obtain ⟨body1, hbody1, hs1⟩ := forI_gen hs1
        refine c_cut_end (fun φ1 D1 As1 => ∃ (s1 : Unit), x1 = .go s1 ∧ Is φ1 [(2, .pointer (some ⟨b2, 0, none⟩))] ∧ PH.le D D1 ∧ As1 = pt b2 [.slice r0_v1a r0.Points.length r0_v1c, .int .i64 r0.Amount, .int .i64 r0.Order, .int .i64 r0.Into] 38 :: F) ?_ ?_
        · skip
          refine c_block ?_
          refine c_loop (fun k φ1 D2 As1 => ∃ (j1 i1 : Nat) (s2 : Unit), k = j1 + 1 ∧ i1 + j1 = r0.Points.length ∧ Is φ1 [(2, .pointer (some ⟨b2, 0, none⟩)), (44, .slice r0_v1a r0.Points.length r0_v1c), (45, .int .i64 (r0.Points.length : Int)), (46, .int .i64 (i1 : Int))] ∧ PH.le D D2 ∧ As1 = pt b2 [.slice r0_v1a r0.Points.length r0_v1c, .int .i64 r0.Amount, .int .i64 r0.Order, .int .i64 r0.Into] 38 :: F ∧ forI body1 j1 i1 s2 = some x1) ⟨r0.Points.length + 1, r0.Points.length, 0, (), rfl, Nat.zero_add _, ⟨rfl, rfl, rfl, rfl, trivial⟩, (PH.le_refl _), rfl, hs1⟩ ?_ ?_
          · rintro _ _ _ ⟨_, _, _, h0, _⟩; omega
          intro k1
          rintro φ1 D2 As1 ⟨j1, i1, s2, hk1, hij1, hI1, hD1, hA1, hs2⟩
          subst As1
          replace r0_h1 := r0_h1.mono hD1
          refine c_frame _ hI1 ?_
          obtain rfl : k1 = j1 := by omega
          clear hk1
          rcases k1 with _ | j1
          · skip
            refine c_seq ?_
            refine c_quiet ?_
            refine ql_s (.bool (decide ((i1 : Int) < (r0.Points.length : Int)))) (by kernel_rfl) ?_
            refine ql_nil ?_
            refine e_then ?_
            refine c_seq ?_
            refine c_cond (decide ((i1 : Int) < (r0.Points.length : Int))) rfl (fun ht4 => absurd ((dec_lt_f hm1 (by omega)).symm.trans ht4) (by simp)) (fun _ => ?_)
            refine c_exit ?_
            refine e_then_exit ?_
            refine e_then_exit ?_
            obtain rfl := Option.some.inj hs2
            refine e_blk_exit ?_
            exact e_cut ⟨(), rfl, ⟨rfl, trivial⟩, hD1, rfl⟩
          · skip
            obtain ⟨y1, hx1, hs2⟩ := forI_some hs2
            replace hx1 := (congrFun (congrFun hbody1 i1) s2).trans hx1
            refine c_seq ?_
            refine c_quiet ?_
            refine ql_s (.bool (decide ((i1 : Int) < (r0.Points.length : Int)))) (by kernel_rfl) ?_
            refine ql_nil ?_
            refine e_then ?_
            refine c_seq ?_
            refine c_cond (decide ((i1 : Int) < (r0.Points.length : Int))) rfl (fun _ => ?_) (fun ht5 => absurd ((dec_lt_t hm1 (by omega)).symm.trans ht5) (by simp))
            refine c_skip ?_
            refine e_then ?_
            refine c_seq ?_
            refine c_block ?_
            refine c_seq ?_
            obtain ⟨x2, hx2, hx1⟩ := bnd_some hx1
            obtain ⟨b3, o1, h1, hq1⟩ := RO.at r0_h1 hx2
            obtain ⟨cs1, hc1, ha1⟩ := h1.cells
            obtain rfl := hc1
            refine c_region ?_
            refine l_q rfl (qs_idx hq1 Tryd.underlying36 fit50 rfl rfl) ?_
            refine l_q rfl (qs_ldC fit50 rfl ha1 rfl (.agg #[.int .i64 x2.X, .int .i64 x2.Y]) rfl) ?_
            refine l_alloc (zs := [.int .i64 0, .int .i64 0]) rfl (by kernel_rfl) (fun b5 => ?_)
            refine l_store (dd := none) (vs := [.int .i64 x2.X, .int .i64 x2.Y]) (cs' := [.int .i64 x2.X, .int .i64 x2.Y]) rfl (by kernel_rfl) (by kernel_rfl) rfl rfl (Nat.le_of_ble_eq_true rfl) rfl rfl ?_
            refine l_nil ?_
            refine e_then ?_
            refine c_seq ?_
            obtain ⟨r1, hr1, hx1⟩ := bnd_some hx1
            refine c_quiet ?_
            refine ql_s (.pointer (some ⟨b5, 0, none⟩)) (by kernel_rfl) ?_
            refine ql_q rfl (qs_ldpt encV fitv3 rfl 0 rfl (.int .i64 x2.X) (Nat.le_of_ble_eq_true rfl) rfl) ?_
            refine ql_s (.pointer (some ⟨b5, 1, none⟩)) (by kernel_rfl) ?_
            refine ql_q rfl (qs_ldpt encV fitv3 rfl 0 rfl (.int .i64 x2.Y) (Nat.le_of_ble_eq_true rfl) rfl) ?_
            refine ql_call (v := .int .i64 r1) rfl (run_call (vs := [.int .i64 x2.X, .int .i64 x2.Y]) rfl Tryd.call37 rfl) (fun w hS => (noise_CheckPlace_s x2.X x2.Y _  _ _ hr1 w (hS)).mono fun e w' h => ⟨h.1, h.2⟩) ?_
            refine ql_s (.bool (r1 != 0)) (by kernel_rfl) ?_
            refine ql_nil ?_
            refine e_drop ?_
            refine e_then ?_
            refine c_cond ((r1 != 0)) rfl (fun ht6 => ?_) (fun ht6 => ?_)
            · skip
              replace hx1 := if_t ht6 hx1
              refine c_seq ?_
              refine c_quiet ?_
              refine ql_s (.int .i64 5) (by kernel_rfl) ?_
              refine ql_nil ?_
              refine e_drop ?_
              refine e_then ?_
              refine c_ret ?_
              refine e_blk_ret ?_
              refine e_then_ret ?_
              refine e_then_ret ?_
              obtain rfl := Option.some.inj hx1
              obtain rfl := hs2
              refine e_blk_ret ?_
              refine e_then_ret ?_
              dsimp only at hp
              refine e_then_ret ?_
              obtain rfl := Option.some.inj hp
              exact post_all (vs := [.int .i64 5]) (.int .i64 5) ⟨rfl, trivial⟩ rfl (.inl rfl) (fun w hS => ⟨rfl, (hS.lower hD1)⟩)
            · skip
              replace hx1 := if_f ht6 hx1
              refine c_skip ?_
              refine e_blk ?_
              refine e_then ?_
              refine c_quiet ?_
              refine ql_s (.int .i64 (addI (i1 : Int) 1)) (by kernel_rfl) ?_
              refine ql_s (.int .i64 (addI (i1 : Int) 1)) (by kernel_rfl) ?_
              refine ql_nil ?_
              obtain rfl := Option.some.inj hx1
              exact e_cut ⟨j1, i1 + 1, (), by omega, by omega, ⟨rfl, rfl, rfl, (congrArg (Value.int .i64) (addI_succ (by omega))), trivial⟩, hD1, rfl, hs2⟩
        · skip
          rintro φ2 D1 As2 ⟨s1, rfl, hI2, hD2, hA2⟩
          subst As2
          replace r0_h1 := r0_h1.mono hD2
          dsimp only at hp
          refine e_frame _ hI2 ?_
          refine e_then ?_
          refine c_seq ?_
          refine c_seq ?_
          obtain ⟨l1, hl1, hp⟩ := bnd_some hp
          obtain ⟨a1, cp1, hv1, h2⟩ := RO.slc r0_h1 hl1
          refine c_quiet ?_
          refine ql_s (.pointer (some ⟨b2, 0, none⟩)) (by kernel_rfl) ?_
          refine ql_q rfl (qs_ldpt encV fitv36 rfl 0 rfl (.slice r0_v1a r0.Points.length r0_v1c) (Nat.le_of_ble_eq_true rfl) rfl) ?_
          refine ql_q rfl (qs_slice (e := encS_api_Point) Tryd.underlying36 fit50 rfl (RO.cap r0_h1).1 (RO.cap r0_h1).2 ⟨_, rfl⟩ rfl hl1 hv1) ?_
          refine ql_s (.int .i64 (l1.length : Int)) (by kernel_rfl) ?_
          refine ql_s (.int .i64 0) (by kernel_rfl) ?_
          refine ql_nil ?_
          refine e_then ?_
          have hb0 : (l1.length : Int) ≤ 4611686018427387904 := by have := RO.bound h2; omega
          have hm0 : l1.length = (l1.length : Int).toNat := by omega
          have hm2 := hm0; have hb2 := hb0; clear hm0 hb0
          obtain ⟨x3, hs3, hp⟩ := bnd_some hp
          obtain ⟨body2, hbody2, hs3⟩ := forI_gen hs3
          refine c_cut_end (fun φ1 D3 As1 => ∃ (s3 : Unit), x3 = .go s3 ∧ Is φ1 [] ∧ PH.le D1 D3 ∧ As1 = pt b2 [.slice r0_v1a r0.Points.length r0_v1c, .int .i64 r0.Amount, .int .i64 r0.Order, .int .i64 r0.Into] 38 :: F) ?_ ?_
          · skip
            refine c_block ?_
            refine c_loop (fun k φ1 D4 As1 => ∃ (j2 i2 : Nat) (s4 : Unit), k = j2 + 1 ∧ i2 + j2 = l1.length ∧ Is φ1 [(2, .pointer (some ⟨b2, 0, none⟩)), (59, .slice a1 l1.length cp1), (60, .int .i64 (l1.length : Int)), (61, .int .i64 (i2 : Int))] ∧ PH.le D1 D4 ∧ As1 = pt b2 [.slice r0_v1a r0.Points.length r0_v1c, .int .i64 r0.Amount, .int .i64 r0.Order, .int .i64 r0.Into] 38 :: F ∧ forI body2 j2 i2 s4 = some x3) ⟨l1.length + 1, l1.length, 0, (), rfl, Nat.zero_add _, ⟨rfl, rfl, rfl, rfl, trivial⟩, (PH.le_refl _), rfl, hs3⟩ ?_ ?_
            · rintro _ _ _ ⟨_, _, _, h0, _⟩; omega
            intro k2
            rintro φ3 D4 As3 ⟨j2, i2, s4, hk2, hij2, hI3, hD3, hA3, hs4⟩
            subst As3
            replace h2 := h2.mono hD3
            replace r0_h1 := r0_h1.mono hD3
            refine c_frame _ hI3 ?_
            obtain rfl : k2 = j2 := by omega
            clear hk2
            rcases k2 with _ | j2
            · skip
              refine c_seq ?_
              refine c_quiet ?_
              refine ql_s (.bool (decide ((i2 : Int) < (l1.length : Int)))) (by kernel_rfl) ?_
              refine ql_nil ?_
              refine e_then ?_
              refine c_seq ?_
              refine c_cond (decide ((i2 : Int) < (l1.length : Int))) rfl (fun ht7 => absurd ((dec_lt_f hm2 (by omega)).symm.trans ht7) (by simp)) (fun _ => ?_)
              refine c_exit ?_
              refine e_then_exit ?_
              refine e_then_exit ?_
              obtain rfl := Option.some.inj hs4
              refine e_blk_exit ?_
              exact e_cut ⟨(), rfl, trivial, hD3, rfl⟩
            · skip
              obtain ⟨y2, hx3, hs4⟩ := forI_some hs4
              replace hx3 := (congrFun (congrFun hbody2 i2) s4).trans hx3
              refine c_seq ?_
              refine c_quiet ?_
              refine ql_s (.bool (decide ((i2 : Int) < (l1.length : Int)))) (by kernel_rfl) ?_
              refine ql_nil ?_
              refine e_then ?_
              refine c_seq ?_
              refine c_cond (decide ((i2 : Int) < (l1.length : Int))) rfl (fun _ => ?_) (fun ht8 => absurd ((dec_lt_t hm2 (by omega)).symm.trans ht8) (by simp))
              refine c_skip ?_
              refine e_then ?_
              refine c_seq ?_
              refine c_block ?_
              refine c_seq ?_
              obtain ⟨x4, hx4, hx3⟩ := bnd_some hx3
              obtain ⟨b6, o2, h3, hq2⟩ := RO.at h2 hx4
              obtain ⟨cs2, hc2, ha2⟩ := h3.cells
              obtain rfl := hc2
              refine c_region ?_
              refine l_s (.int .i64 (i2 : Int)) (by kernel_rfl) ?_
              refine l_q rfl (qs_idx hq2 Tryd.underlying36 fit50 rfl rfl) ?_
              refine l_q rfl (qs_ldC fit50 rfl ha2 rfl (.agg #[.int .i64 x4.X, .int .i64 x4.Y]) rfl) ?_
              refine l_alloc (zs := [.int .i64 0, .int .i64 0]) rfl (by kernel_rfl) (fun b8 => ?_)
              refine l_s (.int .i64 (i2 : Int)) (by kernel_rfl) ?_
              refine l_store (dd := none) (vs := [.int .i64 x4.X, .int .i64 x4.Y]) (cs' := [.int .i64 x4.X, .int .i64 x4.Y]) rfl (by kernel_rfl) (by kernel_rfl) rfl rfl (Nat.le_of_ble_eq_true rfl) rfl rfl ?_
              refine l_nil ?_
              refine e_then ?_
              refine c_seq ?_
              obtain ⟨x5, hx5, hx3⟩ := bnd_some hx3
              obtain ⟨b9, o3, h4, hq3⟩ := RO.at r0_h1 hx5
              obtain ⟨cs3, hc3, ha3⟩ := h4.cells
              obtain rfl := hc3
              obtain ⟨r2, hr2, hx3⟩ := bnd_some hx3
              refine c_quiet_draw hmix (by kernel_rfl) ?_
              refine ql_s (.pointer (some ⟨b2, 0, none⟩)) (by kernel_rfl) ?_
              refine ql_q rfl (qs_ldpt encV fitv36 rfl 1 rfl (.slice r0_v1a r0.Points.length r0_v1c) (Nat.le_of_ble_eq_true rfl) rfl) ?_
              refine ql_s (.int .i64 (i2 : Int)) (by kernel_rfl) ?_
              refine ql_q rfl (qs_idx hq3 Tryd.underlying36 fit50 rfl rfl) ?_
              refine ql_q rfl (qs_ldC fit50 rfl ha3 rfl (.agg #[.int .i64 x5.X, .int .i64 x5.Y]) rfl) ?_
              refine ql_q rfl (qs_ldpt (encW 2 (by decide)) fitv50 rfl 0 rfl (.agg #[.int .i64 x4.X, .int .i64 x4.Y]) (Nat.le_of_ble_eq_true rfl) rfl) ?_
              refine ql_call (v := .int .i64 r2) rfl (run_call (vs := [.agg #[.int .i64 x5.X, .int .i64 x5.Y], .agg #[.int .i64 x4.X, .int .i64 x4.Y]]) rfl Tryd.call38 rfl) (fun w hS => (water_Direction_s x5 x4 _  _ _ hr2 w (hS)).mono fun e w' h => ⟨h.1, h.2⟩) ?_
              refine ql_s (.bool (r2 == (-1))) (by kernel_rfl) ?_
              refine ql_nil ?_
              refine e_drop ?_
              refine e_then ?_
              refine c_cond ((r2 == (-1))) rfl (fun ht9 => ?_) (fun ht9 => ?_)
              · skip
                replace hx3 := if_t ht9 hx3
                refine c_seq ?_
                refine c_quiet ?_
                refine ql_s (.int .i64 2) (by kernel_rfl) ?_
                refine ql_nil ?_
                refine e_drop ?_
                refine e_then ?_
                refine c_ret ?_
                refine e_blk_ret ?_
                refine e_then_ret ?_
                refine e_then_ret ?_
                obtain rfl := Option.some.inj hx3
                obtain rfl := hs4
                refine e_blk_ret ?_
                refine e_then_ret ?_
                dsimp only at hp
                refine e_then_ret ?_
                obtain rfl := Option.some.inj hp
                exact post_all (vs := [.int .i64 2]) (.int .i64 2) ⟨rfl, trivial⟩ rfl (.inl rfl) (fun w hS => ⟨rfl, (hS.lower (PH.le_trans hD2 hD3))⟩)
              · skip
                replace hx3 := if_f ht9 hx3
                refine c_skip ?_
                refine e_blk ?_
                refine e_then ?_
                refine c_quiet ?_
                refine ql_s (.int .i64 (addI (i2 : Int) 1)) (by kernel_rfl) ?_
                refine ql_s (.int .i64 (addI (i2 : Int) 1)) (by kernel_rfl) ?_
                refine ql_nil ?_
                obtain rfl := Option.some.inj hx3
                exact e_cut ⟨j2, i2 + 1, (), by omega, by omega, ⟨rfl, rfl, rfl, (congrArg (Value.int .i64) (addI_succ (by omega))), trivial⟩, hD3, rfl, hs4⟩
          · skip
            rintro φ4 D3 As4 ⟨s3, rfl, hI4, hD4, hA4⟩
            subst As4
            replace r0_h1 := r0_h1.mono hD4
            dsimp only at hp
            refine e_frame _ hI4 ?_
            refine e_then ?_
            refine c_seq ?_
            refine c_quiet ?_
            refine ql_s (.int .i64 0) (by kernel_rfl) ?_
            refine ql_nil ?_
            refine e_drop ?_
            refine e_then ?_
            refine c_ret ?_
            obtain rfl := Option.some.inj hp
            exact post_all (vs := [.int .i64 0]) (.int .i64 0) ⟨rfl, trivial⟩ rfl (.inl rfl) (fun w hS => ⟨rfl, (hS.lower (PH.le_trans hD2 hD4))⟩)

-- tarnfell/water.checkRivers
set_option maxRecDepth 100000 in
set_option maxHeartbeats 3000000 in
theorem water_checkRivers_s (l0 : List S_api_River) (l0_v1a : Option Addr) (l0_v1c : Nat) (D : PH) (l0_h1 : RO encS_api_River D (.slice l0_v1a l0.length l0_v1c) l0) (F : List Assert) (r : Int) (hp : water_checkRivers_p l0 = some r) : ∀ w : World, SInv D (F) w → Calls Tryd.prog 13 #[.slice l0_v1a l0.length l0_v1c] w (fun e w' => e = .returned (.int .i64 r) ∧ SInv D (F) w') := by
  intro w hS
  refine call_intro Tryd.func13 rfl Tryd.ntmps13 (Nat.le_of_ble_eq_true rfl) hS ?_
  clear hS w
  unfold water_checkRivers_p at hp
  refine c_seq ?_
  refine c_quiet ?_
  refine ql_s (.int .i64 0) (by kernel_rfl) ?_
  refine ql_nil ?_
  refine e_then ?_
  refine c_seq ?_
  refine c_seq ?_
  refine c_quiet ?_
  refine ql_s (.slice l0_v1a l0.length l0_v1c) (by kernel_rfl) ?_
  refine ql_s (.int .i64 (l0.length : Int)) (by kernel_rfl) ?_
  refine ql_s (.bool (decide ((l0.length : Int) > 65536))) (by kernel_rfl) ?_
  refine ql_nil ?_
  refine e_then ?_
  refine c_cond (decide ((l0.length : Int) > 65536)) rfl (fun ht1 => ?_) (fun ht1 => ?_)
  · skip
    replace hp := if_t ht1 hp
    refine c_seq ?_
    refine c_quiet ?_
    refine ql_s (.int .i64 4) (by kernel_rfl) ?_
    refine ql_nil ?_
    refine e_then ?_
    refine c_ret ?_
    refine e_then_ret ?_
    obtain rfl := Option.some.inj hp
    exact post_all (vs := [.int .i64 4]) (.int .i64 4) ⟨rfl, trivial⟩ rfl (.inl rfl) (fun w hS => ⟨rfl, hS⟩)
  · skip
    replace hp := if_f ht1 hp
    refine c_skip ?_
    refine e_then ?_
    refine c_seq ?_
    refine c_seq ?_
    refine c_quiet ?_
    refine ql_s (.slice l0_v1a l0.length l0_v1c) (by kernel_rfl) ?_
    refine ql_s (.int .i64 (l0.length : Int)) (by kernel_rfl) ?_
    refine ql_s (.int .i64 0) (by kernel_rfl) ?_
    refine ql_nil ?_
    refine e_then ?_
    have hb0 : (l0.length : Int) ≤ 4611686018427387904 := by have := RO.bound l0_h1; omega
    have hm0 : l0.length = (l0.length : Int).toNat := by omega
    have hm1 := hm0; have hb1 := hb0; clear hm0 hb0
    obtain ⟨x1, hs1, hp⟩ := bnd_some hp
    obtain ⟨body1, hbody1, hs1⟩ := forI_gen hs1
    refine c_cut_end (fun φ1 D1 As1 => ∃ (s1 : Unit), x1 = .go s1 ∧ Is φ1 [] ∧ PH.le D D1 ∧ As1 = F) ?_ ?_
    · skip
      refine c_block ?_
      refine c_loop (fun k φ1 D2 As1 => ∃ (j1 i1 : Nat) (s2 : Unit), k = j1 + 1 ∧ i1 + j1 = l0.length ∧ Is φ1 [(0, .slice l0_v1a l0.length l0_v1c), (9, .slice l0_v1a l0.length l0_v1c), (10, .int .i64 (l0.length : Int)), (11, .int .i64 (i1 : Int))] ∧ PH.le D D2 ∧ As1 = F ∧ forI body1 j1 i1 s2 = some x1) ⟨l0.length + 1, l0.length, 0, (), rfl, Nat.zero_add _, ⟨rfl, rfl, rfl, rfl, trivial⟩, (PH.le_refl _), rfl, hs1⟩ ?_ ?_
      · rintro _ _ _ ⟨_, _, _, h0, _⟩; omega
      intro k1
      rintro φ1 D2 As1 ⟨j1, i1, s2, hk1, hij1, hI1, hD1, hA1, hs2⟩
      subst As1
      replace l0_h1 := l0_h1.mono hD1
      refine c_frame _ hI1 ?_
      obtain rfl : k1 = j1 := by omega
      clear hk1
      rcases k1 with _ | j1
      · skip
        refine c_seq ?_
        refine c_quiet ?_
        refine ql_s (.bool (decide ((i1 : Int) < (l0.length : Int)))) (by kernel_rfl) ?_
        refine ql_nil ?_
        refine e_then ?_
        refine c_seq ?_
        refine c_cond (decide ((i1 : Int) < (l0.length : Int))) rfl (fun ht2 => absurd ((dec_lt_f hm1 (by omega)).symm.trans ht2) (by simp)) (fun _ => ?_)
        refine c_exit ?_
        refine e_then_exit ?_
        refine e_then_exit ?_
        obtain rfl := Option.some.inj hs2
        refine e_blk_exit ?_
        exact e_cut ⟨(), rfl, trivial, hD1, rfl⟩
      · skip
        obtain ⟨y1, hx1, hs2⟩ := forI_some hs2
        replace hx1 := (congrFun (congrFun hbody1 i1) s2).trans hx1
        refine c_seq ?_
        refine c_quiet ?_
        refine ql_s (.bool (decide ((i1 : Int) < (l0.length : Int)))) (by kernel_rfl) ?_
        refine ql_nil ?_
        refine e_then ?_
        refine c_seq ?_
        refine c_cond (decide ((i1 : Int) < (l0.length : Int))) rfl (fun _ => ?_) (fun ht3 => absurd ((dec_lt_t hm1 (by omega)).symm.trans ht3) (by simp))
        refine c_skip ?_
        refine e_then ?_
        refine c_seq ?_
        refine c_block ?_
        refine c_seq ?_
        obtain ⟨x2, hx2, hx1⟩ := bnd_some hx1
        obtain ⟨b1, o1, h1, hq1⟩ := RO.at l0_h1 hx2
        obtain ⟨cs1, hc1, ha1⟩ := h1.cells
        obtain ⟨v1, rfl, h2⟩ := hc1
        obtain ⟨a1, cp1, rfl⟩ := RO.len h2
        refine c_region ?_
        refine l_q rfl (qs_idx hq1 Tryd.underlying22 fit38 rfl rfl) ?_
        refine l_q rfl (qs_ldC fit38 rfl ha1 rfl (.agg #[.slice a1 x2.Points.length cp1, .int .i64 x2.Amount, .int .i64 x2.Order, .int .i64 x2.Into]) rfl) ?_
        refine l_alloc (zs := [.slice none 0 0, .int .i64 0, .int .i64 0, .int .i64 0]) rfl (by kernel_rfl) (fun b3 => ?_)
        refine l_store (dd := none) (vs := [.slice a1 x2.Points.length cp1, .int .i64 x2.Amount, .int .i64 x2.Order, .int .i64 x2.Into]) (cs' := [.slice a1 x2.Points.length cp1, .int .i64 x2.Amount, .int .i64 x2.Order, .int .i64 x2.Into]) rfl (by kernel_rfl) (by kernel_rfl) rfl rfl (Nat.le_of_ble_eq_true rfl) rfl rfl ?_
        refine l_nil ?_
        refine e_then ?_
        refine c_seq ?_
        obtain ⟨r1, hr1, hx1⟩ := bnd_some hx1
        refine c_quiet ?_
        refine ql_q rfl (qs_ldpt (encW 4 (by decide)) fitv38 rfl 0 rfl (.agg #[.slice a1 x2.Points.length cp1, .int .i64 x2.Amount, .int .i64 x2.Order, .int .i64 x2.Into]) (Nat.le_of_ble_eq_true rfl) rfl) ?_
        refine ql_s (.slice l0_v1a l0.length l0_v1c) (by kernel_rfl) ?_
        refine ql_s (.int .i64 (l0.length : Int)) (by kernel_rfl) ?_
        refine ql_call (v := .int .i64 r1) rfl (run_call (vs := [.agg #[.slice a1 x2.Points.length cp1, .int .i64 x2.Amount, .int .i64 x2.Order, .int .i64 x2.Into], .int .i64 (l0.length : Int)]) rfl Tryd.call25 rfl) (fun w hS => (water_checkRiver_s x2 a1 cp1 (l0.length : Int) _ h2 _ _ hr1 w (hS)).mono fun e w' h => ⟨h.1, h.2⟩) ?_
        refine ql_s (.int .i64 r1) (by kernel_rfl) ?_
        refine ql_nil ?_
        refine e_drop ?_
        refine e_then ?_
        refine c_seq ?_
        refine c_quiet ?_
        refine ql_s (.int .i64 r1) (by kernel_rfl) ?_
        refine ql_s (.bool (r1 != 0)) (by kernel_rfl) ?_
        refine ql_nil ?_
        refine e_then ?_
        refine c_cond ((r1 != 0)) rfl (fun ht4 => ?_) (fun ht4 => ?_)
        · skip
          replace hx1 := if_t ht4 hx1
          refine c_seq ?_
          refine c_quiet ?_
          refine ql_s (.int .i64 r1) (by kernel_rfl) ?_
          refine ql_s (.int .i64 r1) (by kernel_rfl) ?_
          refine ql_nil ?_
          refine e_then ?_
          refine c_ret ?_
          refine e_blk_ret ?_
          refine e_then_ret ?_
          refine e_then_ret ?_
          obtain rfl := Option.some.inj hx1
          obtain rfl := hs2
          refine e_blk_ret ?_
          refine e_then_ret ?_
          dsimp only at hp
          refine e_then_ret ?_
          obtain rfl := Option.some.inj hp
          exact post_all (vs := [.int .i64 r1]) (.int .i64 r1) ⟨rfl, trivial⟩ rfl (.inl rfl) (fun w hS => ⟨rfl, (hS.lower hD1)⟩)
        · skip
          replace hx1 := if_f ht4 hx1
          refine c_skip ?_
          refine e_blk ?_
          refine e_then ?_
          refine c_quiet ?_
          refine ql_s (.int .i64 (addI (i1 : Int) 1)) (by kernel_rfl) ?_
          refine ql_s (.int .i64 (addI (i1 : Int) 1)) (by kernel_rfl) ?_
          refine ql_nil ?_
          obtain rfl := Option.some.inj hx1
          exact e_cut ⟨j1, i1 + 1, (), by omega, by omega, ⟨rfl, rfl, rfl, (congrArg (Value.int .i64) (addI_succ (by omega))), trivial⟩, hD1, rfl, hs2⟩
    · skip
      rintro φ2 D1 As2 ⟨s1, rfl, hI2, hD2, hA2⟩
      subst As2
      dsimp only at hp
      refine e_frame _ hI2 ?_
      refine e_then ?_
      refine c_seq ?_
      refine c_quiet ?_
      refine ql_s (.int .i64 0) (by kernel_rfl) ?_
      refine ql_nil ?_
      refine e_then ?_
      refine c_ret ?_
      obtain rfl := Option.some.inj hp
      exact post_all (vs := [.int .i64 0]) (.int .i64 0) ⟨rfl, trivial⟩ rfl (.inl rfl) (fun w hS => ⟨rfl, (hS.lower hD2)⟩)

-- tarnfell/water.ParseRivers
set_option maxRecDepth 100000 in
set_option maxHeartbeats 3000000 in
theorem water_ParseRivers_s (text0 : ByteArray) (D : PH)  (F : List Assert) (r : (List S_api_River) × Int × Int) (hp : water_ParseRivers_p text0 = some r) : ∀ w : World, SInv D (F) w → Calls Tryd.prog 4 #[.string text0] w (fun e w' => ∃ (D1 : PH) (q_a1 : Option Addr) (q_cp1 : Nat), PH.le D D1 ∧ e = .returned (.tuple #[.slice q_a1 r.1.length q_cp1, .int .i64 r.2.1, .int .i64 r.2.2]) ∧ RO encS_api_River D1 (.slice q_a1 r.1.length q_cp1) r.1 ∧ SInv D1 (F) w') := by
  intro w hS
  refine call_intro Tryd.func4 rfl Tryd.ntmps4 (Nat.le_of_ble_eq_true rfl) hS ?_
  clear hS w
  unfold water_ParseRivers_p at hp
  refine c_seq ?_
  refine c_quiet ?_
  refine ql_s (.slice none 0 0) (by kernel_rfl) ?_
  refine ql_s (.int .i64 0) (by kernel_rfl) ?_
  refine ql_s (.int .i64 0) (by kernel_rfl) ?_
  refine ql_nil ?_
  refine e_then ?_
  refine c_seq ?_
  refine c_seq ?_
  refine c_quiet ?_
  refine ql_s (.string text0) (by kernel_rfl) ?_
  refine ql_q rfl (qs_strLen Tryd.underlying9 rfl) ?_
  refine ql_s (.bool (decide ((text0.size : Int) > 4194304))) (by kernel_rfl) ?_
  refine ql_nil ?_
  refine e_then ?_
  refine c_cond (decide ((text0.size : Int) > 4194304)) rfl (fun ht1 => ?_) (fun ht1 => ?_)
  · skip
    replace hp := if_t ht1 hp
    refine c_seq ?_
    refine c_quiet ?_
    refine ql_s (.slice none 0 0) (by kernel_rfl) ?_
    refine ql_s (.int .i64 0) (by kernel_rfl) ?_
    refine ql_s (.int .i64 4) (by kernel_rfl) ?_
    refine ql_nil ?_
    refine e_then ?_
    refine c_ret ?_
    refine e_then_ret ?_
    obtain rfl := Option.some.inj hp
    exact post_all (vs := [.slice none 0 0, .int .i64 0, .int .i64 4]) (.tuple #[.slice none 0 0, .int .i64 0, .int .i64 4]) ⟨rfl, rfl, rfl, trivial⟩ rfl (.inl rfl) (fun w hS => ⟨D, none, 0, (PH.le_refl _), rfl, (RO.nil _ _), hS⟩)
  · skip
    replace hp := if_f ht1 hp
    refine c_skip ?_
    refine e_then ?_
    refine c_seq ?_
    refine c_region ?_
    refine l_s (.slice none 0 0) (by kernel_rfl) ?_
    refine l_nilS D encS_api_River 38 ?_
    refine l_nil ?_
    refine e_then ?_
    refine c_seq ?_
    refine c_seq ?_
    refine c_quiet ?_
    refine ql_s (.int .i64 0) (by kernel_rfl) ?_
    refine ql_nil ?_
    refine e_then ?_
    obtain ⟨x1, hs1, hp⟩ := bnd_some hp
    obtain ⟨body1, hbody1, hs1⟩ := loopP_gen hs1
    refine c_cut_end (fun φ1 D1 As1 => ∃ (s1 : (List S_api_River)) (a1 : Option Addr) (cp1 : Nat), x1 = .go s1 ∧ Is φ1 [(5, .slice a1 s1.length cp1)] ∧ PH.le D D1 ∧ As1 = OwnS D1 encS_api_River 38 (.slice a1 s1.length cp1) s1 :: F) ?_ ?_
    · skip
      refine c_block ?_
      obtain ⟨kz1, hs1⟩ := loopP_ex hs1
      refine c_loop (fun k φ1 D2 As1 => ∃ (s2 : ByteArray × Int × (List S_api_River)) (a2 : Option Addr) (cp2 : Nat), Is φ1 [(0, .string s2.1), (5, .slice a2 s2.2.2.length cp2), (6, .int .i64 s2.2.1)] ∧ PH.le D D2 ∧ As1 = OwnS D2 encS_api_River 38 (.slice a2 s2.2.2.length cp2) s2.2.2 :: F ∧ iter body1 k s2 = some x1) ⟨kz1, (text0, 0, ([] : List S_api_River)), none, 0, ⟨rfl, rfl, rfl, trivial⟩, (PH.le_refl _), rfl, hs1⟩ ?_ ?_
      · rintro _ _ _ ⟨_, _, _, _, _, _, h0⟩; cases h0
      intro k1
      rintro φ1 D2 As1 ⟨s2, a2, cp2, hI1, hD1, hA1, hs2⟩
      subst As1
      refine c_frame _ hI1 ?_
      obtain ⟨y1, hx1, hs2⟩ := iter_some hs2
      replace hx1 := (congrFun hbody1 s2).trans hx1
      refine c_seq ?_
      refine c_seq ?_
      refine c_quiet ?_
      refine ql_s (.string s2.1) (by kernel_rfl) ?_
      refine ql_q rfl (qs_strCmp (op := .neq) (v := !(strEq s2.1 (⟨#[]⟩ : ByteArray))) rfl rfl rfl rfl) ?_
      refine ql_nil ?_
      refine e_then ?_
      refine c_cond (!(strEq s2.1 (⟨#[]⟩ : ByteArray))) rfl (fun ht2 => ?_) (fun ht2 => ?_)
      · skip
        replace hx1 := if_t ht2 hx1
        refine c_skip ?_
        refine e_then ?_
        refine c_seq ?_
        refine c_block ?_
        refine c_seq ?_
        obtain ⟨r1, hr1, hx1⟩ := bnd_some hx1
        refine c_quiet ?_
        refine ql_s (.string s2.1) (by kernel_rfl) ?_
        refine ql_call (v := .tuple #[.string r1.1, .string r1.2.1, .bool r1.2.2]) rfl (run_call (vs := [.string s2.1, .string (⟨#[10]⟩ : ByteArray)]) rfl Tryd.call11 rfl) (fun w hS => (strings_Cut_s s2.1 (⟨#[10]⟩ : ByteArray) _  _ _ hr1 w (hS)).mono fun e w' h => ⟨h.1, h.2⟩) ?_
        refine ql_s (.tuple #[.string r1.1, .string r1.2.1, .bool r1.2.2]) (by kernel_rfl) ?_
        refine ql_s (.string r1.1) (by kernel_rfl) ?_
        refine ql_s (.string r1.2.1) (by kernel_rfl) ?_
        refine ql_s (.bool r1.2.2) (by kernel_rfl) ?_
        refine ql_s (.string r1.1) (by kernel_rfl) ?_
        refine ql_s (.string r1.2.1) (by kernel_rfl) ?_
        refine ql_s (.bool r1.2.2) (by kernel_rfl) ?_
        refine ql_nil ?_
        refine e_then ?_
        refine c_seq ?_
        obtain ⟨r2, hr2, hx1⟩ := bnd_some hx1
        refine c_region ?_
        refine l_s (.string r1.1) (by kernel_rfl) ?_
        refine l_call rfl rfl Tryd.call12 (vs := [.string r1.1]) rfl (fun v D4 As3 => ∃ (a4 : Option Addr) (cp4 : Nat), PH.le D2 D4 ∧ v = .tuple #[.agg #[.slice a4 r2.1.Points.length cp4, .int .i64 r2.1.Amount, .int .i64 r2.1.Order, .int .i64 r2.1.Into], .bool r2.2] ∧ RO encS_api_Point D4 (.slice a4 r2.1.Points.length cp4) r2.1.Points ∧ As3 = OwnS D2 encS_api_River 38 (.slice a2 s2.2.2.length cp2) s2.2.2 :: F) (fun w hS => (water_readRiver_s r1.1 _  _ _ hr2 w (hS)).mono fun e w' ⟨D4, a4, cp4, hle2, he, h2, hS2⟩ => ⟨_, D4, _, he, ⟨a4, cp4, hle2, rfl, h2, rfl⟩, hS2⟩) ?_
        rintro _ D4 As3 ⟨a4, cp4, hle2, rfl, h2, hA3⟩
        subst As3
        refine l_s (.tuple #[.agg #[.slice a4 r2.1.Points.length cp4, .int .i64 r2.1.Amount, .int .i64 r2.1.Order, .int .i64 r2.1.Into], .bool r2.2]) (by kernel_rfl) ?_
        refine l_s (.agg #[.slice a4 r2.1.Points.length cp4, .int .i64 r2.1.Amount, .int .i64 r2.1.Order, .int .i64 r2.1.Into]) (by kernel_rfl) ?_
        refine l_s (.bool r2.2) (by kernel_rfl) ?_
        refine l_alloc (zs := [.slice none 0 0, .int .i64 0, .int .i64 0, .int .i64 0]) rfl (by kernel_rfl) (fun b2 => ?_)
        refine l_store (dd := none) (vs := [.slice a4 r2.1.Points.length cp4, .int .i64 r2.1.Amount, .int .i64 r2.1.Order, .int .i64 r2.1.Into]) (cs' := [.slice a4 r2.1.Points.length cp4, .int .i64 r2.1.Amount, .int .i64 r2.1.Order, .int .i64 r2.1.Into]) rfl (by kernel_rfl) (by kernel_rfl) rfl rfl (Nat.le_of_ble_eq_true rfl) rfl rfl ?_
        refine l_s (.bool r2.2) (by kernel_rfl) ?_
        refine l_nil ?_
        refine e_then ?_
        refine c_seq ?_
        refine c_seq ?_
        refine c_cutq_end [(5, .slice a2 s2.2.2.length cp2), (6, .int .i64 s2.2.1), (8, .string r1.2.1), (10, .pointer (some ⟨b2, 0, none⟩)), (36, .bool ((!r1.2.2) || (!r2.2)))] ?_ ?_
        · skip
          refine c_quiet ?_
          refine ql_s (.bool r1.2.2) (by kernel_rfl) ?_
          refine ql_s (.bool (!r1.2.2)) (by kernel_rfl) ?_
          refine ql_s (.bool (!r1.2.2)) (by kernel_rfl) ?_
          refine ql_case 33 (!r1.2.2) rfl (fun hg1 => ?_) (fun hg1 => ?_)
          · skip
            refine ql_s undef (by kernel_rfl) ?_
            refine ql_s undef (by kernel_rfl) ?_
            refine ql_s (.bool true) (by kernel_rfl) ?_
            refine ql_nil (e_cutq ?_)
            exact ⟨rfl, rfl, rfl, rfl, (congrArg Value.bool (by first | rfl | (rw [hg1]; rfl) | simp [hg1])), trivial⟩
          · skip
            refine ql_s (.bool r2.2) (by kernel_rfl) ?_
            refine ql_s (.bool (!r2.2)) (by kernel_rfl) ?_
            refine ql_s (.bool (!r2.2)) (by kernel_rfl) ?_
            refine ql_nil (e_cutq ?_)
            exact ⟨rfl, rfl, rfl, rfl, (congrArg Value.bool (by first | rfl | (rw [hg1]; rfl) | simp [hg1])), trivial⟩
        intro _
        refine e_then ?_
        refine c_cond (((!r1.2.2) || (!r2.2))) rfl (fun ht3 => ?_) (fun ht3 => ?_)
        · skip
          replace hx1 := if_t ht3 hx1
          refine c_seq ?_
          refine c_quiet ?_
          refine ql_s (.int .i64 s2.2.1) (by kernel_rfl) ?_
          refine ql_s (.slice none 0 0) (by kernel_rfl) ?_
          refine ql_s (.int .i64 s2.2.1) (by kernel_rfl) ?_
          refine ql_s (.int .i64 9) (by kernel_rfl) ?_
          refine ql_nil ?_
          refine e_drop ?_
          refine e_drop ?_
          refine e_then ?_
          refine c_ret ?_
          refine e_then_ret ?_
          refine e_blk_ret ?_
          refine e_then_ret ?_
          refine e_then_ret ?_
          obtain rfl := Option.some.inj hx1
          obtain rfl := hs2
          refine e_blk_ret ?_
          refine e_then_ret ?_
          dsimp only at hp
          refine e_then_ret ?_
          obtain rfl := Option.some.inj hp
          exact post_all (vs := [.slice none 0 0, .int .i64 s2.2.1, .int .i64 9]) (.tuple #[.slice none 0 0, .int .i64 s2.2.1, .int .i64 9]) ⟨rfl, rfl, rfl, trivial⟩ rfl (.inl rfl) (fun w hS => ⟨D4, none, 0, (PH.le_trans hD1 hle2), rfl, (RO.nil _ _), hS⟩)
        · skip
          replace hx1 := if_f ht3 hx1
          refine c_skip ?_
          refine e_then ?_
          obtain ⟨l1, hl1, hx1⟩ := bnd_some hx1
          refine c_region ?_
          refine l_s (.slice a2 s2.2.2.length cp2) (by kernel_rfl) ?_
          refine l_q rfl (qs_ldpt (encW 4 (by decide)) fitv38 rfl 0 rfl (.agg #[.slice a4 r2.1.Points.length cp4, .int .i64 r2.1.Amount, .int .i64 r2.1.Order, .int .i64 r2.1.Into]) (Nat.le_of_ble_eq_true rfl) rfl) ?_
          refine l_bslS (cs := [.slice a4 r2.1.Points.length cp4, .int .i64 r2.1.Amount, .int .i64 r2.1.Order, .int .i64 r2.1.Into]) (E := 38) (e := encS_api_River) ([r2.1] : List S_api_River) rfl (by kernel_rfl) rfl rfl (Nat.le_of_ble_eq_true rfl) ⟨⟨_, rfl, h2⟩, trivial⟩ (fun b4 cp7 => ?_)
          refine l_perm (fr1_perm 2 _) ?_
          refine l_imp (OwnS.mono hle2) ?_
          refine l_app hl1 rfl elem22 Tryd.underlying22 rfl rfl rfl (OwnS.src 1 rfl ⟨_, _, rfl⟩) (fun a6 cp8 => ?_)
          refine l_s (.string r1.2.1) (by kernel_rfl) ?_
          refine l_s (.slice a6 l1.length cp8) (by kernel_rfl) ?_
          refine l_s (.string r1.2.1) (by kernel_rfl) ?_
          refine l_nil ?_
          refine e_perm (fr1_perm 1 _) ?_
          refine e_drop ?_
          refine e_perm (fr1_perm 1 _) ?_
          refine e_drop ?_
          refine e_blk ?_
          refine e_then ?_
          refine c_quiet ?_
          refine ql_s (.int .i64 s2.2.1) (by kernel_rfl) ?_
          refine ql_s (.int .i64 (addI s2.2.1 1)) (by kernel_rfl) ?_
          refine ql_s (.int .i64 (addI s2.2.1 1)) (by kernel_rfl) ?_
          refine ql_nil ?_
          obtain rfl := Option.some.inj hx1
          exact e_cut ⟨(r1.2.1, addI s2.2.1 1, l1), a6, cp8, ⟨rfl, rfl, rfl, trivial⟩, (PH.le_trans hD1 hle2), rfl, hs2⟩
      · skip
        replace hx1 := if_f ht2 hx1
        refine c_exit ?_
        refine e_then_exit ?_
        refine e_then_exit ?_
        obtain rfl := Option.some.inj hx1
        obtain rfl := hs2
        refine e_blk_exit ?_
        exact e_cut ⟨s2.2.2, a2, cp2, rfl, ⟨rfl, trivial⟩, hD1, rfl⟩
    · skip
      rintro φ2 D1 As4 ⟨s1, a1, cp1, rfl, hI2, hD2, hA4⟩
      subst As4
      dsimp only at hp
      refine e_frame _ hI2 ?_
      refine e_then ?_
      refine c_seq ?_
      refine c_seq ?_
      obtain ⟨r3, hr3, hp⟩ := bnd_some hp
      refine c_quiet ?_
      refine ql_s (.slice a1 s1.length cp1) (by kernel_rfl) ?_
      refine ql_call (v := .int .i64 r3) rfl (run_call (vs := [.slice a1 s1.length cp1]) rfl Tryd.call13 rfl) (fun w hS => (calls_thaw (PH.le_refl _) (hS) (fun D0' hLl0 hLr0 hS => (water_checkRivers_s s1 a1 cp1 _ hLr0 _ _ hr3 w (hS)).mono fun e w' h => ⟨h.1, h.2⟩)).mono fun e w' h => ⟨h.1, h.2⟩) ?_
      refine ql_s (.int .i64 r3) (by kernel_rfl) ?_
      refine ql_nil ?_
      refine e_then ?_
      refine c_seq ?_
      refine c_quiet ?_
      refine ql_s (.int .i64 r3) (by kernel_rfl) ?_
      refine ql_s (.bool (r3 != 0)) (by kernel_rfl) ?_
      refine ql_nil ?_
      refine e_then ?_
      refine c_cond ((r3 != 0)) rfl (fun ht4 => ?_) (fun ht4 => ?_)
      · skip
        replace hp := if_t ht4 hp
        refine c_seq ?_
        refine c_quiet ?_
        refine ql_s (.int .i64 r3) (by kernel_rfl) ?_
        refine ql_s (.slice none 0 0) (by kernel_rfl) ?_
        refine ql_s (.int .i64 0) (by kernel_rfl) ?_
        refine ql_s (.int .i64 r3) (by kernel_rfl) ?_
        refine ql_nil ?_
        refine e_drop ?_
        refine e_then ?_
        refine c_ret ?_
        refine e_then_ret ?_
        obtain rfl := Option.some.inj hp
        exact post_all (vs := [.slice none 0 0, .int .i64 0, .int .i64 r3]) (.tuple #[.slice none 0 0, .int .i64 0, .int .i64 r3]) ⟨rfl, rfl, rfl, trivial⟩ rfl (.inl rfl) (fun w hS => ⟨D1, none, 0, hD2, rfl, (RO.nil _ _), hS⟩)
      · skip
        replace hp := if_f ht4 hp
        refine c_skip ?_
        refine e_then ?_
        refine c_seq ?_
        refine c_quiet ?_
        refine ql_s (.slice a1 s1.length cp1) (by kernel_rfl) ?_
        refine ql_s (.slice a1 s1.length cp1) (by kernel_rfl) ?_
        refine ql_s (.int .i64 0) (by kernel_rfl) ?_
        refine ql_s (.int .i64 0) (by kernel_rfl) ?_
        refine ql_nil ?_
        refine e_then ?_
        refine c_ret ?_
        refine e_layS (PH.le_refl _) (fun D5 hle3 h3 => ?_)
        obtain rfl := Option.some.inj hp
        exact post_all (vs := [.slice a1 s1.length cp1, .int .i64 0, .int .i64 0]) (.tuple #[.slice a1 s1.length cp1, .int .i64 0, .int .i64 0]) ⟨rfl, rfl, rfl, trivial⟩ rfl (.inl rfl) (fun w hS => ⟨D5, a1, cp1, (PH.le_trans hD2 hle3), rfl, h3, hS⟩)

-- tarnfell/field.side
set_option maxRecDepth 100000 in
set_option maxHeartbeats 3000000 in
theorem field_side_s (n0 : Int) (D : PH)  (F : List Assert) (r : Bool) (hp : field_side_p n0 = some r) : ∀ w : World, SInv D (F) w → Calls Tryd.prog 57 #[.int .i64 n0] w (fun e w' => e = .returned (.bool r) ∧ SInv D (F) w') := by
  intro w hS
  refine call_intro Tryd.func57 rfl Tryd.ntmps57 (Nat.le_of_ble_eq_true rfl) hS ?_
  clear hS w
  unfold field_side_p at hp
  refine c_seq ?_
  refine c_quiet ?_
  refine ql_s (.bool false) (by kernel_rfl) ?_
  refine ql_nil ?_
  refine e_then ?_
  refine c_seq ?_
  refine c_cutq_end [(2, .bool ((decide (n0 ≥ 1)) && (decide (n0 ≤ 512))))] ?_ ?_
  · skip
    refine c_quiet ?_
    refine ql_s (.int .i64 n0) (by kernel_rfl) ?_
    refine ql_s (.bool (decide (n0 ≥ 1))) (by kernel_rfl) ?_
    refine ql_s (.bool (decide (n0 ≥ 1))) (by kernel_rfl) ?_
    refine ql_case 5 (decide (n0 ≥ 1)) rfl (fun hg1 => ?_) (fun hg1 => ?_)
    · skip
      refine ql_s (.int .i64 n0) (by kernel_rfl) ?_
      refine ql_s (.bool (decide (n0 ≤ 512))) (by kernel_rfl) ?_
      refine ql_s (.bool (decide (n0 ≤ 512))) (by kernel_rfl) ?_
      refine ql_s (.bool (decide (n0 ≤ 512))) (by kernel_rfl) ?_
      refine ql_nil (e_cutq ?_)
      exact ⟨(congrArg Value.bool (by first | rfl | (rw [hg1]; rfl) | simp [hg1])), trivial⟩
    · skip
      refine ql_s undef (by kernel_rfl) ?_
      refine ql_s undef (by kernel_rfl) ?_
      refine ql_s (.bool false) (by kernel_rfl) ?_
      refine ql_s (.bool false) (by kernel_rfl) ?_
      refine ql_nil (e_cutq ?_)
      exact ⟨(congrArg Value.bool (by first | rfl | (rw [hg1]; rfl) | simp [hg1])), trivial⟩
  intro _
  refine e_then ?_
  refine c_ret ?_
  obtain rfl := Option.some.inj hp
  exact post_all (vs := [.bool ((decide (n0 ≥ 1)) && (decide (n0 ≤ 512)))]) (.bool ((decide (n0 ≥ 1)) && (decide (n0 ≤ 512)))) ⟨rfl, trivial⟩ rfl (.inl rfl) (fun w hS => ⟨rfl, hS⟩)

-- tarnfell/field.CheckRegion
set_option maxRecDepth 100000 in
set_option maxHeartbeats 3000000 in
theorem field_CheckRegion_s (r0 : S_api_Region) (D : PH)  (F : List Assert) (r : Int) (hp : field_CheckRegion_p r0 = some r) : ∀ w : World, SInv D (F) w → Calls Tryd.prog 39 #[.agg #[.int .i64 r0.X, .int .i64 r0.Y, .int .i64 r0.W, .int .i64 r0.H]] w (fun e w' => e = .returned (.int .i64 r) ∧ SInv D (F) w') := by
  intro w hS
  refine call_intro Tryd.func39 rfl Tryd.ntmps39 (Nat.le_of_ble_eq_true rfl) hS ?_
  clear hS w
  unfold field_CheckRegion_p at hp
  refine c_seq ?_
  refine c_region ?_
  refine l_box (cs := [.int .i64 r0.X, .int .i64 r0.Y, .int .i64 r0.W, .int .i64 r0.H]) rfl rfl (fun b2 => ?_)
  refine l_s (.int .i64 0) (by kernel_rfl) ?_
  refine l_nil ?_
  refine e_then ?_
  refine c_seq ?_
  refine c_block ?_
  refine c_seq ?_
  obtain ⟨c1, hc1, hp⟩ := bnd_some hp
  refine c_cutq_end [(1, .pointer (some ⟨b2, 0, none⟩)), (3, .bool c1)] ?_ ?_
  · skip
    refine c_quiet ?_
    refine ql_s (.pointer (some ⟨b2, 2, none⟩)) (by kernel_rfl) ?_
    refine ql_q rfl (qs_ldpt encV fitv3 rfl 0 rfl (.int .i64 r0.W) (Nat.le_of_ble_eq_true rfl) rfl) ?_
    obtain ⟨r1, hr1, hc1⟩ := bnd_some hc1
    refine ql_call (v := .bool r1) rfl (run_call (vs := [.int .i64 r0.W]) rfl Tryd.call57 rfl) (fun w hS => (field_side_s r0.W _  _ _ hr1 w (hS)).mono fun e w' h => ⟨h.1, h.2⟩) ?_
    refine ql_s (.bool (!r1)) (by kernel_rfl) ?_
    refine ql_s (.bool (!r1)) (by kernel_rfl) ?_
    refine ql_case 8 (!r1) rfl (fun hg1 => ?_) (fun hg1 => ?_)
    · skip
      replace hc1 := if_t hg1 hc1
      refine ql_s undef (by kernel_rfl) ?_
      refine ql_s undef (by kernel_rfl) ?_
      refine ql_s undef (by kernel_rfl) ?_
      refine ql_s undef (by kernel_rfl) ?_
      refine ql_s (.bool true) (by kernel_rfl) ?_
      refine ql_s (.bool true) (by kernel_rfl) ?_
      refine ql_nil (e_cutq ?_)
      obtain rfl := Option.some.inj hc1
      exact ⟨rfl, rfl, trivial⟩
    · skip
      replace hc1 := if_f hg1 hc1
      refine ql_s (.pointer (some ⟨b2, 3, none⟩)) (by kernel_rfl) ?_
      refine ql_q rfl (qs_ldpt encV fitv3 rfl 0 rfl (.int .i64 r0.H) (Nat.le_of_ble_eq_true rfl) rfl) ?_
      obtain ⟨r2, hr2, hc1⟩ := bnd_some hc1
      refine ql_call (v := .bool r2) rfl (run_call (vs := [.int .i64 r0.H]) rfl Tryd.call57 rfl) (fun w hS => (field_side_s r0.H _  _ _ hr2 w (hS)).mono fun e w' h => ⟨h.1, h.2⟩) ?_
      refine ql_s (.bool (!r2)) (by kernel_rfl) ?_
      refine ql_s (.bool (!r2)) (by kernel_rfl) ?_
      refine ql_s (.bool (!r2)) (by kernel_rfl) ?_
      refine ql_nil (e_cutq ?_)
      obtain rfl := Option.some.inj hc1
      exact ⟨rfl, rfl, trivial⟩
  intro _
  refine e_then ?_
  refine c_cond (c1) rfl (fun ht1 => ?_) (fun ht1 => ?_)
  · skip
    replace hp := if_t ht1 hp
    refine c_seq ?_
    refine c_quiet ?_
    refine ql_s (.int .i64 3) (by kernel_rfl) ?_
    refine ql_nil ?_
    refine e_drop ?_
    refine e_then ?_
    refine c_ret ?_
    refine e_blk_ret ?_
    refine e_then_ret ?_
    obtain rfl := Option.some.inj hp
    exact post_all (vs := [.int .i64 3]) (.int .i64 3) ⟨rfl, trivial⟩ rfl (.inl rfl) (fun w hS => ⟨rfl, hS⟩)
  · skip
    replace hp := if_f ht1 hp
    refine c_seq ?_
    refine c_quiet ?_
    refine ql_s (.pointer (some ⟨b2, 2, none⟩)) (by kernel_rfl) ?_
    refine ql_q rfl (qs_ldpt encV fitv3 rfl 0 rfl (.int .i64 r0.W) (Nat.le_of_ble_eq_true rfl) rfl) ?_
    refine ql_s (.pointer (some ⟨b2, 3, none⟩)) (by kernel_rfl) ?_
    refine ql_q rfl (qs_ldpt encV fitv3 rfl 0 rfl (.int .i64 r0.H) (Nat.le_of_ble_eq_true rfl) rfl) ?_
    refine ql_s (.int .i64 (mulI r0.W r0.H)) (by kernel_rfl) ?_
    refine ql_s (.bool (decide ((mulI r0.W r0.H) > 65536))) (by kernel_rfl) ?_
    refine ql_s (.bool (decide ((mulI r0.W r0.H) > 65536))) (by kernel_rfl) ?_
    refine ql_nil ?_
    refine e_then ?_
    refine c_cond (decide ((mulI r0.W r0.H) > 65536)) rfl (fun ht2 => ?_) (fun ht2 => ?_)
    · skip
      replace hp := if_t ht2 hp
      refine c_seq ?_
      refine c_quiet ?_
      refine ql_s (.int .i64 4) (by kernel_rfl) ?_
      refine ql_nil ?_
      refine e_drop ?_
      refine e_then ?_
      refine c_ret ?_
      refine e_blk_ret ?_
      refine e_then_ret ?_
      obtain rfl := Option.some.inj hp
      exact post_all (vs := [.int .i64 4]) (.int .i64 4) ⟨rfl, trivial⟩ rfl (.inl rfl) (fun w hS => ⟨rfl, hS⟩)
    · skip
      replace hp := if_f ht2 hp
      refine c_seq ?_
      refine c_cutq_end [(21, .bool ((decide (r0.X < (-4194304))) || ((decide (r0.Y < (-4194304))) || ((decide (r0.X > (subI 4194304 r0.W))) || (decide (r0.Y > (subI 4194304 r0.H)))))))] ?_ ?_
      · skip
        refine c_quiet ?_
        refine ql_s (.pointer (some ⟨b2, 0, none⟩)) (by kernel_rfl) ?_
        refine ql_q rfl (qs_ldpt encV fitv3 rfl 0 rfl (.int .i64 r0.X) (Nat.le_of_ble_eq_true rfl) rfl) ?_
        refine ql_s (.bool (decide (r0.X < (-4194304)))) (by kernel_rfl) ?_
        refine ql_s (.bool (decide (r0.X < (-4194304)))) (by kernel_rfl) ?_
        refine ql_case 25 (decide (r0.X < (-4194304))) rfl (fun hg2 => ?_) (fun hg2 => ?_)
        · skip
          refine ql_s undef (by kernel_rfl) ?_
          refine ql_s undef (by kernel_rfl) ?_
          refine ql_s undef (by kernel_rfl) ?_
          refine ql_s (.bool true) (by kernel_rfl) ?_
          refine ql_s (.bool true) (by kernel_rfl) ?_
          refine ql_s undef (by kernel_rfl) ?_
          refine ql_s undef (by kernel_rfl) ?_
          refine ql_s undef (by kernel_rfl) ?_
          refine ql_s undef (by kernel_rfl) ?_
          refine ql_s undef (by kernel_rfl) ?_
          refine ql_s undef (by kernel_rfl) ?_
          refine ql_s (.bool true) (by kernel_rfl) ?_
          refine ql_s (.bool true) (by kernel_rfl) ?_
          refine ql_s undef (by kernel_rfl) ?_
          refine ql_s undef (by kernel_rfl) ?_
          refine ql_s undef (by kernel_rfl) ?_
          refine ql_s undef (by kernel_rfl) ?_
          refine ql_s undef (by kernel_rfl) ?_
          refine ql_s undef (by kernel_rfl) ?_
          refine ql_s (.bool true) (by kernel_rfl) ?_
          refine ql_s (.bool true) (by kernel_rfl) ?_
          refine ql_nil (e_cutq ?_)
          exact ⟨(congrArg Value.bool (by first | rfl | (rw [hg2]; rfl) | simp [hg2])), trivial⟩
        · skip
          refine ql_s (.pointer (some ⟨b2, 1, none⟩)) (by kernel_rfl) ?_
          refine ql_q rfl (qs_ldpt encV fitv3 rfl 0 rfl (.int .i64 r0.Y) (Nat.le_of_ble_eq_true rfl) rfl) ?_
          refine ql_s (.bool (decide (r0.Y < (-4194304)))) (by kernel_rfl) ?_
          refine ql_s (.bool (decide (r0.Y < (-4194304)))) (by kernel_rfl) ?_
          refine ql_s (.bool (decide (r0.Y < (-4194304)))) (by kernel_rfl) ?_
          refine ql_case 30 (decide (r0.Y < (-4194304))) rfl (fun hg3 => ?_) (fun hg3 => ?_)
          · skip
            refine ql_s undef (by kernel_rfl) ?_
            refine ql_s undef (by kernel_rfl) ?_
            refine ql_s undef (by kernel_rfl) ?_
            refine ql_s undef (by kernel_rfl) ?_
            refine ql_s undef (by kernel_rfl) ?_
            refine ql_s undef (by kernel_rfl) ?_
            refine ql_s (.bool true) (by kernel_rfl) ?_
            refine ql_s (.bool true) (by kernel_rfl) ?_
            refine ql_s undef (by kernel_rfl) ?_
            refine ql_s undef (by kernel_rfl) ?_
            refine ql_s undef (by kernel_rfl) ?_
            refine ql_s undef (by kernel_rfl) ?_
            refine ql_s undef (by kernel_rfl) ?_
            refine ql_s undef (by kernel_rfl) ?_
            refine ql_s (.bool true) (by kernel_rfl) ?_
            refine ql_s (.bool true) (by kernel_rfl) ?_
            refine ql_nil (e_cutq ?_)
            exact ⟨(congrArg Value.bool (by first | rfl | (rw [hg2, hg3]; rfl) | simp [hg2, hg3])), trivial⟩
          · skip
            refine ql_s (.pointer (some ⟨b2, 0, none⟩)) (by kernel_rfl) ?_
            refine ql_q rfl (qs_ldpt encV fitv3 rfl 0 rfl (.int .i64 r0.X) (Nat.le_of_ble_eq_true rfl) rfl) ?_
            refine ql_s (.pointer (some ⟨b2, 2, none⟩)) (by kernel_rfl) ?_
            refine ql_q rfl (qs_ldpt encV fitv3 rfl 0 rfl (.int .i64 r0.W) (Nat.le_of_ble_eq_true rfl) rfl) ?_
            refine ql_s (.int .i64 (subI 4194304 r0.W)) (by kernel_rfl) ?_
            refine ql_s (.bool (decide (r0.X > (subI 4194304 r0.W)))) (by kernel_rfl) ?_
            refine ql_s (.bool (decide (r0.X > (subI 4194304 r0.W)))) (by kernel_rfl) ?_
            refine ql_s (.bool (decide (r0.X > (subI 4194304 r0.W)))) (by kernel_rfl) ?_
            refine ql_case 38 (decide (r0.X > (subI 4194304 r0.W))) rfl (fun hg4 => ?_) (fun hg4 => ?_)
            · skip
              refine ql_s undef (by kernel_rfl) ?_
              refine ql_s undef (by kernel_rfl) ?_
              refine ql_s undef (by kernel_rfl) ?_
              refine ql_s undef (by kernel_rfl) ?_
              refine ql_s undef (by kernel_rfl) ?_
              refine ql_s undef (by kernel_rfl) ?_
              refine ql_s (.bool true) (by kernel_rfl) ?_
              refine ql_s (.bool true) (by kernel_rfl) ?_
              refine ql_nil (e_cutq ?_)
              exact ⟨(congrArg Value.bool (by first | rfl | (rw [hg2, hg3, hg4]; rfl) | simp [hg2, hg3, hg4])), trivial⟩
            · skip
              refine ql_s (.pointer (some ⟨b2, 1, none⟩)) (by kernel_rfl) ?_
              refine ql_q rfl (qs_ldpt encV fitv3 rfl 0 rfl (.int .i64 r0.Y) (Nat.le_of_ble_eq_true rfl) rfl) ?_
              refine ql_s (.pointer (some ⟨b2, 3, none⟩)) (by kernel_rfl) ?_
              refine ql_q rfl (qs_ldpt encV fitv3 rfl 0 rfl (.int .i64 r0.H) (Nat.le_of_ble_eq_true rfl) rfl) ?_
              refine ql_s (.int .i64 (subI 4194304 r0.H)) (by kernel_rfl) ?_
              refine ql_s (.bool (decide (r0.Y > (subI 4194304 r0.H)))) (by kernel_rfl) ?_
              refine ql_s (.bool (decide (r0.Y > (subI 4194304 r0.H)))) (by kernel_rfl) ?_
              refine ql_s (.bool (decide (r0.Y > (subI 4194304 r0.H)))) (by kernel_rfl) ?_
              refine ql_nil (e_cutq ?_)
              exact ⟨(congrArg Value.bool (by first | rfl | (rw [hg2, hg3, hg4]; rfl) | simp [hg2, hg3, hg4])), trivial⟩
      intro _
      refine e_then ?_
      refine c_cond (((decide (r0.X < (-4194304))) || ((decide (r0.Y < (-4194304))) || ((decide (r0.X > (subI 4194304 r0.W))) || (decide (r0.Y > (subI 4194304 r0.H))))))) rfl (fun ht3 => ?_) (fun ht3 => ?_)
      · skip
        replace hp := if_t ht3 hp
        refine c_seq ?_
        refine c_quiet ?_
        refine ql_s (.int .i64 5) (by kernel_rfl) ?_
        refine ql_nil ?_
        refine e_drop ?_
        refine e_then ?_
        refine c_ret ?_
        refine e_blk_ret ?_
        refine e_then_ret ?_
        obtain rfl := Option.some.inj hp
        exact post_all (vs := [.int .i64 5]) (.int .i64 5) ⟨rfl, trivial⟩ rfl (.inl rfl) (fun w hS => ⟨rfl, hS⟩)
      · skip
        replace hp := if_f ht3 hp
        refine c_skip ?_
        refine e_blk ?_
        refine e_then ?_
        refine c_seq ?_
        refine c_quiet ?_
        refine ql_s (.int .i64 0) (by kernel_rfl) ?_
        refine ql_nil ?_
        refine e_drop ?_
        refine e_then ?_
        refine c_ret ?_
        obtain rfl := Option.some.inj hp
        exact post_all (vs := [.int .i64 0]) (.int .i64 0) ⟨rfl, trivial⟩ rfl (.inl rfl) (fun w hS => ⟨rfl, hS⟩)

-- tarnfell/field.finite
set_option maxRecDepth 100000 in
set_option maxHeartbeats 3000000 in
theorem field_finite_s (v0 : Nat) (D : PH)  (F : List Assert) (r : Bool) (hp : field_finite_p v0 = some r) : ∀ w : World, SInv D (F) w → Calls Tryd.prog 40 #[.float .f32 v0] w (fun e w' => e = .returned (.bool r) ∧ SInv D (F) w') := by
  intro w hS
  refine call_intro Tryd.func40 rfl Tryd.ntmps40 (Nat.le_of_ble_eq_true rfl) hS ?_
  clear hS w
  unfold field_finite_p at hp
  refine c_seq ?_
  refine c_quiet ?_
  refine ql_s (.bool false) (by kernel_rfl) ?_
  refine ql_nil ?_
  refine e_then ?_
  refine c_seq ?_
  refine c_cutq_end [(2, .bool ((fge .f32 v0 4286578687) && (fle .f32 v0 2139095039)))] ?_ ?_
  · skip
    refine c_quiet ?_
    refine ql_s (.float .f32 v0) (by kernel_rfl) ?_
    refine ql_s (.bool (fge .f32 v0 4286578687)) (by kernel_rfl) ?_
    refine ql_s (.bool (fge .f32 v0 4286578687)) (by kernel_rfl) ?_
    refine ql_case 5 (fge .f32 v0 4286578687) rfl (fun hg1 => ?_) (fun hg1 => ?_)
    · skip
      refine ql_s (.float .f32 v0) (by kernel_rfl) ?_
      refine ql_s (.bool (fle .f32 v0 2139095039)) (by kernel_rfl) ?_
      refine ql_s (.bool (fle .f32 v0 2139095039)) (by kernel_rfl) ?_
      refine ql_s (.bool (fle .f32 v0 2139095039)) (by kernel_rfl) ?_
      refine ql_nil (e_cutq ?_)
      exact ⟨(congrArg Value.bool (by first | rfl | (rw [hg1]; rfl) | simp [hg1])), trivial⟩
    · skip
      refine ql_s undef (by kernel_rfl) ?_
      refine ql_s undef (by kernel_rfl) ?_
      refine ql_s (.bool false) (by kernel_rfl) ?_
      refine ql_s (.bool false) (by kernel_rfl) ?_
      refine ql_nil (e_cutq ?_)
      exact ⟨(congrArg Value.bool (by first | rfl | (rw [hg1]; rfl) | simp [hg1])), trivial⟩
  intro _
  refine e_then ?_
  refine c_ret ?_
  obtain rfl := Option.some.inj hp
  exact post_all (vs := [.bool ((fge .f32 v0 4286578687) && (fle .f32 v0 2139095039))]) (.bool ((fge .f32 v0 4286578687) && (fle .f32 v0 2139095039))) ⟨rfl, trivial⟩ rfl (.inl rfl) (fun w hS => ⟨rfl, hS⟩)

-- tarnfell/field.height
set_option maxRecDepth 100000 in
set_option maxHeartbeats 3000000 in
theorem field_height_s (v0 : Nat) (D : PH)  (F : List Assert) (r : Bool) (hp : field_height_p v0 = some r) : ∀ w : World, SInv D (F) w → Calls Tryd.prog 41 #[.float .f32 v0] w (fun e w' => e = .returned (.bool r) ∧ SInv D (F) w') := by
  intro w hS
  refine call_intro Tryd.func41 rfl Tryd.ntmps41 (Nat.le_of_ble_eq_true rfl) hS ?_
  clear hS w
  unfold field_height_p at hp
  refine c_seq ?_
  refine c_quiet ?_
  refine ql_s (.bool false) (by kernel_rfl) ?_
  refine ql_nil ?_
  refine e_then ?_
  refine c_seq ?_
  refine c_cutq_end [(2, .bool ((fge .f32 v0 3380609024) && (fle .f32 v0 1233125376)))] ?_ ?_
  · skip
    refine c_quiet ?_
    refine ql_s (.float .f32 v0) (by kernel_rfl) ?_
    refine ql_s (.bool (fge .f32 v0 3380609024)) (by kernel_rfl) ?_
    refine ql_s (.bool (fge .f32 v0 3380609024)) (by kernel_rfl) ?_
    refine ql_case 5 (fge .f32 v0 3380609024) rfl (fun hg1 => ?_) (fun hg1 => ?_)
    · skip
      refine ql_s (.float .f32 v0) (by kernel_rfl) ?_
      refine ql_s (.bool (fle .f32 v0 1233125376)) (by kernel_rfl) ?_
      refine ql_s (.bool (fle .f32 v0 1233125376)) (by kernel_rfl) ?_
      refine ql_s (.bool (fle .f32 v0 1233125376)) (by kernel_rfl) ?_
      refine ql_nil (e_cutq ?_)
      exact ⟨(congrArg Value.bool (by first | rfl | (rw [hg1]; rfl) | simp [hg1])), trivial⟩
    · skip
      refine ql_s undef (by kernel_rfl) ?_
      refine ql_s undef (by kernel_rfl) ?_
      refine ql_s (.bool false) (by kernel_rfl) ?_
      refine ql_s (.bool false) (by kernel_rfl) ?_
      refine ql_nil (e_cutq ?_)
      exact ⟨(congrArg Value.bool (by first | rfl | (rw [hg1]; rfl) | simp [hg1])), trivial⟩
  intro _
  refine e_then ?_
  refine c_ret ?_
  obtain rfl := Option.some.inj hp
  exact post_all (vs := [.bool ((fge .f32 v0 3380609024) && (fle .f32 v0 1233125376))]) (.bool ((fge .f32 v0 3380609024) && (fle .f32 v0 1233125376))) ⟨rfl, trivial⟩ rfl (.inl rfl) (fun w hS => ⟨rfl, hS⟩)

-- tarnfell/field.Heights
set_option maxRecDepth 100000 in
set_option maxHeartbeats 3000000 in
theorem field_Heights_s (l0 : List Nat) (l0_v1a : Option Addr) (l0_v1c : Nat) (D : PH) (l0_h1 : RO (encF .f32) D (.slice l0_v1a l0.length l0_v1c) l0) (F : List Assert) (r : Int) (hp : field_Heights_p l0 = some r) : ∀ w : World, SInv D (F) w → Calls Tryd.prog 27 #[.slice l0_v1a l0.length l0_v1c] w (fun e w' => e = .returned (.int .i64 r) ∧ SInv D (F) w') := by
  intro w hS
  refine call_intro Tryd.func27 rfl Tryd.ntmps27 (Nat.le_of_ble_eq_true rfl) hS ?_
  clear hS w
  unfold field_Heights_p at hp
  refine c_seq ?_
  refine c_quiet ?_
  refine ql_s (.int .i64 0) (by kernel_rfl) ?_
  refine ql_nil ?_
  refine e_then ?_
  refine c_seq ?_
  refine c_seq ?_
  refine c_quiet ?_
  refine ql_s (.slice l0_v1a l0.length l0_v1c) (by kernel_rfl) ?_
  refine ql_s (.int .i64 (l0.length : Int)) (by kernel_rfl) ?_
  refine ql_s (.int .i64 0) (by kernel_rfl) ?_
  refine ql_nil ?_
  refine e_then ?_
  have hb0 : (l0.length : Int) ≤ 4611686018427387904 := by have := RO.bound l0_h1; omega
  have hm0 : l0.length = (l0.length : Int).toNat := by omega
  have hm1 := hm0; have hb1 := hb0; clear hm0 hb0
  obtain ⟨x1, hs1, hp⟩ := bnd_some hp
  obtain ⟨body1, hbody1, hs1⟩ := forI_gen hs1
  refine c_cut_end (fun φ1 D1 As1 => ∃ (s1 : Unit), x1 = .go s1 ∧ Is φ1 [(0, .slice l0_v1a l0.length l0_v1c)] ∧ PH.le D D1 ∧ As1 = F) ?_ ?_
  · skip
    refine c_block ?_
    refine c_loop (fun k φ1 D2 As1 => ∃ (j1 i1 : Nat) (s2 : Unit), k = j1 + 1 ∧ i1 + j1 = l0.length ∧ Is φ1 [(0, .slice l0_v1a l0.length l0_v1c), (7, .slice l0_v1a l0.length l0_v1c), (8, .int .i64 (l0.length : Int)), (9, .int .i64 (i1 : Int))] ∧ PH.le D D2 ∧ As1 = F ∧ forI body1 j1 i1 s2 = some x1) ⟨l0.length + 1, l0.length, 0, (), rfl, Nat.zero_add _, ⟨rfl, rfl, rfl, rfl, trivial⟩, (PH.le_refl _), rfl, hs1⟩ ?_ ?_
    · rintro _ _ _ ⟨_, _, _, h0, _⟩; omega
    intro k1
    rintro φ1 D2 As1 ⟨j1, i1, s2, hk1, hij1, hI1, hD1, hA1, hs2⟩
    subst As1
    replace l0_h1 := l0_h1.mono hD1
    refine c_frame _ hI1 ?_
    obtain rfl : k1 = j1 := by omega
    clear hk1
    rcases k1 with _ | j1
    · skip
      refine c_seq ?_
      refine c_quiet ?_
      refine ql_s (.bool (decide ((i1 : Int) < (l0.length : Int)))) (by kernel_rfl) ?_
      refine ql_nil ?_
      refine e_then ?_
      refine c_seq ?_
      refine c_cond (decide ((i1 : Int) < (l0.length : Int))) rfl (fun ht1 => absurd ((dec_lt_f hm1 (by omega)).symm.trans ht1) (by simp)) (fun _ => ?_)
      refine c_exit ?_
      refine e_then_exit ?_
      refine e_then_exit ?_
      obtain rfl := Option.some.inj hs2
      refine e_blk_exit ?_
      exact e_cut ⟨(), rfl, ⟨rfl, trivial⟩, hD1, rfl⟩
    · skip
      obtain ⟨y1, hx1, hs2⟩ := forI_some hs2
      replace hx1 := (congrFun (congrFun hbody1 i1) s2).trans hx1
      refine c_seq ?_
      refine c_quiet ?_
      refine ql_s (.bool (decide ((i1 : Int) < (l0.length : Int)))) (by kernel_rfl) ?_
      refine ql_nil ?_
      refine e_then ?_
      refine c_seq ?_
      refine c_cond (decide ((i1 : Int) < (l0.length : Int))) rfl (fun _ => ?_) (fun ht2 => absurd ((dec_lt_t hm1 (by omega)).symm.trans ht2) (by simp))
      refine c_skip ?_
      refine e_then ?_
      refine c_seq ?_
      refine c_block ?_
      refine c_seq ?_
      obtain ⟨x2, hx2, hx1⟩ := bnd_some hx1
      obtain ⟨b1, o1, h1, hq1⟩ := RO.at l0_h1 hx2
      refine c_quiet ?_
      refine ql_q rfl (qs_idx hq1 Tryd.underlying43 fit48 rfl rfl) ?_
      refine ql_q rfl (qs_ldAtV fit48 rfl h1 valF) ?_
      refine ql_s (.float .f32 x2) (by kernel_rfl) ?_
      refine ql_nil ?_
      refine e_then ?_
      refine c_seq ?_
      obtain ⟨r1, hr1, hx1⟩ := bnd_some hx1
      refine c_quiet ?_
      refine ql_s (.float .f32 x2) (by kernel_rfl) ?_
      refine ql_call (v := .bool r1) rfl (run_call (vs := [.float .f32 x2]) rfl Tryd.call40 rfl) (fun w hS => (field_finite_s x2 _  _ _ hr1 w (hS)).mono fun e w' h => ⟨h.1, h.2⟩) ?_
      refine ql_s (.bool (!r1)) (by kernel_rfl) ?_
      refine ql_nil ?_
      refine e_then ?_
      refine c_cond (!r1) rfl (fun ht3 => ?_) (fun ht3 => ?_)
      · skip
        replace hx1 := if_t ht3 hx1
        refine c_seq ?_
        refine c_quiet ?_
        refine ql_s (.int .i64 2) (by kernel_rfl) ?_
        refine ql_nil ?_
        refine e_then ?_
        refine c_ret ?_
        refine e_blk_ret ?_
        refine e_then_ret ?_
        refine e_then_ret ?_
        obtain rfl := Option.some.inj hx1
        obtain rfl := hs2
        refine e_blk_ret ?_
        refine e_then_ret ?_
        dsimp only at hp
        refine e_then_ret ?_
        obtain rfl := Option.some.inj hp
        exact post_all (vs := [.int .i64 2]) (.int .i64 2) ⟨rfl, trivial⟩ rfl (.inl rfl) (fun w hS => ⟨rfl, (hS.lower hD1)⟩)
      · skip
        replace hx1 := if_f ht3 hx1
        refine c_skip ?_
        refine e_blk ?_
        refine e_then ?_
        refine c_quiet ?_
        refine ql_s (.int .i64 (addI (i1 : Int) 1)) (by kernel_rfl) ?_
        refine ql_s (.int .i64 (addI (i1 : Int) 1)) (by kernel_rfl) ?_
        refine ql_nil ?_
        obtain rfl := Option.some.inj hx1
        exact e_cut ⟨j1, i1 + 1, (), by omega, by omega, ⟨rfl, rfl, rfl, (congrArg (Value.int .i64) (addI_succ (by omega))), trivial⟩, hD1, rfl, hs2⟩
  · skip
    rintro φ2 D1 As2 ⟨s1, rfl, hI2, hD2, hA2⟩
    subst As2
    replace l0_h1 := l0_h1.mono hD2
    dsimp only at hp
    refine e_frame _ hI2 ?_
    refine e_then ?_
    refine c_seq ?_
    refine c_seq ?_
    refine c_quiet ?_
    refine ql_s (.slice l0_v1a l0.length l0_v1c) (by kernel_rfl) ?_
    refine ql_s (.int .i64 (l0.length : Int)) (by kernel_rfl) ?_
    refine ql_s (.int .i64 0) (by kernel_rfl) ?_
    refine ql_nil ?_
    refine e_then ?_
    have hb0 : (l0.length : Int) ≤ 4611686018427387904 := by have := RO.bound l0_h1; omega
    have hm0 : l0.length = (l0.length : Int).toNat := by omega
    have hm2 := hm0; have hb2 := hb0; clear hm0 hb0
    obtain ⟨x3, hs3, hp⟩ := bnd_some hp
    obtain ⟨body2, hbody2, hs3⟩ := forI_gen hs3
    refine c_cut_end (fun φ1 D3 As1 => ∃ (s3 : Unit), x3 = .go s3 ∧ Is φ1 [] ∧ PH.le D1 D3 ∧ As1 = F) ?_ ?_
    · skip
      refine c_block ?_
      refine c_loop (fun k φ1 D4 As1 => ∃ (j2 i2 : Nat) (s4 : Unit), k = j2 + 1 ∧ i2 + j2 = l0.length ∧ Is φ1 [(17, .slice l0_v1a l0.length l0_v1c), (18, .int .i64 (l0.length : Int)), (19, .int .i64 (i2 : Int))] ∧ PH.le D1 D4 ∧ As1 = F ∧ forI body2 j2 i2 s4 = some x3) ⟨l0.length + 1, l0.length, 0, (), rfl, Nat.zero_add _, ⟨rfl, rfl, rfl, trivial⟩, (PH.le_refl _), rfl, hs3⟩ ?_ ?_
      · rintro _ _ _ ⟨_, _, _, h0, _⟩; omega
      intro k2
      rintro φ3 D4 As3 ⟨j2, i2, s4, hk2, hij2, hI3, hD3, hA3, hs4⟩
      subst As3
      replace l0_h1 := l0_h1.mono hD3
      refine c_frame _ hI3 ?_
      obtain rfl : k2 = j2 := by omega
      clear hk2
      rcases k2 with _ | j2
      · skip
        refine c_seq ?_
        refine c_quiet ?_
        refine ql_s (.bool (decide ((i2 : Int) < (l0.length : Int)))) (by kernel_rfl) ?_
        refine ql_nil ?_
        refine e_then ?_
        refine c_seq ?_
        refine c_cond (decide ((i2 : Int) < (l0.length : Int))) rfl (fun ht4 => absurd ((dec_lt_f hm2 (by omega)).symm.trans ht4) (by simp)) (fun _ => ?_)
        refine c_exit ?_
        refine e_then_exit ?_
        refine e_then_exit ?_
        obtain rfl := Option.some.inj hs4
        refine e_blk_exit ?_
        exact e_cut ⟨(), rfl, trivial, hD3, rfl⟩
      · skip
        obtain ⟨y2, hx3, hs4⟩ := forI_some hs4
        replace hx3 := (congrFun (congrFun hbody2 i2) s4).trans hx3
        refine c_seq ?_
        refine c_quiet ?_
        refine ql_s (.bool (decide ((i2 : Int) < (l0.length : Int)))) (by kernel_rfl) ?_
        refine ql_nil ?_
        refine e_then ?_
        refine c_seq ?_
        refine c_cond (decide ((i2 : Int) < (l0.length : Int))) rfl (fun _ => ?_) (fun ht5 => absurd ((dec_lt_t hm2 (by omega)).symm.trans ht5) (by simp))
        refine c_skip ?_
        refine e_then ?_
        refine c_seq ?_
        refine c_block ?_
        refine c_seq ?_
        obtain ⟨x4, hx4, hx3⟩ := bnd_some hx3
        obtain ⟨b2, o2, h2, hq2⟩ := RO.at l0_h1 hx4
        refine c_quiet ?_
        refine ql_q rfl (qs_idx hq2 Tryd.underlying43 fit48 rfl rfl) ?_
        refine ql_q rfl (qs_ldAtV fit48 rfl h2 valF) ?_
        refine ql_s (.float .f32 x4) (by kernel_rfl) ?_
        refine ql_nil ?_
        refine e_then ?_
        refine c_seq ?_
        obtain ⟨r2, hr2, hx3⟩ := bnd_some hx3
        refine c_quiet ?_
        refine ql_s (.float .f32 x4) (by kernel_rfl) ?_
        refine ql_call (v := .bool r2) rfl (run_call (vs := [.float .f32 x4]) rfl Tryd.call41 rfl) (fun w hS => (field_height_s x4 _  _ _ hr2 w (hS)).mono fun e w' h => ⟨h.1, h.2⟩) ?_
        refine ql_s (.bool (!r2)) (by kernel_rfl) ?_
        refine ql_nil ?_
        refine e_then ?_
        refine c_cond (!r2) rfl (fun ht6 => ?_) (fun ht6 => ?_)
        · skip
          replace hx3 := if_t ht6 hx3
          refine c_seq ?_
          refine c_quiet ?_
          refine ql_s (.int .i64 3) (by kernel_rfl) ?_
          refine ql_nil ?_
          refine e_then ?_
          refine c_ret ?_
          refine e_blk_ret ?_
          refine e_then_ret ?_
          refine e_then_ret ?_
          obtain rfl := Option.some.inj hx3
          obtain rfl := hs4
          refine e_blk_ret ?_
          refine e_then_ret ?_
          dsimp only at hp
          refine e_then_ret ?_
          obtain rfl := Option.some.inj hp
          exact post_all (vs := [.int .i64 3]) (.int .i64 3) ⟨rfl, trivial⟩ rfl (.inl rfl) (fun w hS => ⟨rfl, (hS.lower (PH.le_trans hD2 hD3))⟩)
        · skip
          replace hx3 := if_f ht6 hx3
          refine c_skip ?_
          refine e_blk ?_
          refine e_then ?_
          refine c_quiet ?_
          refine ql_s (.int .i64 (addI (i2 : Int) 1)) (by kernel_rfl) ?_
          refine ql_s (.int .i64 (addI (i2 : Int) 1)) (by kernel_rfl) ?_
          refine ql_nil ?_
          obtain rfl := Option.some.inj hx3
          exact e_cut ⟨j2, i2 + 1, (), by omega, by omega, ⟨rfl, rfl, (congrArg (Value.int .i64) (addI_succ (by omega))), trivial⟩, hD3, rfl, hs4⟩
    · skip
      rintro φ4 D3 As4 ⟨s3, rfl, hI4, hD4, hA4⟩
      subst As4
      dsimp only at hp
      refine e_frame _ hI4 ?_
      refine e_then ?_
      refine c_seq ?_
      refine c_quiet ?_
      refine ql_s (.int .i64 0) (by kernel_rfl) ?_
      refine ql_nil ?_
      refine e_then ?_
      refine c_ret ?_
      obtain rfl := Option.some.inj hp
      exact post_all (vs := [.int .i64 0]) (.int .i64 0) ⟨rfl, trivial⟩ rfl (.inl rfl) (fun w hS => ⟨rfl, (hS.lower (PH.le_trans hD2 hD4))⟩)

-- tarnfell/field.Check
set_option maxRecDepth 100000 in
set_option maxHeartbeats 3000000 in
theorem field_Check_s (f0 : S_api_Field) (f0_v1a : Option Addr) (f0_v1c : Nat) (D : PH) (f0_h1 : RO (encF .f32) D (.slice f0_v1a f0.V.length f0_v1c) f0.V) (F : List Assert) (r : Int) (hp : field_Check_p f0 = some r) : ∀ w : World, SInv D (F) w → Calls Tryd.prog 26 #[.agg #[.int .i64 f0.Region.X, .int .i64 f0.Region.Y, .int .i64 f0.Region.W, .int .i64 f0.Region.H, .slice f0_v1a f0.V.length f0_v1c]] w (fun e w' => e = .returned (.int .i64 r) ∧ SInv D (F) w') := by
  intro w hS
  refine call_intro Tryd.func26 rfl Tryd.ntmps26 (Nat.le_of_ble_eq_true rfl) hS ?_
  clear hS w
  unfold field_Check_p at hp
  refine c_seq ?_
  refine c_region ?_
  refine l_box (cs := [.int .i64 f0.Region.X, .int .i64 f0.Region.Y, .int .i64 f0.Region.W, .int .i64 f0.Region.H, .slice f0_v1a f0.V.length f0_v1c]) rfl rfl (fun b2 => ?_)
  refine l_s (.int .i64 0) (by kernel_rfl) ?_
  refine l_nil ?_
  refine e_then ?_
  refine c_seq ?_
  refine c_seq ?_
  obtain ⟨r1, hr1, hp⟩ := bnd_some hp
  refine c_quiet ?_
  refine ql_s (.pointer (some ⟨b2, 0, none⟩)) (by kernel_rfl) ?_
  refine ql_q rfl (qs_ldpt (encW 4 (by decide)) fitv42 rfl 0 rfl (.agg #[.int .i64 f0.Region.X, .int .i64 f0.Region.Y, .int .i64 f0.Region.W, .int .i64 f0.Region.H]) (Nat.le_of_ble_eq_true rfl) rfl) ?_
  refine ql_call (v := .int .i64 r1) rfl (run_call (vs := [.agg #[.int .i64 f0.Region.X, .int .i64 f0.Region.Y, .int .i64 f0.Region.W, .int .i64 f0.Region.H]]) rfl Tryd.call39 rfl) (fun w hS => (field_CheckRegion_s f0.Region _  _ _ hr1 w (hS)).mono fun e w' h => ⟨h.1, h.2⟩) ?_
  refine ql_s (.int .i64 r1) (by kernel_rfl) ?_
  refine ql_nil ?_
  refine e_then ?_
  refine c_seq ?_
  refine c_quiet ?_
  refine ql_s (.int .i64 r1) (by kernel_rfl) ?_
  refine ql_s (.bool (r1 != 0)) (by kernel_rfl) ?_
  refine ql_nil ?_
  refine e_then ?_
  refine c_cond ((r1 != 0)) rfl (fun ht1 => ?_) (fun ht1 => ?_)
  · skip
    replace hp := if_t ht1 hp
    refine c_seq ?_
    refine c_quiet ?_
    refine ql_s (.int .i64 r1) (by kernel_rfl) ?_
    refine ql_s (.int .i64 r1) (by kernel_rfl) ?_
    refine ql_nil ?_
    refine e_drop ?_
    refine e_then ?_
    refine c_ret ?_
    refine e_then_ret ?_
    obtain rfl := Option.some.inj hp
    exact post_all (vs := [.int .i64 r1]) (.int .i64 r1) ⟨rfl, trivial⟩ rfl (.inl rfl) (fun w hS => ⟨rfl, hS⟩)
  · skip
    replace hp := if_f ht1 hp
    refine c_skip ?_
    refine e_then ?_
    refine c_seq ?_
    refine c_seq ?_
    refine c_quiet ?_
    refine ql_s (.pointer (some ⟨b2, 4, none⟩)) (by kernel_rfl) ?_
    refine ql_q rfl (qs_ldpt encV fitv43 rfl 0 rfl (.slice f0_v1a f0.V.length f0_v1c) (Nat.le_of_ble_eq_true rfl) rfl) ?_
    refine ql_s (.int .i64 (f0.V.length : Int)) (by kernel_rfl) ?_
    refine ql_s (.pointer (some ⟨b2, 0, none⟩)) (by kernel_rfl) ?_
    refine ql_s (.pointer (some ⟨b2, 2, none⟩)) (by kernel_rfl) ?_
    refine ql_q rfl (qs_ldpt encV fitv3 rfl 0 rfl (.int .i64 f0.Region.W) (Nat.le_of_ble_eq_true rfl) rfl) ?_
    refine ql_s (.pointer (some ⟨b2, 0, none⟩)) (by kernel_rfl) ?_
    refine ql_s (.pointer (some ⟨b2, 3, none⟩)) (by kernel_rfl) ?_
    refine ql_q rfl (qs_ldpt encV fitv3 rfl 0 rfl (.int .i64 f0.Region.H) (Nat.le_of_ble_eq_true rfl) rfl) ?_
    refine ql_s (.int .i64 (mulI f0.Region.W f0.Region.H)) (by kernel_rfl) ?_
    refine ql_s (.bool ((f0.V.length : Int) != (mulI f0.Region.W f0.Region.H))) (by kernel_rfl) ?_
    refine ql_nil ?_
    refine e_then ?_
    refine c_cond (((f0.V.length : Int) != (mulI f0.Region.W f0.Region.H))) rfl (fun ht2 => ?_) (fun ht2 => ?_)
    · skip
      replace hp := if_t ht2 hp
      refine c_seq ?_
      refine c_quiet ?_
      refine ql_s (.int .i64 2) (by kernel_rfl) ?_
      refine ql_nil ?_
      refine e_drop ?_
      refine e_then ?_
      refine c_ret ?_
      refine e_then_ret ?_
      obtain rfl := Option.some.inj hp
      exact post_all (vs := [.int .i64 2]) (.int .i64 2) ⟨rfl, trivial⟩ rfl (.inl rfl) (fun w hS => ⟨rfl, hS⟩)
    · skip
      replace hp := if_f ht2 hp
      refine c_skip ?_
      refine e_then ?_
      refine c_seq ?_
      obtain ⟨r2, hr2, hp⟩ := bnd_some hp
      refine c_quiet ?_
      refine ql_s (.pointer (some ⟨b2, 4, none⟩)) (by kernel_rfl) ?_
      refine ql_q rfl (qs_ldpt encV fitv43 rfl 0 rfl (.slice f0_v1a f0.V.length f0_v1c) (Nat.le_of_ble_eq_true rfl) rfl) ?_
      refine ql_call (v := .int .i64 r2) rfl (run_call (vs := [.slice f0_v1a f0.V.length f0_v1c]) rfl Tryd.call27 rfl) (fun w hS => (field_Heights_s f0.V f0_v1a f0_v1c _ f0_h1 _ _ hr2 w (hS)).mono fun e w' h => ⟨h.1, h.2⟩) ?_
      refine ql_s (.int .i64 r2) (by kernel_rfl) ?_
      refine ql_nil ?_
      refine e_drop ?_
      refine e_then ?_
      refine c_ret ?_
      obtain rfl := Option.some.inj hp
      exact post_all (vs := [.int .i64 r2]) (.int .i64 r2) ⟨rfl, trivial⟩ rfl (.inl rfl) (fun w hS => ⟨rfl, hS⟩)

-- tarnfell/water.border
set_option maxRecDepth 100000 in
set_option maxHeartbeats 3000000 in
theorem water_border_s (r0 : S_api_Region) (k0 : Int) (D : PH)  (F : List Assert) (r : Bool) (hp : water_border_p r0 k0 = some r) : ∀ w : World, SInv D (F) w → Calls Tryd.prog 42 #[.agg #[.int .i64 r0.X, .int .i64 r0.Y, .int .i64 r0.W, .int .i64 r0.H], .int .i64 k0] w (fun e w' => e = .returned (.bool r) ∧ SInv D (F) w') := by
  intro w hS
  refine call_intro Tryd.func42 rfl Tryd.ntmps42 (Nat.le_of_ble_eq_true rfl) hS ?_
  clear hS w
  unfold water_border_p at hp
  refine c_seq ?_
  refine c_region ?_
  refine l_box (cs := [.int .i64 r0.X, .int .i64 r0.Y, .int .i64 r0.W, .int .i64 r0.H]) rfl rfl (fun b2 => ?_)
  refine l_s (.bool false) (by kernel_rfl) ?_
  refine l_nil ?_
  refine e_then ?_
  refine c_seq ?_
  obtain ⟨u1, hu1, hp⟩ := bnd_some hp
  replace hu1 := guardP_some hu1
  refine c_quiet_draw hmix (by kernel_rfl) ?_
  refine ql_s (.int .i64 k0) (by kernel_rfl) ?_
  refine ql_s (.pointer (some ⟨b2, 2, none⟩)) (by kernel_rfl) ?_
  refine ql_q rfl (qs_ldpt encV fitv3 rfl 0 rfl (.int .i64 r0.W) (Nat.le_of_ble_eq_true rfl) rfl) ?_
  refine ql_q rfl (qs_idiv (r := remI k0 r0.W) (by simpa using hu1) rfl rfl rfl) ?_
  refine ql_s (.int .i64 k0) (by kernel_rfl) ?_
  refine ql_s (.pointer (some ⟨b2, 2, none⟩)) (by kernel_rfl) ?_
  refine ql_q rfl (qs_ldpt encV fitv3 rfl 0 rfl (.int .i64 r0.W) (Nat.le_of_ble_eq_true rfl) rfl) ?_
  refine ql_q rfl (qs_idiv (r := quoI k0 r0.W) (by simpa using hu1) rfl rfl rfl) ?_
  refine ql_s (.int .i64 (remI k0 r0.W)) (by kernel_rfl) ?_
  refine ql_s (.int .i64 (quoI k0 r0.W)) (by kernel_rfl) ?_
  refine ql_nil ?_
  refine e_then ?_
  refine c_seq ?_
  refine c_cutq_end [(4, .bool (((remI k0 r0.W) == 0) || (((quoI k0 r0.W) == 0) || (((remI k0 r0.W) == (subI r0.W 1)) || ((quoI k0 r0.W) == (subI r0.H 1))))))] ?_ ?_
  · skip
    refine c_quiet ?_
    refine ql_s (.int .i64 (remI k0 r0.W)) (by kernel_rfl) ?_
    refine ql_s (.bool ((remI k0 r0.W) == 0)) (by kernel_rfl) ?_
    refine ql_s (.bool ((remI k0 r0.W) == 0)) (by kernel_rfl) ?_
    refine ql_case 17 (((remI k0 r0.W) == 0)) rfl (fun hg1 => ?_) (fun hg1 => ?_)
    · skip
      refine ql_s undef (by kernel_rfl) ?_
      refine ql_s undef (by kernel_rfl) ?_
      refine ql_s (.bool true) (by kernel_rfl) ?_
      refine ql_s (.bool true) (by kernel_rfl) ?_
      refine ql_s undef (by kernel_rfl) ?_
      refine ql_s undef (by kernel_rfl) ?_
      refine ql_s undef (by kernel_rfl) ?_
      refine ql_s undef (by kernel_rfl) ?_
      refine ql_s undef (by kernel_rfl) ?_
      refine ql_s (.bool true) (by kernel_rfl) ?_
      refine ql_s (.bool true) (by kernel_rfl) ?_
      refine ql_s undef (by kernel_rfl) ?_
      refine ql_s undef (by kernel_rfl) ?_
      refine ql_s undef (by kernel_rfl) ?_
      refine ql_s undef (by kernel_rfl) ?_
      refine ql_s undef (by kernel_rfl) ?_
      refine ql_s (.bool true) (by kernel_rfl) ?_
      refine ql_s (.bool true) (by kernel_rfl) ?_
      refine ql_nil (e_cutq ?_)
      exact ⟨(congrArg Value.bool (by first | rfl | (rw [hg1]; rfl) | simp [hg1])), trivial⟩
    · skip
      refine ql_s (.int .i64 (quoI k0 r0.W)) (by kernel_rfl) ?_
      refine ql_s (.bool ((quoI k0 r0.W) == 0)) (by kernel_rfl) ?_
      refine ql_s (.bool ((quoI k0 r0.W) == 0)) (by kernel_rfl) ?_
      refine ql_s (.bool ((quoI k0 r0.W) == 0)) (by kernel_rfl) ?_
      refine ql_case 21 (((quoI k0 r0.W) == 0)) rfl (fun hg2 => ?_) (fun hg2 => ?_)
      · skip
        refine ql_s undef (by kernel_rfl) ?_
        refine ql_s undef (by kernel_rfl) ?_
        refine ql_s undef (by kernel_rfl) ?_
        refine ql_s undef (by kernel_rfl) ?_
        refine ql_s undef (by kernel_rfl) ?_
        refine ql_s (.bool true) (by kernel_rfl) ?_
        refine ql_s (.bool true) (by kernel_rfl) ?_
        refine ql_s undef (by kernel_rfl) ?_
        refine ql_s undef (by kernel_rfl) ?_
        refine ql_s undef (by kernel_rfl) ?_
        refine ql_s undef (by kernel_rfl) ?_
        refine ql_s undef (by kernel_rfl) ?_
        refine ql_s (.bool true) (by kernel_rfl) ?_
        refine ql_s (.bool true) (by kernel_rfl) ?_
        refine ql_nil (e_cutq ?_)
        exact ⟨(congrArg Value.bool (by first | rfl | (rw [hg1, hg2]; rfl) | simp [hg1, hg2])), trivial⟩
      · skip
        refine ql_s (.int .i64 (remI k0 r0.W)) (by kernel_rfl) ?_
        refine ql_s (.pointer (some ⟨b2, 2, none⟩)) (by kernel_rfl) ?_
        refine ql_q rfl (qs_ldpt encV fitv3 rfl 0 rfl (.int .i64 r0.W) (Nat.le_of_ble_eq_true rfl) rfl) ?_
        refine ql_s (.int .i64 (subI r0.W 1)) (by kernel_rfl) ?_
        refine ql_s (.bool ((remI k0 r0.W) == (subI r0.W 1))) (by kernel_rfl) ?_
        refine ql_s (.bool ((remI k0 r0.W) == (subI r0.W 1))) (by kernel_rfl) ?_
        refine ql_s (.bool ((remI k0 r0.W) == (subI r0.W 1))) (by kernel_rfl) ?_
        refine ql_case 28 (((remI k0 r0.W) == (subI r0.W 1))) rfl (fun hg3 => ?_) (fun hg3 => ?_)
        · skip
          refine ql_s undef (by kernel_rfl) ?_
          refine ql_s undef (by kernel_rfl) ?_
          refine ql_s undef (by kernel_rfl) ?_
          refine ql_s undef (by kernel_rfl) ?_
          refine ql_s undef (by kernel_rfl) ?_
          refine ql_s (.bool true) (by kernel_rfl) ?_
          refine ql_s (.bool true) (by kernel_rfl) ?_
          refine ql_nil (e_cutq ?_)
          exact ⟨(congrArg Value.bool (by first | rfl | (rw [hg1, hg2, hg3]; rfl) | simp [hg1, hg2, hg3])), trivial⟩
        · skip
          refine ql_s (.int .i64 (quoI k0 r0.W)) (by kernel_rfl) ?_
          refine ql_s (.pointer (some ⟨b2, 3, none⟩)) (by kernel_rfl) ?_
          refine ql_q rfl (qs_ldpt encV fitv3 rfl 0 rfl (.int .i64 r0.H) (Nat.le_of_ble_eq_true rfl) rfl) ?_
          refine ql_s (.int .i64 (subI r0.H 1)) (by kernel_rfl) ?_
          refine ql_s (.bool ((quoI k0 r0.W) == (subI r0.H 1))) (by kernel_rfl) ?_
          refine ql_s (.bool ((quoI k0 r0.W) == (subI r0.H 1))) (by kernel_rfl) ?_
          refine ql_s (.bool ((quoI k0 r0.W) == (subI r0.H 1))) (by kernel_rfl) ?_
          refine ql_nil (e_cutq ?_)
          exact ⟨(congrArg Value.bool (by first | rfl | (rw [hg1, hg2, hg3]; rfl) | simp [hg1, hg2, hg3])), trivial⟩
  intro _
  refine e_then ?_
  refine c_ret ?_
  obtain rfl := Option.some.inj hp
  exact post_all (vs := [.bool (((remI k0 r0.W) == 0) || (((quoI k0 r0.W) == 0) || (((remI k0 r0.W) == (subI r0.W 1)) || ((quoI k0 r0.W) == (subI r0.H 1)))))]) (.bool (((remI k0 r0.W) == 0) || (((quoI k0 r0.W) == 0) || (((remI k0 r0.W) == (subI r0.W 1)) || ((quoI k0 r0.W) == (subI r0.H 1)))))) ⟨rfl, trivial⟩ rfl (.inl rfl) (fun w hS => ⟨rfl, hS.tail⟩)

-- (tarnfell/water.spills).Len
set_option maxRecDepth 100000 in
set_option maxHeartbeats 3000000 in
theorem water_spills_Len_s (s0 : List S_water_spill) (s0_v1a : Option Addr) (s0_v1c : Nat) (D : PH) (s0_h1 : RO encS_water_spill D (.slice s0_v1a s0.length s0_v1c) s0) (F : List Assert) (r : Int) (hp : water_spills_Len_p s0 = some r) : ∀ w : World, SInv D (F) w → Calls Tryd.prog 103 #[.slice s0_v1a s0.length s0_v1c] w (fun e w' => e = .returned (.int .i64 r) ∧ SInv D (F) w') := by
  intro w hS
  refine call_intro Tryd.func103 rfl Tryd.ntmps103 (Nat.le_of_ble_eq_true rfl) hS ?_
  clear hS w
  unfold water_spills_Len_p at hp
  refine c_seq ?_
  refine c_quiet ?_
  refine ql_s (.int .i64 0) (by kernel_rfl) ?_
  refine ql_nil ?_
  refine e_then ?_
  refine c_seq ?_
  refine c_quiet ?_
  refine ql_s (.slice s0_v1a s0.length s0_v1c) (by kernel_rfl) ?_
  refine ql_s (.int .i64 (s0.length : Int)) (by kernel_rfl) ?_
  refine ql_s (.int .i64 (s0.length : Int)) (by kernel_rfl) ?_
  refine ql_nil ?_
  refine e_then ?_
  refine c_ret ?_
  obtain rfl := Option.some.inj hp
  exact post_all (vs := [.int .i64 (s0.length : Int)]) (.int .i64 (s0.length : Int)) ⟨rfl, trivial⟩ rfl (.inl rfl) (fun w hS => ⟨rfl, hS⟩)

-- (tarnfell/water.spills).Less
set_option maxRecDepth 100000 in
set_option maxHeartbeats 3000000 in
theorem water_spills_Less_s (s0 : List S_water_spill) (s0_v1a : Option Addr) (s0_v1c : Nat) (i0 : Int) (j0 : Int) (D : PH) (s0_h1 : RO encS_water_spill D (.slice s0_v1a s0.length s0_v1c) s0) (F : List Assert) (r : Bool) (hp : water_spills_Less_p s0 i0 j0 = some r) : ∀ w : World, SInv D (F) w → Calls Tryd.prog 104 #[.slice s0_v1a s0.length s0_v1c, .int .i64 i0, .int .i64 j0] w (fun e w' => e = .returned (.bool r) ∧ SInv D (F) w') := by
  intro w hS
  refine call_intro Tryd.func104 rfl Tryd.ntmps104 (Nat.le_of_ble_eq_true rfl) hS ?_
  clear hS w
  unfold water_spills_Less_p at hp
  refine c_seq ?_
  refine c_quiet ?_
  refine ql_s (.bool false) (by kernel_rfl) ?_
  refine ql_nil ?_
  refine e_then ?_
  refine c_seq ?_
  obtain ⟨c1, hc1, hp⟩ := bnd_some hp
  refine c_cutq_end [(6, .bool c1)] ?_ ?_
  · skip
    refine c_quiet_draw hmix (by kernel_rfl) ?_
    refine ql_s (.slice s0_v1a s0.length s0_v1c) (by kernel_rfl) ?_
    refine ql_s (.int .i64 i0) (by kernel_rfl) ?_
    obtain ⟨x1, hx1, hc1⟩ := bnd_some hc1
    obtain ⟨b1, o1, h1, hq1⟩ := RO.at s0_h1 hx1
    refine ql_q rfl (qs_idx hq1 Tryd.underlying82 fit85 rfl rfl) ?_
    have h2 := AtB.field (e' := encF .f32) (u := x1.v) 0 (by decide) (by intro cs hcs; rw [show cs = _ from hcs]; rfl) h1
    refine ql_s (.pointer (some ⟨b1, (o1 + 0), none⟩)) (by kernel_rfl) ?_
    refine ql_q rfl (qs_ldAtV fit48 rfl h2 valF) ?_
    refine ql_s (.slice s0_v1a s0.length s0_v1c) (by kernel_rfl) ?_
    refine ql_s (.int .i64 j0) (by kernel_rfl) ?_
    obtain ⟨x2, hx2, hc1⟩ := bnd_some hc1
    obtain ⟨b2, o2, h3, hq2⟩ := RO.at s0_h1 hx2
    refine ql_q rfl (qs_idx hq2 Tryd.underlying82 fit85 rfl rfl) ?_
    have h4 := AtB.field (e' := encF .f32) (u := x2.v) 0 (by decide) (by intro cs hcs; rw [show cs = _ from hcs]; rfl) h3
    refine ql_s (.pointer (some ⟨b2, (o2 + 0), none⟩)) (by kernel_rfl) ?_
    refine ql_q rfl (qs_ldAtV fit48 rfl h4 valF) ?_
    refine ql_s (.bool (flt .f32 x1.v x2.v)) (by kernel_rfl) ?_
    refine ql_s (.bool (flt .f32 x1.v x2.v)) (by kernel_rfl) ?_
    refine ql_case 18 (flt .f32 x1.v x2.v) rfl (fun hg1 => ?_) (fun hg1 => ?_)
    · skip
      replace hc1 := if_t hg1 hc1
      refine ql_s undef (by kernel_rfl) ?_
      refine ql_s undef (by kernel_rfl) ?_
      refine ql_s undef (by kernel_rfl) ?_
      refine ql_s undef (by kernel_rfl) ?_
      refine ql_s undef (by kernel_rfl) ?_
      refine ql_s undef (by kernel_rfl) ?_
      refine ql_s undef (by kernel_rfl) ?_
      refine ql_s undef (by kernel_rfl) ?_
      refine ql_s undef (by kernel_rfl) ?_
      refine ql_s undef (by kernel_rfl) ?_
      refine ql_s undef (by kernel_rfl) ?_
      refine ql_s undef (by kernel_rfl) ?_
      refine ql_s undef (by kernel_rfl) ?_
      refine ql_s undef (by kernel_rfl) ?_
      refine ql_s undef (by kernel_rfl) ?_
      refine ql_s undef (by kernel_rfl) ?_
      refine ql_s undef (by kernel_rfl) ?_
      refine ql_s undef (by kernel_rfl) ?_
      refine ql_s undef (by kernel_rfl) ?_
      refine ql_s undef (by kernel_rfl) ?_
      refine ql_s undef (by kernel_rfl) ?_
      refine ql_s undef (by kernel_rfl) ?_
      refine ql_s undef (by kernel_rfl) ?_
      refine ql_s undef (by kernel_rfl) ?_
      refine ql_s (.bool true) (by kernel_rfl) ?_
      refine ql_s (.bool true) (by kernel_rfl) ?_
      refine ql_nil (e_cutq ?_)
      obtain rfl := Option.some.inj hc1
      exact ⟨rfl, trivial⟩
    · skip
      replace hc1 := if_f hg1 hc1
      refine ql_s (.slice s0_v1a s0.length s0_v1c) (by kernel_rfl) ?_
      refine ql_s (.int .i64 i0) (by kernel_rfl) ?_
      obtain ⟨x3, hx3, hc1⟩ := bnd_some hc1
      obtain ⟨b3, o3, h5, hq3⟩ := RO.at s0_h1 hx3
      refine ql_q rfl (qs_idx hq3 Tryd.underlying82 fit85 rfl rfl) ?_
      have h6 := AtB.field (e' := encF .f32) (u := x3.v) 0 (by decide) (by intro cs hcs; rw [show cs = _ from hcs]; rfl) h5
      refine ql_s (.pointer (some ⟨b3, (o3 + 0), none⟩)) (by kernel_rfl) ?_
      refine ql_q rfl (qs_ldAtV fit48 rfl h6 valF) ?_
      refine ql_s (.slice s0_v1a s0.length s0_v1c) (by kernel_rfl) ?_
      refine ql_s (.int .i64 j0) (by kernel_rfl) ?_
      obtain ⟨x4, hx4, hc1⟩ := bnd_some hc1
      obtain ⟨b4, o4, h7, hq4⟩ := RO.at s0_h1 hx4
      refine ql_q rfl (qs_idx hq4 Tryd.underlying82 fit85 rfl rfl) ?_
      have h8 := AtB.field (e' := encF .f32) (u := x4.v) 0 (by decide) (by intro cs hcs; rw [show cs = _ from hcs]; rfl) h7
      refine ql_s (.pointer (some ⟨b4, (o4 + 0), none⟩)) (by kernel_rfl) ?_
      refine ql_q rfl (qs_ldAtV fit48 rfl h8 valF) ?_
      refine ql_s (.bool (feq .f32 x3.v x4.v)) (by kernel_rfl) ?_
      refine ql_s (.bool (feq .f32 x3.v x4.v)) (by kernel_rfl) ?_
      refine ql_case 30 (feq .f32 x3.v x4.v) rfl (fun hg2 => ?_) (fun hg2 => ?_)
      · skip
        replace hc1 := if_t hg2 hc1
        refine ql_s (.slice s0_v1a s0.length s0_v1c) (by kernel_rfl) ?_
        refine ql_s (.int .i64 i0) (by kernel_rfl) ?_
        obtain ⟨x5, hx5, hc1⟩ := bnd_some hc1
        obtain ⟨b5, o5, h9, hq5⟩ := RO.at s0_h1 hx5
        refine ql_q rfl (qs_idx hq5 Tryd.underlying82 fit85 rfl rfl) ?_
        have h10 := AtB.field (e' := encI .i64) (u := x5.k) 1 (by decide) (by intro cs hcs; rw [show cs = _ from hcs]; rfl) h9
        refine ql_s (.pointer (some ⟨b5, (o5 + 1), none⟩)) (by kernel_rfl) ?_
        refine ql_q rfl (qs_ldAtV fit3 rfl h10 valI) ?_
        refine ql_s (.slice s0_v1a s0.length s0_v1c) (by kernel_rfl) ?_
        refine ql_s (.int .i64 j0) (by kernel_rfl) ?_
        obtain ⟨x6, hx6, hc1⟩ := bnd_some hc1
        obtain ⟨b6, o6, h11, hq6⟩ := RO.at s0_h1 hx6
        refine ql_q rfl (qs_idx hq6 Tryd.underlying82 fit85 rfl rfl) ?_
        have h12 := AtB.field (e' := encI .i64) (u := x6.k) 1 (by decide) (by intro cs hcs; rw [show cs = _ from hcs]; rfl) h11
        refine ql_s (.pointer (some ⟨b6, (o6 + 1), none⟩)) (by kernel_rfl) ?_
        refine ql_q rfl (qs_ldAtV fit3 rfl h12 valI) ?_
        refine ql_s (.bool (decide (x5.k < x6.k))) (by kernel_rfl) ?_
        refine ql_s (.bool (decide (x5.k < x6.k))) (by kernel_rfl) ?_
        refine ql_s (.bool (decide (x5.k < x6.k))) (by kernel_rfl) ?_
        refine ql_s (.bool (decide (x5.k < x6.k))) (by kernel_rfl) ?_
        refine ql_nil (e_cutq ?_)
        obtain rfl := Option.some.inj hc1
        exact ⟨rfl, trivial⟩
      · skip
        replace hc1 := if_f hg2 hc1
        refine ql_s undef (by kernel_rfl) ?_
        refine ql_s undef (by kernel_rfl) ?_
        refine ql_s undef (by kernel_rfl) ?_
        refine ql_s undef (by kernel_rfl) ?_
        refine ql_s undef (by kernel_rfl) ?_
        refine ql_s undef (by kernel_rfl) ?_
        refine ql_s undef (by kernel_rfl) ?_
        refine ql_s undef (by kernel_rfl) ?_
        refine ql_s undef (by kernel_rfl) ?_
        refine ql_s undef (by kernel_rfl) ?_
        refine ql_s undef (by kernel_rfl) ?_
        refine ql_s (.bool false) (by kernel_rfl) ?_
        refine ql_s (.bool false) (by kernel_rfl) ?_
        refine ql_s (.bool false) (by kernel_rfl) ?_
        refine ql_nil (e_cutq ?_)
        obtain rfl := Option.some.inj hc1
        exact ⟨rfl, trivial⟩
  intro _
  refine e_then ?_
  refine c_ret ?_
  obtain rfl := Option.some.inj hp
  exact post_all (vs := [.bool c1]) (.bool c1) ⟨rfl, trivial⟩ rfl (.inl rfl) (fun w hS => ⟨rfl, hS⟩)

-- (tarnfell/water.spills).Swap
set_option maxRecDepth 100000 in
set_option maxHeartbeats 3000000 in
theorem water_spills_Swap_s (s0 : List S_water_spill) (s0_a : Option Addr) (s0_c : Nat) (i0 : Int) (j0 : Int) (D : PH)  (F : List Assert) (r : (List S_water_spill)) (hp : water_spills_Swap_p s0 i0 j0 = some r) : ∀ w : World, SInv D (OwnS D encS_water_spill 85 (.slice s0_a s0.length s0_c) s0 :: F) w → Calls Tryd.prog 105 #[.slice s0_a s0.length s0_c, .int .i64 i0, .int .i64 j0] w (fun e w' => ∃ (D1 : PH) , PH.le D D1 ∧ e = .returned (.tuple #[]) ∧ SInv D1 (OwnS D1 encS_water_spill 85 (.slice s0_a s0.length s0_c) r :: F) w') := by
  intro w hS
  refine call_intro Tryd.func105 rfl Tryd.ntmps105 (Nat.le_of_ble_eq_true rfl) hS ?_
  clear hS w
  unfold water_spills_Swap_p at hp
  obtain ⟨x1, hx1, hp⟩ := bnd_some hp
  obtain ⟨x2, hx2, hp⟩ := bnd_some hp
  obtain ⟨l1, hl1, hp⟩ := bnd_some hp
  replace hl1 := Option.some.inj hl1
  obtain ⟨x3, hx3, hp⟩ := bnd_some hp
  obtain ⟨l2, hl2, hp⟩ := bnd_some hp
  replace hl2 := Option.some.inj hl2
  refine c_adr (fun b1 hb1 hl3 hbd1 hcap1 => ?_)
  refine c_cut_end (fun φ1 D1 As1 => Is φ1 [] ∧ D = D1 ∧ As1 = OwnS D encS_water_spill 85 (.slice s0_a s0.length s0_c) l2 :: F) ?_ ?_
  · skip
    refine c_order (B := []) (.q 0 (.q 1 (.q 2 (.q 3 (.q 4 (.q 5 (.q 6 (.q 8 (.q 9 (.q 10 (.f 7 (.e 11 (.q 12 (.e 13 (.q 14 (.e 15 .nil))))) (.e 11 (.e 7 (.q 12 (.e 13 (.q 14 (.e 15 .nil))))))))))))))))) hmix (by kernel_rfl) (NoPanic.then NoPanic.post) ?_
    refine o_s (.slice s0_a s0.length s0_c) rfl (by kernel_rfl) ?_
    refine o_s (.int .i64 i0) rfl (by kernel_rfl) ?_
    refine o_s (.slice s0_a s0.length s0_c) rfl (by kernel_rfl) ?_
    refine o_s (.int .i64 j0) rfl (by kernel_rfl) ?_
    refine o_s (.slice s0_a s0.length s0_c) rfl (by kernel_rfl) ?_
    refine o_s (.int .i64 j0) rfl (by kernel_rfl) ?_
    refine o_qs rfl rfl (qs_idx (IsIdx.beg (e := encS_water_spill) hb1 rfl hx1) Tryd.underlying82 fit85 rfl rfl) ?_
    refine o_s (.slice s0_a s0.length s0_c) rfl (by kernel_rfl) ?_
    refine o_s (.int .i64 i0) rfl (by kernel_rfl) ?_
    refine o_qs rfl rfl (qs_idx (IsIdx.beg (e := encS_water_spill) hb1 rfl hx2) Tryd.underlying82 fit85 rfl rfl) ?_
    refine o_f ?_ ?_
    · skip
      refine o_qe rfl rfl (PH.le_refl _) (qs_ldS fit85 hb1 rfl rfl 0 rfl (idx_some hx1).2.2 (v := .agg #[.float .f32 x1.v, .int .i64 x1.k]) (fun cs hcs => by rw [show cs = _ from hcs]; rfl)) ?_
      refine o_qe rfl rfl (PH.le_refl _) (qs_ldS fit85 hb1 rfl rfl 0 rfl (idx_some hx2).2.2 (v := .agg #[.float .f32 x2.v, .int .i64 x2.k]) (fun cs hcs => by rw [show cs = _ from hcs]; rfl)) ?_
      refine o_qs rfl rfl (qs_idx (IsIdx.beg (e := encS_water_spill) hb1 rfl hx2) Tryd.underlying82 fit85 rfl rfl) ?_
      refine o_stS (vs := [.float .f32 x1.v, .int .i64 x1.k]) hb1 rfl hl1 rfl rfl (PH.le_refl _) fit85 rfl rfl rfl rfl (idx_some hx2).2.1 ?_
      refine o_qs rfl rfl (qs_idx (IsIdx.beg (e := encS_water_spill) (Beg.set hl1 hb1) (len_set hl1 rfl) hx3) Tryd.underlying82 fit85 rfl rfl) ?_
      refine o_stS (vs := [.float .f32 x2.v, .int .i64 x2.k]) (Beg.set hl1 hb1) (len_set hl1 rfl) hl2 rfl rfl (PH.le_refl _) fit85 rfl rfl rfl rfl (idx_some hx3).2.1 ?_
      refine o_nil ?_
      exact e_cut ⟨trivial, rfl, rfl⟩
    refine o_qe rfl rfl (PH.le_refl _) (qs_ldS fit85 hb1 rfl rfl 0 rfl (idx_some hx2).2.2 (v := .agg #[.float .f32 x2.v, .int .i64 x2.k]) (fun cs hcs => by rw [show cs = _ from hcs]; rfl)) ?_
    refine o_qe rfl rfl (PH.le_refl _) (qs_ldS fit85 hb1 rfl rfl 0 rfl (idx_some hx1).2.2 (v := .agg #[.float .f32 x1.v, .int .i64 x1.k]) (fun cs hcs => by rw [show cs = _ from hcs]; rfl)) ?_
    refine o_qs rfl rfl (qs_idx (IsIdx.beg (e := encS_water_spill) hb1 rfl hx2) Tryd.underlying82 fit85 rfl rfl) ?_
    refine o_stS (vs := [.float .f32 x1.v, .int .i64 x1.k]) hb1 rfl hl1 rfl rfl (PH.le_refl _) fit85 rfl rfl rfl rfl (idx_some hx2).2.1 ?_
    refine o_qs rfl rfl (qs_idx (IsIdx.beg (e := encS_water_spill) (Beg.set hl1 hb1) (len_set hl1 rfl) hx3) Tryd.underlying82 fit85 rfl rfl) ?_
    refine o_stS (vs := [.float .f32 x2.v, .int .i64 x2.k]) (Beg.set hl1 hb1) (len_set hl1 rfl) hl2 rfl rfl (PH.le_refl _) fit85 rfl rfl rfl rfl (idx_some hx3).2.1 ?_
    refine o_nil ?_
    exact e_cut ⟨trivial, rfl, rfl⟩
  · skip
    rintro φ1 _ As1 ⟨hI1, rfl, hA⟩
    subst As1
    refine e_frame _ hI1 ?_
    obtain rfl := Option.some.inj hp
    exact post_all (vs := []) (.tuple #[]) trivial rfl (.inr rfl) (fun w hS => ⟨D, (PH.le_refl _), rfl, hS⟩)

-- container/heap.down
set_option maxRecDepth 100000 in
set_option maxHeartbeats 3000000 in
theorem container_heap_down_s (b_h0 : Nat) (h0 : List S_water_spill) (h0_a : Option Addr) (h0_c : Nat) (i00 : Int) (n0 : Int) (D : PH)  (F : List Assert) (r : Bool × (List S_water_spill)) (hp : container_heap_down_p h0 i00 n0 = some r) : ∀ w : World, SInv D (pt b_h0 [.slice h0_a h0.length h0_c] 82 :: OwnS D encS_water_spill 85 (.slice h0_a h0.length h0_c) h0 :: F) w → Calls Tryd.prog 58 #[.iface 87 (.pointer (some ⟨b_h0, 0, none⟩)), .int .i64 i00, .int .i64 n0] w (fun e w' => ∃ (D1 : PH) , PH.le D D1 ∧ e = .returned (.bool r.1) ∧ SInv D1 (pt b_h0 [.slice h0_a h0.length h0_c] 82 :: OwnS D1 encS_water_spill 85 (.slice h0_a h0.length h0_c) r.2 :: F) w') := by
  intro w hS
  refine call_intro Tryd.func58 rfl Tryd.ntmps58 (Nat.le_of_ble_eq_true rfl) hS ?_
  clear hS w
  unfold container_heap_down_p at hp
  refine c_seq ?_
  refine c_quiet ?_
  refine ql_s (.bool false) (by kernel_rfl) ?_
  refine ql_nil ?_
  refine e_then ?_
  refine c_seq ?_
  refine c_quiet ?_
  refine ql_s (.int .i64 i00) (by kernel_rfl) ?_
  refine ql_s (.int .i64 i00) (by kernel_rfl) ?_
  refine ql_nil ?_
  refine e_then ?_
  refine c_seq ?_
  obtain ⟨x1, hs1, hp⟩ := bnd_some hp
  obtain ⟨body1, hbody1, hs1⟩ := loopP_gen hs1
  refine c_cut_end (fun φ1 D1 As1 => Is φ1 [(1, .int .i64 i00), (7, .int .i64 x1.1)] ∧ PH.le D D1 ∧ As1 = pt b_h0 [.slice h0_a h0.length h0_c] 82 :: OwnS D1 encS_water_spill 85 (.slice h0_a h0.length h0_c) x1.2 :: F) ?_ ?_
  · skip
    refine c_block ?_
    obtain ⟨kz1, hs1⟩ := loopP_ex hs1
    refine c_loop (fun k φ1 D2 As1 => ∃ (s1 : Int × (List S_water_spill)), Is φ1 [(0, .iface 87 (.pointer (some ⟨b_h0, 0, none⟩))), (1, .int .i64 i00), (2, .int .i64 n0), (7, .int .i64 s1.1)] ∧ PH.le D D2 ∧ As1 = pt b_h0 [.slice h0_a h0.length h0_c] 82 :: OwnS D2 encS_water_spill 85 (.slice h0_a h0.length h0_c) s1.2 :: F ∧ iter body1 k s1 = some x1) ⟨kz1, (i00, h0), ⟨rfl, rfl, rfl, rfl, trivial⟩, (PH.le_refl _), rfl, hs1⟩ ?_ ?_
    · rintro _ _ _ ⟨_, _, _, _, h0⟩; cases h0
    intro k1
    rintro φ1 D2 As1 ⟨s1, hI1, hD1, hA1, hs2⟩
    subst As1
    refine c_frame _ hI1 ?_
    obtain ⟨y1, hx1, hs2⟩ := iter_some hs2
    replace hx1 := (congrFun hbody1 s1).trans hx1
    refine c_block ?_
    refine c_seq ?_
    refine c_quiet ?_
    refine ql_s (.int .i64 s1.1) (by kernel_rfl) ?_
    refine ql_s (.int .i64 (mulI 2 s1.1)) (by kernel_rfl) ?_
    refine ql_s (.int .i64 (addI (mulI 2 s1.1) 1)) (by kernel_rfl) ?_
    refine ql_s (.int .i64 (addI (mulI 2 s1.1) 1)) (by kernel_rfl) ?_
    refine ql_nil ?_
    refine e_then ?_
    refine c_seq ?_
    refine c_seq ?_
    refine c_cutq_end [(0, .iface 87 (.pointer (some ⟨b_h0, 0, none⟩))), (1, .int .i64 i00), (2, .int .i64 n0), (7, .int .i64 s1.1), (8, .int .i64 (addI (mulI 2 s1.1) 1)), (21, .bool ((decide ((addI (mulI 2 s1.1) 1) ≥ n0)) || (decide ((addI (mulI 2 s1.1) 1) < 0))))] ?_ ?_
    · skip
      refine c_quiet ?_
      refine ql_s (.int .i64 (addI (mulI 2 s1.1) 1)) (by kernel_rfl) ?_
      refine ql_s (.int .i64 n0) (by kernel_rfl) ?_
      refine ql_s (.bool (decide ((addI (mulI 2 s1.1) 1) ≥ n0))) (by kernel_rfl) ?_
      refine ql_s (.bool (decide ((addI (mulI 2 s1.1) 1) ≥ n0))) (by kernel_rfl) ?_
      refine ql_case 18 (decide ((addI (mulI 2 s1.1) 1) ≥ n0)) rfl (fun hg1 => ?_) (fun hg1 => ?_)
      · skip
        refine ql_s undef (by kernel_rfl) ?_
        refine ql_s undef (by kernel_rfl) ?_
        refine ql_s (.bool true) (by kernel_rfl) ?_
        refine ql_nil (e_cutq ?_)
        exact ⟨rfl, rfl, rfl, rfl, rfl, (congrArg Value.bool (by first | rfl | (rw [hg1]; rfl) | simp [hg1])), trivial⟩
      · skip
        refine ql_s (.int .i64 (addI (mulI 2 s1.1) 1)) (by kernel_rfl) ?_
        refine ql_s (.bool (decide ((addI (mulI 2 s1.1) 1) < 0))) (by kernel_rfl) ?_
        refine ql_s (.bool (decide ((addI (mulI 2 s1.1) 1) < 0))) (by kernel_rfl) ?_
        refine ql_nil (e_cutq ?_)
        exact ⟨rfl, rfl, rfl, rfl, rfl, (congrArg Value.bool (by first | rfl | (rw [hg1]; rfl) | simp [hg1])), trivial⟩
    intro _
    refine e_then ?_
    refine c_cond (((decide ((addI (mulI 2 s1.1) 1) ≥ n0)) || (decide ((addI (mulI 2 s1.1) 1) < 0)))) rfl (fun ht1 => ?_) (fun ht1 => ?_)
    · skip
      replace hx1 := if_t ht1 hx1
      refine c_exit ?_
      refine e_then_exit ?_
      refine e_blk_other (by decide) ?_
      refine e_then_exit ?_
      obtain rfl := Option.some.inj hx1
      obtain rfl := hs2
      refine e_blk_exit ?_
      exact e_cut ⟨⟨rfl, rfl, trivial⟩, hD1, rfl⟩
    · skip
      replace hx1 := if_f ht1 hx1
      refine c_skip ?_
      refine e_then ?_
      refine c_seq ?_
      refine c_quiet ?_
      refine ql_s (.int .i64 (addI (mulI 2 s1.1) 1)) (by kernel_rfl) ?_
      refine ql_s (.int .i64 (addI (mulI 2 s1.1) 1)) (by kernel_rfl) ?_
      refine ql_nil ?_
      refine e_then ?_
      refine c_seq ?_
      refine c_seq ?_
      obtain ⟨j2_1, hj2_1, hx1⟩ := bnd_some hx1
      replace hj2_1 := Option.some.inj hj2_1
      refine c_quiet ?_
      refine ql_s (.int .i64 (addI (mulI 2 s1.1) 1)) (by kernel_rfl) ?_
      refine ql_s (.int .i64 (addI (addI (mulI 2 s1.1) 1) 1)) (by kernel_rfl) ?_
      refine ql_s (.int .i64 j2_1) (congrArg (fun z => some (Value.int .i64 z)) hj2_1) ?_
      refine ql_nil ?_
      refine e_then ?_
      refine c_seq ?_
      refine c_perm (fr1_perm 1 _) ?_
      refine c_adr (fun b1 hb1 hl1 hbd1 hcap1 => ?_)
      obtain ⟨c1, hc1, hx1⟩ := bnd_some hx1
      refine c_cutq_end [(0, .iface 87 (.pointer (some ⟨b_h0, 0, none⟩))), (1, .int .i64 i00), (2, .int .i64 n0), (7, .int .i64 s1.1), (9, .int .i64 (addI (mulI 2 s1.1) 1)), (10, .int .i64 j2_1), (33, .bool c1)] ?_ ?_
      · skip
        refine c_quiet ?_
        refine ql_s (.int .i64 j2_1) (by kernel_rfl) ?_
        refine ql_s (.int .i64 n0) (by kernel_rfl) ?_
        refine ql_s (.bool (decide (j2_1 < n0))) (by kernel_rfl) ?_
        refine ql_s (.bool (decide (j2_1 < n0))) (by kernel_rfl) ?_
        refine ql_case 28 (decide (j2_1 < n0)) rfl (fun hg2 => ?_) (fun hg2 => ?_)
        · skip
          replace hc1 := if_t hg2 hc1
          refine ql_s (.iface 87 (.pointer (some ⟨b_h0, 0, none⟩))) (by kernel_rfl) ?_
          refine ql_s (.int .i64 j2_1) (by kernel_rfl) ?_
          refine ql_s (.int .i64 (addI (mulI 2 s1.1) 1)) (by kernel_rfl) ?_
          obtain ⟨r1, hr1, hc1⟩ := bnd_some hc1
          refine ql_ent (v := .bool r1) rfl (ent_methD encV (vs := [.slice h0_a h0.length h0_c, .int .i64 j2_1, .int .i64 (addI (mulI 2 s1.1) 1)]) rfl (by kernel_rfl) Tryd.underlying87 Tryd.call104 fitv82 1 rfl (.slice h0_a h0.length h0_c) (Nat.le_of_ble_eq_true rfl) rfl rfl) (fun w hS => (calls_thaw (PH.le_refl _) (hS) (fun D0' hLl0 hLr0 hS => (show Calls Tryd.prog 104 #[.slice h0_a h0.length h0_c, .int .i64 j2_1, .int .i64 (addI (mulI 2 s1.1) 1)] w (fun e w' => e = .returned (.bool r1) ∧ SInv D0' (pt b_h0 [.slice h0_a h0.length h0_c] 82 :: F) w') from by have hq := water_spills_Less_s s1.2 h0_a h0_c j2_1 (addI (mulI 2 s1.1) 1) _ (by rw [hl1]; exact hLr0) _ _ hr1 w (show SInv D0' (pt b_h0 [.slice h0_a s1.2.length h0_c] 82 :: F) w from by have h2 : SInv D0' (pt b_h0 [.slice h0_a h0.length h0_c] 82 :: F) w := hS; rw [← hl1] at h2; exact h2); (try simp only [hl1] at hq); exact hq).mono fun e w' h => ⟨h.1, h.2⟩)).mono fun e w' h => ⟨h.1, h.2⟩) ?_
          refine ql_s (.bool r1) (by kernel_rfl) ?_
          refine ql_nil (e_cutq ?_)
          obtain rfl := Option.some.inj hc1
          exact ⟨rfl, rfl, rfl, rfl, rfl, rfl, rfl, trivial⟩
        · skip
          replace hc1 := if_f hg2 hc1
          refine ql_s undef (by kernel_rfl) ?_
          refine ql_s undef (by kernel_rfl) ?_
          refine ql_s undef (by kernel_rfl) ?_
          refine ql_s undef (by kernel_rfl) ?_
          refine ql_s (.bool false) (by kernel_rfl) ?_
          refine ql_nil (e_cutq ?_)
          obtain rfl := Option.some.inj hc1
          exact ⟨rfl, rfl, rfl, rfl, rfl, rfl, rfl, trivial⟩
      intro _
      refine e_then ?_
      obtain ⟨s2, hs3, hx1⟩ := bnd_some hx1
      refine c_cut_end (fun φ1 D3 As1 => Is φ1 [(0, .iface 87 (.pointer (some ⟨b_h0, 0, none⟩))), (1, .int .i64 i00), (2, .int .i64 n0), (7, .int .i64 s1.1), (9, .int .i64 s2)] ∧ PH.le D2 D3 ∧ As1 = OwnS D3 encS_water_spill 85 (.slice h0_a h0.length h0_c) s1.2 :: pt b_h0 [.slice h0_a h0.length h0_c] 82 :: F) ?_ ?_
      · skip
        refine c_cond (c1) rfl (fun ht2 => ?_) (fun ht2 => ?_)
        · skip
          replace hs3 := if_t ht2 hs3
          refine c_quiet ?_
          refine ql_s (.int .i64 j2_1) (by kernel_rfl) ?_
          refine ql_s (.int .i64 j2_1) (by kernel_rfl) ?_
          refine ql_nil ?_
          obtain rfl := Option.some.inj hs3
          exact e_cut ⟨⟨rfl, rfl, rfl, rfl, rfl, trivial⟩, (PH.le_refl _), rfl⟩
        · skip
          replace hs3 := if_f ht2 hs3
          refine c_skip ?_
          obtain rfl := Option.some.inj hs3
          exact e_cut ⟨⟨rfl, rfl, rfl, rfl, rfl, trivial⟩, (PH.le_refl _), rfl⟩
      · skip
        rintro φ2 D3 As2 ⟨hI2, hD2, hA2⟩
        subst As2
        refine e_frame _ hI2 ?_
        refine e_then ?_
        refine c_seq ?_
        refine c_seq ?_
        obtain ⟨r2, hr2, hx1⟩ := bnd_some hx1
        refine c_quiet ?_
        refine ql_s (.iface 87 (.pointer (some ⟨b_h0, 0, none⟩))) (by kernel_rfl) ?_
        refine ql_s (.int .i64 s2) (by kernel_rfl) ?_
        refine ql_s (.int .i64 s1.1) (by kernel_rfl) ?_
        refine ql_ent (v := .bool r2) rfl (ent_methD encV (vs := [.slice h0_a h0.length h0_c, .int .i64 s2, .int .i64 s1.1]) rfl (by kernel_rfl) Tryd.underlying87 Tryd.call104 fitv82 1 rfl (.slice h0_a h0.length h0_c) (Nat.le_of_ble_eq_true rfl) rfl rfl) (fun w hS => (calls_thaw (PH.le_refl _) (hS) (fun D0' hLl0 hLr0 hS => (show Calls Tryd.prog 104 #[.slice h0_a h0.length h0_c, .int .i64 s2, .int .i64 s1.1] w (fun e w' => e = .returned (.bool r2) ∧ SInv D0' (pt b_h0 [.slice h0_a h0.length h0_c] 82 :: F) w') from by have hq := water_spills_Less_s s1.2 h0_a h0_c s2 s1.1 _ (by rw [hl1]; exact hLr0) _ _ hr2 w (show SInv D0' (pt b_h0 [.slice h0_a s1.2.length h0_c] 82 :: F) w from by have h2 : SInv D0' (pt b_h0 [.slice h0_a h0.length h0_c] 82 :: F) w := hS; rw [← hl1] at h2; exact h2); (try simp only [hl1] at hq); exact hq).mono fun e w' h => ⟨h.1, h.2⟩)).mono fun e w' h => ⟨h.1, h.2⟩) ?_
        refine ql_s (.bool (!r2)) (by kernel_rfl) ?_
        refine ql_nil ?_
        refine e_then ?_
        refine c_cond (!r2) rfl (fun ht3 => ?_) (fun ht3 => ?_)
        · skip
          replace hx1 := if_t ht3 hx1
          refine c_exit ?_
          refine e_then_exit ?_
          refine e_blk_other (by decide) ?_
          refine e_then_exit ?_
          obtain rfl := Option.some.inj hx1
          obtain rfl := hs2
          refine e_blk_exit ?_
          refine e_perm (fr1_perm 1 _) ?_
          exact e_cut ⟨⟨rfl, rfl, trivial⟩, (PH.le_trans hD1 hD2), rfl⟩
        · skip
          replace hx1 := if_f ht3 hx1
          refine c_skip ?_
          refine e_then ?_
          refine c_seq ?_
          obtain ⟨r3, hr3, hx1⟩ := bnd_some hx1
          refine c_region ?_
          refine l_s (.iface 87 (.pointer (some ⟨b_h0, 0, none⟩))) (by kernel_rfl) ?_
          refine l_s (.int .i64 s1.1) (by kernel_rfl) ?_
          refine l_s (.int .i64 s2) (by kernel_rfl) ?_
          refine l_ent rfl (ent_methD encV (vs := [.slice h0_a h0.length h0_c, .int .i64 s1.1, .int .i64 s2]) rfl (by kernel_rfl) Tryd.underlying87 Tryd.call105 fitv82 1 rfl (.slice h0_a h0.length h0_c) (Nat.le_of_ble_eq_true rfl) rfl rfl) (fun v D5 As4 => PH.le D3 D5 ∧ v = .tuple #[] ∧ As4 = OwnS D5 encS_water_spill 85 (.slice h0_a h0.length h0_c) r3 :: pt b_h0 [.slice h0_a h0.length h0_c] 82 :: F) (fun w hS => (show Calls Tryd.prog 105 #[.slice h0_a h0.length h0_c, .int .i64 s1.1, .int .i64 s2] w (fun e w' => ∃ (D5 : PH) , PH.le D3 D5 ∧ e = .returned (.tuple #[]) ∧ SInv D5 (OwnS D5 encS_water_spill 85 (.slice h0_a h0.length h0_c) r3 :: pt b_h0 [.slice h0_a h0.length h0_c] 82 :: F) w') from by have hq := water_spills_Swap_s s1.2 h0_a h0_c s1.1 s2 _  _ _ hr3 w (show SInv D3 (OwnS D3 encS_water_spill 85 (.slice h0_a s1.2.length h0_c) s1.2 :: pt b_h0 [.slice h0_a s1.2.length h0_c] 82 :: F) w from by have h2 : SInv D3 (OwnS D3 encS_water_spill 85 (.slice h0_a h0.length h0_c) s1.2 :: pt b_h0 [.slice h0_a h0.length h0_c] 82 :: F) w := hS; rw [← hl1] at h2; exact h2); (try simp only [hl1] at hq); exact hq).mono fun e w' ⟨D5, hle2, he, hS2⟩ => ⟨_, D5, _, he, ⟨hle2, rfl, rfl⟩, hS2⟩) ?_
          rintro _ D5 As4 ⟨hle2, rfl, hA4⟩
          subst As4
          refine l_nil ?_
          refine e_then ?_
          refine c_quiet ?_
          refine ql_s (.int .i64 s2) (by kernel_rfl) ?_
          refine ql_s (.int .i64 s2) (by kernel_rfl) ?_
          refine ql_nil ?_
          refine e_blk ?_
          refine e_perm (fr1_perm 1 _) ?_
          obtain rfl := Option.some.inj hx1
          exact e_cut ⟨(s2, r3), ⟨rfl, rfl, rfl, rfl, trivial⟩, (PH.le_trans (PH.le_trans hD1 hD2) hle2), rfl, hs2⟩
  · skip
    rintro φ3 D1 As5 ⟨hI3, hD3, hA5⟩
    subst As5
    refine e_frame _ hI3 ?_
    refine e_then ?_
    refine c_seq ?_
    refine c_quiet ?_
    refine ql_s (.int .i64 x1.1) (by kernel_rfl) ?_
    refine ql_s (.int .i64 i00) (by kernel_rfl) ?_
    refine ql_s (.bool (decide (x1.1 > i00))) (by kernel_rfl) ?_
    refine ql_s (.bool (decide (x1.1 > i00))) (by kernel_rfl) ?_
    refine ql_nil ?_
    refine e_then ?_
    refine c_ret ?_
    obtain rfl := Option.some.inj hp
    exact post_all (vs := [.bool (decide (x1.1 > i00))]) (.bool (decide (x1.1 > i00))) ⟨rfl, trivial⟩ rfl (.inl rfl) (fun w hS => ⟨D1, hD3, rfl, hS⟩)

-- container/heap.Init
set_option maxRecDepth 100000 in
set_option maxHeartbeats 3000000 in
theorem container_heap_Init_s (b_h0 : Nat) (h0 : List S_water_spill) (h0_a : Option Addr) (h0_c : Nat) (D : PH)  (F : List Assert) (r : (List S_water_spill)) (hp : container_heap_Init_p h0 = some r) : ∀ w : World, SInv D (pt b_h0 [.slice h0_a h0.length h0_c] 82 :: OwnS D encS_water_spill 85 (.slice h0_a h0.length h0_c) h0 :: F) w → Calls Tryd.prog 43 #[.iface 87 (.pointer (some ⟨b_h0, 0, none⟩))] w (fun e w' => ∃ (D1 : PH) , PH.le D D1 ∧ e = .returned (.tuple #[]) ∧ SInv D1 (pt b_h0 [.slice h0_a h0.length h0_c] 82 :: OwnS D1 encS_water_spill 85 (.slice h0_a h0.length h0_c) r :: F) w') := by
  intro w hS
  refine call_intro Tryd.func43 rfl Tryd.ntmps43 (Nat.le_of_ble_eq_true rfl) hS ?_
  clear hS w
  unfold container_heap_Init_p at hp
  refine c_seq ?_
  obtain ⟨r1, hr1, hp⟩ := bnd_some hp
  refine c_quiet ?_
  refine ql_s (.iface 87 (.pointer (some ⟨b_h0, 0, none⟩))) (by kernel_rfl) ?_
  refine ql_ent (v := .int .i64 r1) rfl (ent_methD encV (vs := [.slice h0_a h0.length h0_c]) rfl (by kernel_rfl) Tryd.underlying87 Tryd.call103 fitv82 0 rfl (.slice h0_a h0.length h0_c) (Nat.le_of_ble_eq_true rfl) rfl rfl) (fun w hS => (calls_thaw (PH.le_refl _) (hS.perm (fr1_perm 1 _)) (fun D0' hLl0 hLr0 hS => (water_spills_Len_s h0 h0_a h0_c _ hLr0 _ _ hr1 w (hS)).mono fun e w' h => ⟨h.1, h.2⟩)).mono fun e w' h => ⟨h.1, SInv.unfr 1 h.2⟩) ?_
  refine ql_s (.int .i64 r1) (by kernel_rfl) ?_
  refine ql_nil ?_
  refine e_then ?_
  refine c_seq ?_
  refine c_quiet ?_
  refine ql_s (.int .i64 r1) (by kernel_rfl) ?_
  refine ql_q rfl (qs_idiv (r := quoI r1 2) (by decide) rfl rfl rfl) ?_
  refine ql_s (.int .i64 (subI (quoI r1 2) 1)) (by kernel_rfl) ?_
  refine ql_s (.int .i64 (subI (quoI r1 2) 1)) (by kernel_rfl) ?_
  refine ql_nil ?_
  refine e_then ?_
  obtain ⟨x1, hs1, hp⟩ := bnd_some hp
  obtain ⟨body1, hbody1, hs1⟩ := loopP_gen hs1
  refine c_cut_end (fun φ1 D1 As1 => Is φ1 [] ∧ PH.le D D1 ∧ As1 = pt b_h0 [.slice h0_a h0.length h0_c] 82 :: OwnS D1 encS_water_spill 85 (.slice h0_a h0.length h0_c) x1 :: F) ?_ ?_
  · skip
    refine c_block ?_
    obtain ⟨kz1, hs1⟩ := loopP_ex hs1
    refine c_loop (fun k φ1 D2 As1 => ∃ (s1 : Int × (List S_water_spill)), Is φ1 [(0, .iface 87 (.pointer (some ⟨b_h0, 0, none⟩))), (2, .int .i64 r1), (3, .int .i64 s1.1)] ∧ PH.le D D2 ∧ As1 = pt b_h0 [.slice h0_a h0.length h0_c] 82 :: OwnS D2 encS_water_spill 85 (.slice h0_a h0.length h0_c) s1.2 :: F ∧ iter body1 k s1 = some x1) ⟨kz1, (subI (quoI r1 2) 1, h0), ⟨rfl, rfl, rfl, trivial⟩, (PH.le_refl _), rfl, hs1⟩ ?_ ?_
    · rintro _ _ _ ⟨_, _, _, _, h0⟩; cases h0
    intro k1
    rintro φ1 D2 As1 ⟨s1, hI1, hD1, hA1, hs2⟩
    subst As1
    refine c_frame _ hI1 ?_
    obtain ⟨y1, hx1, hs2⟩ := iter_some hs2
    replace hx1 := (congrFun hbody1 s1).trans hx1
    refine c_seq ?_
    refine c_seq ?_
    refine c_quiet ?_
    refine ql_s (.int .i64 s1.1) (by kernel_rfl) ?_
    refine ql_s (.bool (decide (s1.1 ≥ 0))) (by kernel_rfl) ?_
    refine ql_nil ?_
    refine e_then ?_
    refine c_cond (decide (s1.1 ≥ 0)) rfl (fun ht1 => ?_) (fun ht1 => ?_)
    · skip
      replace hx1 := if_t ht1 hx1
      refine c_skip ?_
      refine e_then ?_
      refine c_seq ?_
      refine c_block ?_
      obtain ⟨r2, hr2, hx1⟩ := bnd_some hx1
      refine c_perm (fr1_perm 1 _) ?_
      refine c_adr (fun b1 hb1 hl1 hbd1 hcap1 => ?_)
      refine c_region ?_
      refine l_s (.iface 87 (.pointer (some ⟨b_h0, 0, none⟩))) (by kernel_rfl) ?_
      refine l_s (.int .i64 s1.1) (by kernel_rfl) ?_
      refine l_s (.int .i64 r1) (by kernel_rfl) ?_
      refine l_call rfl rfl Tryd.call58 (vs := [.iface 87 (.pointer (some ⟨b_h0, 0, none⟩)), .int .i64 s1.1, .int .i64 r1]) rfl (fun v D4 As3 => PH.le D2 D4 ∧ v = .bool r2.1 ∧ As3 = pt b_h0 [.slice h0_a h0.length h0_c] 82 :: OwnS D4 encS_water_spill 85 (.slice h0_a h0.length h0_c) r2.2 :: F) (fun w hS => (show Calls Tryd.prog 58 #[.iface 87 (.pointer (some ⟨b_h0, 0, none⟩)), .int .i64 s1.1, .int .i64 r1] w (fun e w' => ∃ (D4 : PH) , PH.le D2 D4 ∧ e = .returned (.bool r2.1) ∧ SInv D4 (pt b_h0 [.slice h0_a h0.length h0_c] 82 :: OwnS D4 encS_water_spill 85 (.slice h0_a h0.length h0_c) r2.2 :: F) w') from by have hq := container_heap_down_s b_h0 s1.2 h0_a h0_c s1.1 r1 _  _ _ hr2 w (show SInv D2 (pt b_h0 [.slice h0_a s1.2.length h0_c] 82 :: OwnS D2 encS_water_spill 85 (.slice h0_a s1.2.length h0_c) s1.2 :: F) w from by have h2 : SInv D2 (pt b_h0 [.slice h0_a h0.length h0_c] 82 :: OwnS D2 encS_water_spill 85 (.slice h0_a h0.length h0_c) s1.2 :: F) w := hS.perm (fr1_perm 1 _); rw [← hl1] at h2; exact h2); (try simp only [hl1] at hq); exact hq).mono fun e w' ⟨D4, hle2, he, hS2⟩ => ⟨_, D4, _, he, ⟨hle2, rfl, rfl⟩, hS2⟩) ?_
      rintro _ D4 As3 ⟨hle2, rfl, hA3⟩
      subst As3
      refine l_nil ?_
      refine e_blk ?_
      refine e_then ?_
      refine c_quiet ?_
      refine ql_s (.int .i64 s1.1) (by kernel_rfl) ?_
      refine ql_s (.int .i64 (subI s1.1 1)) (by kernel_rfl) ?_
      refine ql_s (.int .i64 (subI s1.1 1)) (by kernel_rfl) ?_
      refine ql_nil ?_
      obtain rfl := Option.some.inj hx1
      exact e_cut ⟨(subI s1.1 1, r2.2), ⟨rfl, rfl, rfl, trivial⟩, (PH.le_trans hD1 hle2), rfl, hs2⟩
    · skip
      replace hx1 := if_f ht1 hx1
      refine c_exit ?_
      refine e_then_exit ?_
      refine e_then_exit ?_
      obtain rfl := Option.some.inj hx1
      obtain rfl := hs2
      refine e_blk_exit ?_
      exact e_cut ⟨trivial, hD1, rfl⟩
  · skip
    rintro φ2 D1 As4 ⟨hI2, hD2, hA4⟩
    subst As4
    refine e_frame _ hI2 ?_
    obtain rfl := Option.some.inj hp
    exact post_all (vs := []) (.tuple #[]) trivial rfl (.inr rfl) (fun w hS => ⟨D1, hD2, rfl, hS⟩)

-- (*tarnfell/water.spills).Pop
set_option maxRecDepth 100000 in
set_option maxHeartbeats 3000000 in
theorem water_spills_Pop_s (b_s0 : Nat) (s0 : List S_water_spill) (s0_a : Option Addr) (s0_c : Nat) (D : PH)  (F : List Assert) (r : S_water_spill × (List S_water_spill)) (hp : water_spills_Pop_p s0 = some r) : ∀ w : World, SInv D (pt b_s0 [.slice s0_a s0.length s0_c] 82 :: OwnS D encS_water_spill 85 (.slice s0_a s0.length s0_c) s0 :: F) w → Calls Tryd.prog 106 #[.pointer (some ⟨b_s0, 0, none⟩)] w (fun e w' => ∃ (D1 : PH) (q_a1 : Option Addr) (q_cp1 : Nat), PH.le D D1 ∧ e = .returned (.iface 85 (.agg #[.float .f32 r.1.v, .int .i64 r.1.k])) ∧ SInv D1 (pt b_s0 [.slice q_a1 r.2.length q_cp1] 82 :: OwnS D1 encS_water_spill 85 (.slice q_a1 r.2.length q_cp1) r.2 :: F) w') := by
  intro w hS
  refine call_intro Tryd.func106 rfl Tryd.ntmps106 (Nat.le_of_ble_eq_true rfl) hS ?_
  clear hS w
  unfold water_spills_Pop_p at hp
  refine c_seq ?_
  refine c_quiet ?_
  refine ql_s (.nilIface) (by kernel_rfl) ?_
  refine ql_nil ?_
  refine e_then ?_
  refine c_seq ?_
  obtain ⟨x1, hx1, hp⟩ := bnd_some hp
  refine c_perm (fr1_perm 1 _) ?_
  refine c_adr (fun b2 hb1 hl1 hbd1 hcap1 => ?_)
  refine c_order (B := [OwnS D encS_water_spill 85 (.slice s0_a s0.length s0_c) s0, pt b_s0 [.slice s0_a s0.length s0_c] 82]) (.q 0 (.q 1 (.q 2 (.q 3 (.q 4 (.q 5 (.q 6 (.q 7 (.q 8 (.q 9 (.e 10 (.e 11 .nil)))))))))))) hmix (by kernel_rfl) (NoPanic.then NoPanic.post) ?_
  refine o_s (.pointer (some ⟨b_s0, 0, none⟩)) rfl (by kernel_rfl) ?_
  refine o_s (.pointer (some ⟨b_s0, 0, none⟩)) rfl (by kernel_rfl) ?_
  refine o_qs rfl rfl (qs_ldpt encV fitv82 rfl 1 rfl (.slice s0_a s0.length s0_c) (Nat.le_of_ble_eq_true rfl) rfl) ?_
  refine o_s (.pointer (some ⟨b_s0, 0, none⟩)) rfl (by kernel_rfl) ?_
  refine o_s (.pointer (some ⟨b_s0, 0, none⟩)) rfl (by kernel_rfl) ?_
  refine o_qs rfl rfl (qs_ldpt encV fitv82 rfl 1 rfl (.slice s0_a s0.length s0_c) (Nat.le_of_ble_eq_true rfl) rfl) ?_
  refine o_s (.int .i64 (s0.length : Int)) rfl (by kernel_rfl) ?_
  refine o_s (.int .i64 (subI (s0.length : Int) 1)) rfl (by kernel_rfl) ?_
  refine o_qs rfl rfl (qs_idx (IsIdx.beg (e := encS_water_spill) hb1 rfl hx1) Tryd.underlying82 fit85 rfl rfl) ?_
  refine o_qs rfl rfl (qs_ldS fit85 hb1 rfl rfl 0 rfl (idx_some hx1).2.2 (v := .agg #[.float .f32 x1.v, .int .i64 x1.k]) (fun cs hcs => by rw [show cs = _ from hcs]; rfl)) ?_
  refine o_alloc (zs := [.float .f32 0, .int .i64 0]) rfl rfl (PH.le_refl _) (by kernel_rfl) (fun b3 => ?_)
  refine o_store (vs := [.float .f32 x1.v, .int .i64 x1.k]) (cs' := [.float .f32 x1.v, .int .i64 x1.k]) rfl rfl (PH.le_refl _) (by kernel_rfl) (by kernel_rfl) rfl rfl (Nat.le_of_ble_eq_true rfl) rfl rfl ?_
  refine o_nil ?_
  refine e_then ?_
  refine c_seq ?_
  obtain ⟨l1, hl2, hp⟩ := bnd_some hp
  have hc1 := slc_len hl2
  refine c_perm (fr1_perm 2 _) ?_
  refine c_cut_end (fun φ1 D1 As1 => Is φ1 [(3, .pointer (some ⟨b3, 0, none⟩))] ∧ D = D1 ∧ As1 = pt b3 [.float .f32 x1.v, .int .i64 x1.k] 85 :: OwnS D encS_water_spill 85 (.slice s0_a ((subI (s0.length : Int) 1).toNat) s0_c) l1 :: pt b_s0 [.slice s0_a ((subI (s0.length : Int) 1).toNat) s0_c] 82 :: F) ?_ ?_
  · skip
    refine c_order (B := [pt b3 [.float .f32 x1.v, .int .i64 x1.k] 85]) (.q 0 (.q 1 (.q 2 (.q 4 (.q 5 (.f 3 (.e 6 (.q 7 (.q 8 (.q 9 (.q 10 (.e 11 .nil)))))) (.e 6 (.q 7 (.q 8 (.e 3 (.q 9 (.q 10 (.e 11 .nil))))))))))))) hmix (by kernel_rfl) (NoPanic.then (NoPanic.then NoPanic.post)) ?_
    refine o_s (.pointer (some ⟨b_s0, 0, none⟩)) rfl (by kernel_rfl) ?_
    refine o_s (.pointer (some ⟨b_s0, 0, none⟩)) rfl (by kernel_rfl) ?_
    refine o_s (.pointer (some ⟨b_s0, 0, none⟩)) rfl (by kernel_rfl) ?_
    refine o_s (.pointer (some ⟨b_s0, 0, none⟩)) rfl (by kernel_rfl) ?_
    refine o_s (.pointer (some ⟨b_s0, 0, none⟩)) rfl (by kernel_rfl) ?_
    refine o_f ?_ ?_
    · skip
      refine o_qe rfl rfl (PH.le_refl _) (qs_ldpt encV fitv82 rfl 2 rfl (.slice s0_a s0.length s0_c) (Nat.le_of_ble_eq_true rfl) rfl) ?_
      refine o_qe rfl rfl (PH.le_refl _) (qs_ldpt encV fitv82 rfl 2 rfl (.slice s0_a s0.length s0_c) (Nat.le_of_ble_eq_true rfl) rfl) ?_
      refine o_s (.int .i64 (s0.length : Int)) rfl (by kernel_rfl) ?_
      refine o_s (.int .i64 (subI (s0.length : Int) 1)) rfl (by kernel_rfl) ?_
      refine o_qs rfl rfl (qs_slice (e := encS_water_spill) (l := 0) (xs := s0) (v := .slice s0_a (subI (s0.length : Int) 1).toNat s0_c) Tryd.underlying82 fit85 rfl rfl hcap1 rfl ⟨_, rfl⟩ hl2 (slcV_own hb1)) ?_
      refine o_imp (OwnS.cutTo hl2) ?_
      refine o_s (.pointer (some ⟨b_s0, 0, none⟩)) rfl (by kernel_rfl) ?_
      refine o_perm (fr1_perm 1 _) ?_
      refine o_store (vs := [.slice s0_a ((subI (s0.length : Int) 1).toNat) s0_c]) (cs' := [.slice s0_a ((subI (s0.length : Int) 1).toNat) s0_c]) rfl rfl (PH.le_refl _) (by kernel_rfl) (by kernel_rfl) rfl rfl (Nat.le_of_ble_eq_true rfl) rfl rfl ?_
      refine o_nil ?_
      refine e_perm (pick_perm [0, 2, 1] rfl rfl) ?_
      exact e_cut ⟨⟨rfl, trivial⟩, rfl, rfl⟩
    refine o_qe rfl rfl (PH.le_refl _) (qs_ldpt encV fitv82 rfl 2 rfl (.slice s0_a s0.length s0_c) (Nat.le_of_ble_eq_true rfl) rfl) ?_
    refine o_s (.int .i64 (s0.length : Int)) rfl (by kernel_rfl) ?_
    refine o_s (.int .i64 (subI (s0.length : Int) 1)) rfl (by kernel_rfl) ?_
    refine o_qe rfl rfl (PH.le_refl _) (qs_ldpt encV fitv82 rfl 2 rfl (.slice s0_a s0.length s0_c) (Nat.le_of_ble_eq_true rfl) rfl) ?_
    refine o_qs rfl rfl (qs_slice (e := encS_water_spill) (l := 0) (xs := s0) (v := .slice s0_a (subI (s0.length : Int) 1).toNat s0_c) Tryd.underlying82 fit85 rfl rfl hcap1 rfl ⟨_, rfl⟩ hl2 (slcV_own hb1)) ?_
    refine o_imp (OwnS.cutTo hl2) ?_
    refine o_s (.pointer (some ⟨b_s0, 0, none⟩)) rfl (by kernel_rfl) ?_
    refine o_perm (fr1_perm 1 _) ?_
    refine o_store (vs := [.slice s0_a ((subI (s0.length : Int) 1).toNat) s0_c]) (cs' := [.slice s0_a ((subI (s0.length : Int) 1).toNat) s0_c]) rfl rfl (PH.le_refl _) (by kernel_rfl) (by kernel_rfl) rfl rfl (Nat.le_of_ble_eq_true rfl) rfl rfl ?_
    refine o_nil ?_
    refine e_perm (pick_perm [0, 2, 1] rfl rfl) ?_
    exact e_cut ⟨⟨rfl, trivial⟩, rfl, rfl⟩
  · skip
    rintro φ1 _ As1 ⟨hI1, rfl, hA⟩
    subst As1
    refine e_frame _ hI1 ?_
    refine e_then ?_
    refine c_seq ?_
    refine c_quiet ?_
    refine ql_q rfl (qs_ldpt (encW 2 (by decide)) fitv85 rfl 0 rfl (.agg #[.float .f32 x1.v, .int .i64 x1.k]) (Nat.le_of_ble_eq_true rfl) rfl) ?_
    refine ql_q rfl (qs_mkI Tryd.underlying85 rfl rfl) ?_
    refine ql_s (.iface 85 (.agg #[.float .f32 x1.v, .int .i64 x1.k])) (by kernel_rfl) ?_
    refine ql_nil ?_
    refine e_drop ?_
    refine e_then ?_
    refine c_ret ?_
    obtain rfl := Option.some.inj hp
    refine e_perm (fr1_perm 1 _) ?_
    exact post_all (vs := [.iface 85 (.agg #[.float .f32 x1.v, .int .i64 x1.k])]) (.iface 85 (.agg #[.float .f32 x1.v, .int .i64 x1.k])) ⟨rfl, trivial⟩ rfl (.inl rfl) (fun w hS => ⟨D, s0_a, s0_c, (PH.le_refl _), (by simp only [hc1]), (by have h2 : SInv D (pt b_s0 [.slice s0_a ((subI (s0.length : Int) 1).toNat) s0_c] 82 :: OwnS D encS_water_spill 85 (.slice s0_a ((subI (s0.length : Int) 1).toNat) s0_c) l1 :: F) w := hS; simpa only [hc1] using h2)⟩)

-- container/heap.Pop
set_option maxRecDepth 100000 in
set_option maxHeartbeats 3000000 in
theorem container_heap_Pop_s (b_h0 : Nat) (h0 : List S_water_spill) (h0_a : Option Addr) (h0_c : Nat) (D : PH)  (F : List Assert) (r : S_water_spill × (List S_water_spill)) (hp : container_heap_Pop_p h0 = some r) : ∀ w : World, SInv D (pt b_h0 [.slice h0_a h0.length h0_c] 82 :: OwnS D encS_water_spill 85 (.slice h0_a h0.length h0_c) h0 :: F) w → Calls Tryd.prog 44 #[.iface 87 (.pointer (some ⟨b_h0, 0, none⟩))] w (fun e w' => ∃ (D1 : PH) (q_a1 : Option Addr) (q_cp1 : Nat), PH.le D D1 ∧ e = .returned (.iface 85 (.agg #[.float .f32 r.1.v, .int .i64 r.1.k])) ∧ SInv D1 (pt b_h0 [.slice q_a1 r.2.length q_cp1] 82 :: OwnS D1 encS_water_spill 85 (.slice q_a1 r.2.length q_cp1) r.2 :: F) w') := by
  intro w hS
  refine call_intro Tryd.func44 rfl Tryd.ntmps44 (Nat.le_of_ble_eq_true rfl) hS ?_
  clear hS w
  unfold container_heap_Pop_p at hp
  refine c_seq ?_
  refine c_quiet ?_
  refine ql_s (.nilIface) (by kernel_rfl) ?_
  refine ql_nil ?_
  refine e_then ?_
  refine c_seq ?_
  obtain ⟨r1, hr1, hp⟩ := bnd_some hp
  refine c_quiet ?_
  refine ql_s (.iface 87 (.pointer (some ⟨b_h0, 0, none⟩))) (by kernel_rfl) ?_
  refine ql_ent (v := .int .i64 r1) rfl (ent_methD encV (vs := [.slice h0_a h0.length h0_c]) rfl (by kernel_rfl) Tryd.underlying87 Tryd.call103 fitv82 0 rfl (.slice h0_a h0.length h0_c) (Nat.le_of_ble_eq_true rfl) rfl rfl) (fun w hS => (calls_thaw (PH.le_refl _) (hS.perm (fr1_perm 1 _)) (fun D0' hLl0 hLr0 hS => (water_spills_Len_s h0 h0_a h0_c _ hLr0 _ _ hr1 w (hS)).mono fun e w' h => ⟨h.1, h.2⟩)).mono fun e w' h => ⟨h.1, SInv.unfr 1 h.2⟩) ?_
  refine ql_s (.int .i64 (subI r1 1)) (by kernel_rfl) ?_
  refine ql_s (.int .i64 (subI r1 1)) (by kernel_rfl) ?_
  refine ql_nil ?_
  refine e_then ?_
  refine c_seq ?_
  obtain ⟨r2, hr2, hp⟩ := bnd_some hp
  refine c_region ?_
  refine l_s (.iface 87 (.pointer (some ⟨b_h0, 0, none⟩))) (by kernel_rfl) ?_
  refine l_s (.int .i64 (subI r1 1)) (by kernel_rfl) ?_
  refine l_ent rfl (ent_methD encV (vs := [.slice h0_a h0.length h0_c, .int .i64 0, .int .i64 (subI r1 1)]) rfl (by kernel_rfl) Tryd.underlying87 Tryd.call105 fitv82 0 rfl (.slice h0_a h0.length h0_c) (Nat.le_of_ble_eq_true rfl) rfl rfl) (fun v D2 As2 => PH.le D D2 ∧ v = .tuple #[] ∧ As2 = OwnS D2 encS_water_spill 85 (.slice h0_a h0.length h0_c) r2 :: pt b_h0 [.slice h0_a h0.length h0_c] 82 :: F) (fun w hS => (water_spills_Swap_s h0 h0_a h0_c 0 (subI r1 1) _  _ _ hr2 w (hS.perm (fr1_perm 1 _))).mono fun e w' ⟨D2, hle2, he, hS2⟩ => ⟨_, D2, _, he, ⟨hle2, rfl, rfl⟩, hS2⟩) ?_
  rintro _ D2 As2 ⟨hle2, rfl, hA2⟩
  subst As2
  refine l_nil ?_
  refine e_then ?_
  refine c_seq ?_
  obtain ⟨r3, hr3, hp⟩ := bnd_some hp
  refine c_adr (fun b1 hb1 hl1 hbd1 hcap1 => ?_)
  refine c_region ?_
  refine l_s (.iface 87 (.pointer (some ⟨b_h0, 0, none⟩))) (by kernel_rfl) ?_
  refine l_s (.int .i64 (subI r1 1)) (by kernel_rfl) ?_
  refine l_call rfl rfl Tryd.call58 (vs := [.iface 87 (.pointer (some ⟨b_h0, 0, none⟩)), .int .i64 0, .int .i64 (subI r1 1)]) rfl (fun v D4 As4 => PH.le D2 D4 ∧ v = .bool r3.1 ∧ As4 = pt b_h0 [.slice h0_a h0.length h0_c] 82 :: OwnS D4 encS_water_spill 85 (.slice h0_a h0.length h0_c) r3.2 :: F) (fun w hS => (show Calls Tryd.prog 58 #[.iface 87 (.pointer (some ⟨b_h0, 0, none⟩)), .int .i64 0, .int .i64 (subI r1 1)] w (fun e w' => ∃ (D4 : PH) , PH.le D2 D4 ∧ e = .returned (.bool r3.1) ∧ SInv D4 (pt b_h0 [.slice h0_a h0.length h0_c] 82 :: OwnS D4 encS_water_spill 85 (.slice h0_a h0.length h0_c) r3.2 :: F) w') from by have hq := container_heap_down_s b_h0 r2 h0_a h0_c 0 (subI r1 1) _  _ _ hr3 w (show SInv D2 (pt b_h0 [.slice h0_a r2.length h0_c] 82 :: OwnS D2 encS_water_spill 85 (.slice h0_a r2.length h0_c) r2 :: F) w from by have h2 : SInv D2 (pt b_h0 [.slice h0_a h0.length h0_c] 82 :: OwnS D2 encS_water_spill 85 (.slice h0_a h0.length h0_c) r2 :: F) w := hS.perm (fr1_perm 1 _); rw [← hl1] at h2; exact h2); (try simp only [hl1] at hq); exact hq).mono fun e w' ⟨D4, hle4, he, hS2⟩ => ⟨_, D4, _, he, ⟨hle4, rfl, rfl⟩, hS2⟩) ?_
  rintro _ D4 As4 ⟨hle4, rfl, hA4⟩
  subst As4
  refine l_nil ?_
  refine e_then ?_
  refine c_seq ?_
  obtain ⟨r4, hr4, hp⟩ := bnd_some hp
  refine c_perm (fr1_perm 1 _) ?_
  refine c_adr (fun b2 hb2 hl2 hbd2 hcap2 => ?_)
  refine c_region ?_
  refine l_s (.iface 87 (.pointer (some ⟨b_h0, 0, none⟩))) (by kernel_rfl) ?_
  refine l_ent rfl (ent_methP (vs := [.pointer (some ⟨b_h0, 0, none⟩)]) rfl (by kernel_rfl) Tryd.underlying87 Tryd.call106 rfl) (fun v D6 As6 => ∃ (a2 : Option Addr) (cp2 : Nat), PH.le D4 D6 ∧ v = .iface 85 (.agg #[.float .f32 r4.1.v, .int .i64 r4.1.k]) ∧ As6 = pt b_h0 [.slice a2 r4.2.length cp2] 82 :: OwnS D6 encS_water_spill 85 (.slice a2 r4.2.length cp2) r4.2 :: F) (fun w hS => (show Calls Tryd.prog 106 #[.pointer (some ⟨b_h0, 0, none⟩)] w (fun e w' => ∃ (D6 : PH) (a2 : Option Addr) (cp2 : Nat), PH.le D4 D6 ∧ e = .returned (.iface 85 (.agg #[.float .f32 r4.1.v, .int .i64 r4.1.k])) ∧ SInv D6 (pt b_h0 [.slice a2 r4.2.length cp2] 82 :: OwnS D6 encS_water_spill 85 (.slice a2 r4.2.length cp2) r4.2 :: F) w') from by have hq := water_spills_Pop_s b_h0 r3.2 h0_a h0_c _  _ _ hr4 w (show SInv D4 (pt b_h0 [.slice h0_a r3.2.length h0_c] 82 :: OwnS D4 encS_water_spill 85 (.slice h0_a r3.2.length h0_c) r3.2 :: F) w from by have h2 : SInv D4 (pt b_h0 [.slice h0_a h0.length h0_c] 82 :: OwnS D4 encS_water_spill 85 (.slice h0_a h0.length h0_c) r3.2 :: F) w := hS.perm (fr1_perm 1 _); rw [← hl2] at h2; exact h2); (try simp only [hl2] at hq); exact hq).mono fun e w' ⟨D6, a2, cp2, hle6, he, hS2⟩ => ⟨_, D6, _, he, ⟨a2, cp2, hle6, rfl, rfl⟩, hS2⟩) ?_
  rintro _ D6 As6 ⟨a2, cp2, hle6, rfl, hA6⟩
  subst As6
  refine l_s (.iface 85 (.agg #[.float .f32 r4.1.v, .int .i64 r4.1.k])) (by kernel_rfl) ?_
  refine l_nil ?_
  refine e_then ?_
  refine c_ret ?_
  obtain rfl := Option.some.inj hp
  exact post_all (vs := [.iface 85 (.agg #[.float .f32 r4.1.v, .int .i64 r4.1.k])]) (.iface 85 (.agg #[.float .f32 r4.1.v, .int .i64 r4.1.k])) ⟨rfl, trivial⟩ rfl (.inl rfl) (fun w hS => ⟨D6, a2, cp2, (PH.le_trans (PH.le_trans hle2 hle4) hle6), rfl, hS⟩)

-- tarnfell/water.beside
set_option maxRecDepth 100000 in
set_option maxHeartbeats 3000000 in
theorem water_beside_s (r0 : S_api_Region) (k0 : Int) (d0 : Int) (D : PH)  (F : List Assert) (r : Int × Bool) (hp : water_beside_p r0 k0 d0 = some r) : ∀ w : World, SInv D (F) w → Calls Tryd.prog 59 #[.agg #[.int .i64 r0.X, .int .i64 r0.Y, .int .i64 r0.W, .int .i64 r0.H], .int .i64 k0, .int .i64 d0] w (fun e w' => e = .returned (.tuple #[.int .i64 r.1, .bool r.2]) ∧ SInv D (F) w') := by
  intro w hS
  refine call_intro Tryd.func59 rfl Tryd.ntmps59 (Nat.le_of_ble_eq_true rfl) hS ?_
  clear hS w
  unfold water_beside_p at hp
  refine c_seq ?_
  refine c_region ?_
  refine l_box (cs := [.int .i64 r0.X, .int .i64 r0.Y, .int .i64 r0.W, .int .i64 r0.H]) rfl rfl (fun b2 => ?_)
  refine l_s (.int .i64 0) (by kernel_rfl) ?_
  refine l_s (.bool false) (by kernel_rfl) ?_
  refine l_nil ?_
  refine e_then ?_
  refine c_seq ?_
  obtain ⟨r1, hr1, hp⟩ := bnd_some hp
  refine c_region ?_
  refine l_s (.int .i64 d0) (by kernel_rfl) ?_
  refine l_callq (v := .agg #[.int .i64 r1.X, .int .i64 r1.Y]) rfl rfl Tryd.call24 (vs := [.int .i64 d0]) rfl (fun w hS => (water_Toward_s d0 _  _ _ hr1 w (hS)).mono fun e w' h => ⟨h.1, h.2⟩) ?_
  refine l_alloc (zs := [.int .i64 0, .int .i64 0]) rfl (by kernel_rfl) (fun b4 => ?_)
  refine l_store (dd := none) (vs := [.int .i64 r1.X, .int .i64 r1.Y]) (cs' := [.int .i64 r1.X, .int .i64 r1.Y]) rfl (by kernel_rfl) (by kernel_rfl) rfl rfl (Nat.le_of_ble_eq_true rfl) rfl rfl ?_
  refine l_nil ?_
  refine e_then ?_
  refine c_seq ?_
  obtain ⟨u1, hu1, hp⟩ := bnd_some hp
  replace hu1 := guardP_some hu1
  refine c_quiet_draw hmix (by kernel_rfl) ?_
  refine ql_s (.int .i64 k0) (by kernel_rfl) ?_
  refine ql_s (.pointer (some ⟨b2, 2, none⟩)) (by kernel_rfl) ?_
  refine ql_q rfl (qs_ldpt encV fitv3 rfl 1 rfl (.int .i64 r0.W) (Nat.le_of_ble_eq_true rfl) rfl) ?_
  refine ql_q rfl (qs_idiv (r := remI k0 r0.W) (by simpa using hu1) rfl rfl rfl) ?_
  refine ql_s (.pointer (some ⟨b4, 0, none⟩)) (by kernel_rfl) ?_
  refine ql_q rfl (qs_ldpt encV fitv3 rfl 0 rfl (.int .i64 r1.X) (Nat.le_of_ble_eq_true rfl) rfl) ?_
  refine ql_s (.int .i64 (addI (remI k0 r0.W) r1.X)) (by kernel_rfl) ?_
  refine ql_s (.int .i64 k0) (by kernel_rfl) ?_
  refine ql_s (.pointer (some ⟨b2, 2, none⟩)) (by kernel_rfl) ?_
  refine ql_q rfl (qs_ldpt encV fitv3 rfl 1 rfl (.int .i64 r0.W) (Nat.le_of_ble_eq_true rfl) rfl) ?_
  refine ql_q rfl (qs_idiv (r := quoI k0 r0.W) (by simpa using hu1) rfl rfl rfl) ?_
  refine ql_s (.pointer (some ⟨b4, 1, none⟩)) (by kernel_rfl) ?_
  refine ql_q rfl (qs_ldpt encV fitv3 rfl 0 rfl (.int .i64 r1.Y) (Nat.le_of_ble_eq_true rfl) rfl) ?_
  refine ql_s (.int .i64 (addI (quoI k0 r0.W) r1.Y)) (by kernel_rfl) ?_
  refine ql_s (.int .i64 (addI (remI k0 r0.W) r1.X)) (by kernel_rfl) ?_
  refine ql_s (.int .i64 (addI (quoI k0 r0.W) r1.Y)) (by kernel_rfl) ?_
  refine ql_nil ?_
  refine e_drop ?_
  refine e_then ?_
  refine c_seq ?_
  refine c_seq ?_
  refine c_cutq_end [(3, .pointer (some ⟨b2, 0, none⟩)), (9, .int .i64 (addI (remI k0 r0.W) r1.X)), (10, .int .i64 (addI (quoI k0 r0.W) r1.Y)), (44, .bool ((decide ((addI (remI k0 r0.W) r1.X) < 0)) || ((decide ((addI (quoI k0 r0.W) r1.Y) < 0)) || ((decide ((addI (remI k0 r0.W) r1.X) ≥ r0.W)) || (decide ((addI (quoI k0 r0.W) r1.Y) ≥ r0.H))))))] ?_ ?_
  · skip
    refine c_quiet ?_
    refine ql_s (.int .i64 (addI (remI k0 r0.W) r1.X)) (by kernel_rfl) ?_
    refine ql_s (.bool (decide ((addI (remI k0 r0.W) r1.X) < 0))) (by kernel_rfl) ?_
    refine ql_s (.bool (decide ((addI (remI k0 r0.W) r1.X) < 0))) (by kernel_rfl) ?_
    refine ql_case 29 (decide ((addI (remI k0 r0.W) r1.X) < 0)) rfl (fun hg1 => ?_) (fun hg1 => ?_)
    · skip
      refine ql_s undef (by kernel_rfl) ?_
      refine ql_s undef (by kernel_rfl) ?_
      refine ql_s (.bool true) (by kernel_rfl) ?_
      refine ql_s (.bool true) (by kernel_rfl) ?_
      refine ql_s undef (by kernel_rfl) ?_
      refine ql_s undef (by kernel_rfl) ?_
      refine ql_s undef (by kernel_rfl) ?_
      refine ql_s undef (by kernel_rfl) ?_
      refine ql_s (.bool true) (by kernel_rfl) ?_
      refine ql_s (.bool true) (by kernel_rfl) ?_
      refine ql_s undef (by kernel_rfl) ?_
      refine ql_s undef (by kernel_rfl) ?_
      refine ql_s undef (by kernel_rfl) ?_
      refine ql_s undef (by kernel_rfl) ?_
      refine ql_s (.bool true) (by kernel_rfl) ?_
      refine ql_nil (e_cutq ?_)
      exact ⟨rfl, rfl, rfl, (congrArg Value.bool (by first | rfl | (rw [hg1]; rfl) | simp [hg1])), trivial⟩
    · skip
      refine ql_s (.int .i64 (addI (quoI k0 r0.W) r1.Y)) (by kernel_rfl) ?_
      refine ql_s (.bool (decide ((addI (quoI k0 r0.W) r1.Y) < 0))) (by kernel_rfl) ?_
      refine ql_s (.bool (decide ((addI (quoI k0 r0.W) r1.Y) < 0))) (by kernel_rfl) ?_
      refine ql_s (.bool (decide ((addI (quoI k0 r0.W) r1.Y) < 0))) (by kernel_rfl) ?_
      refine ql_case 33 (decide ((addI (quoI k0 r0.W) r1.Y) < 0)) rfl (fun hg2 => ?_) (fun hg2 => ?_)
      · skip
        refine ql_s undef (by kernel_rfl) ?_
        refine ql_s undef (by kernel_rfl) ?_
        refine ql_s undef (by kernel_rfl) ?_
        refine ql_s undef (by kernel_rfl) ?_
        refine ql_s (.bool true) (by kernel_rfl) ?_
        refine ql_s (.bool true) (by kernel_rfl) ?_
        refine ql_s undef (by kernel_rfl) ?_
        refine ql_s undef (by kernel_rfl) ?_
        refine ql_s undef (by kernel_rfl) ?_
        refine ql_s undef (by kernel_rfl) ?_
        refine ql_s (.bool true) (by kernel_rfl) ?_
        refine ql_nil (e_cutq ?_)
        exact ⟨rfl, rfl, rfl, (congrArg Value.bool (by first | rfl | (rw [hg1, hg2]; rfl) | simp [hg1, hg2])), trivial⟩
      · skip
        refine ql_s (.int .i64 (addI (remI k0 r0.W) r1.X)) (by kernel_rfl) ?_
        refine ql_s (.pointer (some ⟨b2, 2, none⟩)) (by kernel_rfl) ?_
        refine ql_q rfl (qs_ldpt encV fitv3 rfl 0 rfl (.int .i64 r0.W) (Nat.le_of_ble_eq_true rfl) rfl) ?_
        refine ql_s (.bool (decide ((addI (remI k0 r0.W) r1.X) ≥ r0.W))) (by kernel_rfl) ?_
        refine ql_s (.bool (decide ((addI (remI k0 r0.W) r1.X) ≥ r0.W))) (by kernel_rfl) ?_
        refine ql_s (.bool (decide ((addI (remI k0 r0.W) r1.X) ≥ r0.W))) (by kernel_rfl) ?_
        refine ql_case 39 (decide ((addI (remI k0 r0.W) r1.X) ≥ r0.W)) rfl (fun hg3 => ?_) (fun hg3 => ?_)
        · skip
          refine ql_s undef (by kernel_rfl) ?_
          refine ql_s undef (by kernel_rfl) ?_
          refine ql_s undef (by kernel_rfl) ?_
          refine ql_s undef (by kernel_rfl) ?_
          refine ql_s (.bool true) (by kernel_rfl) ?_
          refine ql_nil (e_cutq ?_)
          exact ⟨rfl, rfl, rfl, (congrArg Value.bool (by first | rfl | (rw [hg1, hg2, hg3]; rfl) | simp [hg1, hg2, hg3])), trivial⟩
        · skip
          refine ql_s (.int .i64 (addI (quoI k0 r0.W) r1.Y)) (by kernel_rfl) ?_
          refine ql_s (.pointer (some ⟨b2, 3, none⟩)) (by kernel_rfl) ?_
          refine ql_q rfl (qs_ldpt encV fitv3 rfl 0 rfl (.int .i64 r0.H) (Nat.le_of_ble_eq_true rfl) rfl) ?_
          refine ql_s (.bool (decide ((addI (quoI k0 r0.W) r1.Y) ≥ r0.H))) (by kernel_rfl) ?_
          refine ql_s (.bool (decide ((addI (quoI k0 r0.W) r1.Y) ≥ r0.H))) (by kernel_rfl) ?_
          refine ql_nil (e_cutq ?_)
          exact ⟨rfl, rfl, rfl, (congrArg Value.bool (by first | rfl | (rw [hg1, hg2, hg3]; rfl) | simp [hg1, hg2, hg3])), trivial⟩
  intro _
  refine e_then ?_
  refine c_cond (((decide ((addI (remI k0 r0.W) r1.X) < 0)) || ((decide ((addI (quoI k0 r0.W) r1.Y) < 0)) || ((decide ((addI (remI k0 r0.W) r1.X) ≥ r0.W)) || (decide ((addI (quoI k0 r0.W) r1.Y) ≥ r0.H)))))) rfl (fun ht1 => ?_) (fun ht1 => ?_)
  · skip
    replace hp := if_t ht1 hp
    refine c_seq ?_
    refine c_quiet ?_
    refine ql_s (.int .i64 0) (by kernel_rfl) ?_
    refine ql_s (.bool false) (by kernel_rfl) ?_
    refine ql_nil ?_
    refine e_drop ?_
    refine e_then ?_
    refine c_ret ?_
    refine e_then_ret ?_
    obtain rfl := Option.some.inj hp
    exact post_all (vs := [.int .i64 0, .bool false]) (.tuple #[.int .i64 0, .bool false]) ⟨rfl, rfl, trivial⟩ rfl (.inl rfl) (fun w hS => ⟨rfl, hS⟩)
  · skip
    replace hp := if_f ht1 hp
    refine c_skip ?_
    refine e_then ?_
    refine c_seq ?_
    refine c_quiet ?_
    refine ql_s (.int .i64 (addI (quoI k0 r0.W) r1.Y)) (by kernel_rfl) ?_
    refine ql_s (.pointer (some ⟨b2, 2, none⟩)) (by kernel_rfl) ?_
    refine ql_q rfl (qs_ldpt encV fitv3 rfl 0 rfl (.int .i64 r0.W) (Nat.le_of_ble_eq_true rfl) rfl) ?_
    refine ql_s (.int .i64 (mulI (addI (quoI k0 r0.W) r1.Y) r0.W)) (by kernel_rfl) ?_
    refine ql_s (.int .i64 (addI (remI k0 r0.W) r1.X)) (by kernel_rfl) ?_
    refine ql_s (.int .i64 (addI (mulI (addI (quoI k0 r0.W) r1.Y) r0.W) (addI (remI k0 r0.W) r1.X))) (by kernel_rfl) ?_
    refine ql_s (.int .i64 (addI (mulI (addI (quoI k0 r0.W) r1.Y) r0.W) (addI (remI k0 r0.W) r1.X))) (by kernel_rfl) ?_
    refine ql_s (.bool true) (by kernel_rfl) ?_
    refine ql_nil ?_
    refine e_drop ?_
    refine e_then ?_
    refine c_ret ?_
    obtain rfl := Option.some.inj hp
    exact post_all (vs := [.int .i64 (addI (mulI (addI (quoI k0 r0.W) r1.Y) r0.W) (addI (remI k0 r0.W) r1.X)), .bool true]) (.tuple #[.int .i64 (addI (mulI (addI (quoI k0 r0.W) r1.Y) r0.W) (addI (remI k0 r0.W) r1.X)), .bool true]) ⟨rfl, rfl, trivial⟩ rfl (.inl rfl) (fun w hS => ⟨rfl, hS⟩)

-- (*tarnfell/water.spills).Push
set_option maxRecDepth 100000 in
set_option maxHeartbeats 3000000 in
theorem water_spills_Push_s (b_s0 : Nat) (s0 : List S_water_spill) (s0_a : Option Addr) (s0_c : Nat) (x0 : S_water_spill) (D : PH)  (F : List Assert) (r : (List S_water_spill)) (hp : water_spills_Push_p s0 x0 = some r) : ∀ w : World, SInv D (pt b_s0 [.slice s0_a s0.length s0_c] 82 :: OwnS D encS_water_spill 85 (.slice s0_a s0.length s0_c) s0 :: F) w → Calls Tryd.prog 107 #[.pointer (some ⟨b_s0, 0, none⟩), .iface 85 (.agg #[.float .f32 x0.v, .int .i64 x0.k])] w (fun e w' => ∃ (D1 : PH) (q_a1 : Option Addr) (q_cp1 : Nat), PH.le D D1 ∧ e = .returned (.tuple #[]) ∧ SInv D1 (pt b_s0 [.slice q_a1 r.length q_cp1] 82 :: OwnS D1 encS_water_spill 85 (.slice q_a1 r.length q_cp1) r :: F) w') := by
  intro w hS
  refine call_intro Tryd.func107 rfl Tryd.ntmps107 (Nat.le_of_ble_eq_true rfl) hS ?_
  clear hS w
  unfold water_spills_Push_p at hp
  obtain ⟨l1, hl1, hp⟩ := bnd_some hp
  refine c_cut_end (fun φ1 D1 As1 => ∃ (a2 : Option Addr) (cp3 : Nat), Is φ1 [] ∧ D = D1 ∧ As1 = pt b_s0 [.slice a2 l1.length cp3] 82 :: OwnS D encS_water_spill 85 (.slice a2 l1.length cp3) l1 :: F) ?_ ?_
  · skip
    refine c_order (B := []) (.q 0 (.q 1 (.q 2 (.q 4 (.q 5 (.f 3 (.e 6 (.e 7 (.q 8 (.e 9 .nil)))) (.e 6 (.e 3 (.e 7 (.q 8 (.e 9 .nil))))))))))) hmix (by kernel_rfl) (NoPanic.then NoPanic.post) ?_
    refine o_s (.pointer (some ⟨b_s0, 0, none⟩)) rfl (by kernel_rfl) ?_
    refine o_s (.pointer (some ⟨b_s0, 0, none⟩)) rfl (by kernel_rfl) ?_
    refine o_s (.pointer (some ⟨b_s0, 0, none⟩)) rfl (by kernel_rfl) ?_
    refine o_s (.iface 85 (.agg #[.float .f32 x0.v, .int .i64 x0.k])) rfl (by kernel_rfl) ?_
    refine o_qs rfl rfl (qs_tyAs Tryd.underlying85 rfl rfl) ?_
    refine o_f ?_ ?_
    · skip
      refine o_qe rfl rfl (PH.le_refl _) (qs_ldpt encV fitv82 rfl 0 rfl (.slice s0_a s0.length s0_c) (Nat.le_of_ble_eq_true rfl) rfl) ?_
      refine o_bslS (cs := [.float .f32 x0.v, .int .i64 x0.k]) (E := 85) (e := encS_water_spill) ([x0] : List S_water_spill) rfl rfl (PH.le_refl _) (by kernel_rfl) rfl rfl (Nat.le_of_ble_eq_true rfl) ⟨rfl, trivial⟩ (fun b2 cp4 => ?_)
      refine o_perm (fr1_perm 2 _) ?_
      refine o_app hl1 rfl rfl (PH.le_refl _) elem82 Tryd.underlying82 rfl rfl rfl (OwnS.src 1 rfl ⟨_, _, rfl⟩) (fun a3 cp5 => ?_)
      refine o_s (.pointer (some ⟨b_s0, 0, none⟩)) rfl (by kernel_rfl) ?_
      refine o_perm (fr1_perm 2 _) ?_
      refine o_store (vs := [.slice a3 l1.length cp5]) (cs' := [.slice a3 l1.length cp5]) rfl rfl (PH.le_refl _) (by kernel_rfl) (by kernel_rfl) rfl rfl (Nat.le_of_ble_eq_true rfl) rfl rfl ?_
      refine o_nil ?_
      refine e_perm (fr1_perm 2 _) ?_
      refine e_drop ?_
      exact e_cut ⟨a3, cp5, trivial, rfl, rfl⟩
    refine o_bslS (cs := [.float .f32 x0.v, .int .i64 x0.k]) (E := 85) (e := encS_water_spill) ([x0] : List S_water_spill) rfl rfl (PH.le_refl _) (by kernel_rfl) rfl rfl (Nat.le_of_ble_eq_true rfl) ⟨rfl, trivial⟩ (fun b3 cp6 => ?_)
    refine o_qe rfl rfl (PH.le_refl _) (qs_ldpt encV fitv82 rfl 1 rfl (.slice s0_a s0.length s0_c) (Nat.le_of_ble_eq_true rfl) rfl) ?_
    refine o_perm (fr1_perm 2 _) ?_
    refine o_app hl1 rfl rfl (PH.le_refl _) elem82 Tryd.underlying82 rfl rfl rfl (OwnS.src 1 rfl ⟨_, _, rfl⟩) (fun a4 cp7 => ?_)
    refine o_s (.pointer (some ⟨b_s0, 0, none⟩)) rfl (by kernel_rfl) ?_
    refine o_perm (fr1_perm 2 _) ?_
    refine o_store (vs := [.slice a4 l1.length cp7]) (cs' := [.slice a4 l1.length cp7]) rfl rfl (PH.le_refl _) (by kernel_rfl) (by kernel_rfl) rfl rfl (Nat.le_of_ble_eq_true rfl) rfl rfl ?_
    refine o_nil ?_
    refine e_perm (fr1_perm 2 _) ?_
    refine e_drop ?_
    exact e_cut ⟨a4, cp7, trivial, rfl, rfl⟩
  · skip
    rintro φ1 _ As1 ⟨a2, cp3, hI1, rfl, hA⟩
    subst As1
    refine e_frame _ hI1 ?_
    obtain rfl := Option.some.inj hp
    exact post_all (vs := []) (.tuple #[]) trivial rfl (.inr rfl) (fun w hS => ⟨D, a2, cp3, (PH.le_refl _), rfl, hS⟩)

-- container/heap.up
set_option maxRecDepth 100000 in
set_option maxHeartbeats 3000000 in
theorem container_heap_up_s (b_h0 : Nat) (h0 : List S_water_spill) (h0_a : Option Addr) (h0_c : Nat) (j0 : Int) (D : PH)  (F : List Assert) (r : (List S_water_spill)) (hp : container_heap_up_p h0 j0 = some r) : ∀ w : World, SInv D (pt b_h0 [.slice h0_a h0.length h0_c] 82 :: OwnS D encS_water_spill 85 (.slice h0_a h0.length h0_c) h0 :: F) w → Calls Tryd.prog 60 #[.iface 87 (.pointer (some ⟨b_h0, 0, none⟩)), .int .i64 j0] w (fun e w' => ∃ (D1 : PH) , PH.le D D1 ∧ e = .returned (.tuple #[]) ∧ SInv D1 (pt b_h0 [.slice h0_a h0.length h0_c] 82 :: OwnS D1 encS_water_spill 85 (.slice h0_a h0.length h0_c) r :: F) w') := by
  intro w hS
  refine call_intro Tryd.func60 rfl Tryd.ntmps60 (Nat.le_of_ble_eq_true rfl) hS ?_
  clear hS w
  unfold container_heap_up_p at hp
  obtain ⟨x1, hs1, hp⟩ := bnd_some hp
  obtain ⟨body1, hbody1, hs1⟩ := loopP_gen hs1
  refine c_cut_end (fun φ1 D1 As1 => Is φ1 [] ∧ PH.le D D1 ∧ As1 = pt b_h0 [.slice h0_a h0.length h0_c] 82 :: OwnS D1 encS_water_spill 85 (.slice h0_a h0.length h0_c) x1 :: F) ?_ ?_
  · skip
    refine c_block ?_
    obtain ⟨kz1, hs1⟩ := loopP_ex hs1
    refine c_loop (fun k φ1 D2 As1 => ∃ (s1 : Int × (List S_water_spill)), Is φ1 [(0, .iface 87 (.pointer (some ⟨b_h0, 0, none⟩))), (1, .int .i64 s1.1)] ∧ PH.le D D2 ∧ As1 = pt b_h0 [.slice h0_a h0.length h0_c] 82 :: OwnS D2 encS_water_spill 85 (.slice h0_a h0.length h0_c) s1.2 :: F ∧ iter body1 k s1 = some x1) ⟨kz1, (j0, h0), ⟨rfl, rfl, trivial⟩, (PH.le_refl _), rfl, hs1⟩ ?_ ?_
    · rintro _ _ _ ⟨_, _, _, _, h0⟩; cases h0
    intro k1
    rintro φ1 D2 As1 ⟨s1, hI1, hD1, hA1, hs2⟩
    subst As1
    refine c_frame _ hI1 ?_
    obtain ⟨y1, hx1, hs2⟩ := iter_some hs2
    replace hx1 := (congrFun hbody1 s1).trans hx1
    refine c_block ?_
    refine c_seq ?_
    refine c_quiet ?_
    refine ql_s (.int .i64 s1.1) (by kernel_rfl) ?_
    refine ql_s (.int .i64 (subI s1.1 1)) (by kernel_rfl) ?_
    refine ql_q rfl (qs_idiv (r := quoI (subI s1.1 1) 2) (by decide) rfl rfl rfl) ?_
    refine ql_s (.int .i64 (quoI (subI s1.1 1) 2)) (by kernel_rfl) ?_
    refine ql_nil ?_
    refine e_then ?_
    refine c_seq ?_
    refine c_seq ?_
    refine c_perm (fr1_perm 1 _) ?_
    refine c_adr (fun b1 hb1 hl1 hbd1 hcap1 => ?_)
    obtain ⟨c1, hc1, hx1⟩ := bnd_some hx1
    refine c_cutq_end [(0, .iface 87 (.pointer (some ⟨b_h0, 0, none⟩))), (1, .int .i64 s1.1), (4, .int .i64 (quoI (subI s1.1 1) 2)), (17, .bool c1)] ?_ ?_
    · skip
      refine c_quiet ?_
      refine ql_s (.int .i64 (quoI (subI s1.1 1) 2)) (by kernel_rfl) ?_
      refine ql_s (.int .i64 s1.1) (by kernel_rfl) ?_
      refine ql_s (.bool ((quoI (subI s1.1 1) 2) == s1.1)) (by kernel_rfl) ?_
      refine ql_s (.bool ((quoI (subI s1.1 1) 2) == s1.1)) (by kernel_rfl) ?_
      refine ql_case 11 (((quoI (subI s1.1 1) 2) == s1.1)) rfl (fun hg1 => ?_) (fun hg1 => ?_)
      · skip
        replace hc1 := if_t hg1 hc1
        refine ql_s undef (by kernel_rfl) ?_
        refine ql_s undef (by kernel_rfl) ?_
        refine ql_s undef (by kernel_rfl) ?_
        refine ql_s undef (by kernel_rfl) ?_
        refine ql_s undef (by kernel_rfl) ?_
        refine ql_s (.bool true) (by kernel_rfl) ?_
        refine ql_nil (e_cutq ?_)
        obtain rfl := Option.some.inj hc1
        exact ⟨rfl, rfl, rfl, rfl, trivial⟩
      · skip
        replace hc1 := if_f hg1 hc1
        refine ql_s (.iface 87 (.pointer (some ⟨b_h0, 0, none⟩))) (by kernel_rfl) ?_
        refine ql_s (.int .i64 s1.1) (by kernel_rfl) ?_
        refine ql_s (.int .i64 (quoI (subI s1.1 1) 2)) (by kernel_rfl) ?_
        obtain ⟨r1, hr1, hc1⟩ := bnd_some hc1
        refine ql_ent (v := .bool r1) rfl (ent_methD encV (vs := [.slice h0_a h0.length h0_c, .int .i64 s1.1, .int .i64 (quoI (subI s1.1 1) 2)]) rfl (by kernel_rfl) Tryd.underlying87 Tryd.call104 fitv82 1 rfl (.slice h0_a h0.length h0_c) (Nat.le_of_ble_eq_true rfl) rfl rfl) (fun w hS => (calls_thaw (PH.le_refl _) (hS) (fun D0' hLl0 hLr0 hS => (show Calls Tryd.prog 104 #[.slice h0_a h0.length h0_c, .int .i64 s1.1, .int .i64 (quoI (subI s1.1 1) 2)] w (fun e w' => e = .returned (.bool r1) ∧ SInv D0' (pt b_h0 [.slice h0_a h0.length h0_c] 82 :: F) w') from by have hq := water_spills_Less_s s1.2 h0_a h0_c s1.1 (quoI (subI s1.1 1) 2) _ (by rw [hl1]; exact hLr0) _ _ hr1 w (show SInv D0' (pt b_h0 [.slice h0_a s1.2.length h0_c] 82 :: F) w from by have h2 : SInv D0' (pt b_h0 [.slice h0_a h0.length h0_c] 82 :: F) w := hS; rw [← hl1] at h2; exact h2); (try simp only [hl1] at hq); exact hq).mono fun e w' h => ⟨h.1, h.2⟩)).mono fun e w' h => ⟨h.1, h.2⟩) ?_
        refine ql_s (.bool (!r1)) (by kernel_rfl) ?_
        refine ql_s (.bool (!r1)) (by kernel_rfl) ?_
        refine ql_nil (e_cutq ?_)
        obtain rfl := Option.some.inj hc1
        exact ⟨rfl, rfl, rfl, rfl, trivial⟩
    intro _
    refine e_then ?_
    refine c_cond (c1) rfl (fun ht1 => ?_) (fun ht1 => ?_)
    · skip
      replace hx1 := if_t ht1 hx1
      refine c_exit ?_
      refine e_then_exit ?_
      refine e_blk_other (by decide) ?_
      refine e_then_exit ?_
      obtain rfl := Option.some.inj hx1
      obtain rfl := hs2
      refine e_blk_exit ?_
      refine e_perm (fr1_perm 1 _) ?_
      exact e_cut ⟨trivial, hD1, rfl⟩
    · skip
      replace hx1 := if_f ht1 hx1
      refine c_skip ?_
      refine e_then ?_
      refine c_seq ?_
      obtain ⟨r2, hr2, hx1⟩ := bnd_some hx1
      refine c_region ?_
      refine l_s (.iface 87 (.pointer (some ⟨b_h0, 0, none⟩))) (by kernel_rfl) ?_
      refine l_s (.int .i64 (quoI (subI s1.1 1) 2)) (by kernel_rfl) ?_
      refine l_s (.int .i64 s1.1) (by kernel_rfl) ?_
      refine l_ent rfl (ent_methD encV (vs := [.slice h0_a h0.length h0_c, .int .i64 (quoI (subI s1.1 1) 2), .int .i64 s1.1]) rfl (by kernel_rfl) Tryd.underlying87 Tryd.call105 fitv82 1 rfl (.slice h0_a h0.length h0_c) (Nat.le_of_ble_eq_true rfl) rfl rfl) (fun v D4 As3 => PH.le D2 D4 ∧ v = .tuple #[] ∧ As3 = OwnS D4 encS_water_spill 85 (.slice h0_a h0.length h0_c) r2 :: pt b_h0 [.slice h0_a h0.length h0_c] 82 :: F) (fun w hS => (show Calls Tryd.prog 105 #[.slice h0_a h0.length h0_c, .int .i64 (quoI (subI s1.1 1) 2), .int .i64 s1.1] w (fun e w' => ∃ (D4 : PH) , PH.le D2 D4 ∧ e = .returned (.tuple #[]) ∧ SInv D4 (OwnS D4 encS_water_spill 85 (.slice h0_a h0.length h0_c) r2 :: pt b_h0 [.slice h0_a h0.length h0_c] 82 :: F) w') from by have hq := water_spills_Swap_s s1.2 h0_a h0_c (quoI (subI s1.1 1) 2) s1.1 _  _ _ hr2 w (show SInv D2 (OwnS D2 encS_water_spill 85 (.slice h0_a s1.2.length h0_c) s1.2 :: pt b_h0 [.slice h0_a s1.2.length h0_c] 82 :: F) w from by have h2 : SInv D2 (OwnS D2 encS_water_spill 85 (.slice h0_a h0.length h0_c) s1.2 :: pt b_h0 [.slice h0_a h0.length h0_c] 82 :: F) w := hS; rw [← hl1] at h2; exact h2); (try simp only [hl1] at hq); exact hq).mono fun e w' ⟨D4, hle2, he, hS2⟩ => ⟨_, D4, _, he, ⟨hle2, rfl, rfl⟩, hS2⟩) ?_
      rintro _ D4 As3 ⟨hle2, rfl, hA3⟩
      subst As3
      refine l_nil ?_
      refine e_then ?_
      refine c_quiet ?_
      refine ql_s (.int .i64 (quoI (subI s1.1 1) 2)) (by kernel_rfl) ?_
      refine ql_s (.int .i64 (quoI (subI s1.1 1) 2)) (by kernel_rfl) ?_
      refine ql_nil ?_
      refine e_blk ?_
      refine e_perm (fr1_perm 1 _) ?_
      obtain rfl := Option.some.inj hx1
      exact e_cut ⟨(quoI (subI s1.1 1) 2, r2), ⟨rfl, rfl, trivial⟩, (PH.le_trans hD1 hle2), rfl, hs2⟩
  · skip
    rintro φ2 D1 As4 ⟨hI2, hD2, hA4⟩
    subst As4
    refine e_frame _ hI2 ?_
    obtain rfl := Option.some.inj hp
    exact post_all (vs := []) (.tuple #[]) trivial rfl (.inr rfl) (fun w hS => ⟨D1, hD2, rfl, hS⟩)

-- container/heap.Push
set_option maxRecDepth 100000 in
set_option maxHeartbeats 3000000 in
theorem container_heap_Push_s (b_h0 : Nat) (h0 : List S_water_spill) (h0_a : Option Addr) (h0_c : Nat) (x0 : S_water_spill) (D : PH)  (F : List Assert) (r : (List S_water_spill)) (hp : container_heap_Push_p h0 x0 = some r) : ∀ w : World, SInv D (pt b_h0 [.slice h0_a h0.length h0_c] 82 :: OwnS D encS_water_spill 85 (.slice h0_a h0.length h0_c) h0 :: F) w → Calls Tryd.prog 47 #[.iface 87 (.pointer (some ⟨b_h0, 0, none⟩)), .iface 85 (.agg #[.float .f32 x0.v, .int .i64 x0.k])] w (fun e w' => ∃ (D1 : PH) (q_a1 : Option Addr) (q_cp1 : Nat), PH.le D D1 ∧ e = .returned (.tuple #[]) ∧ SInv D1 (pt b_h0 [.slice q_a1 r.length q_cp1] 82 :: OwnS D1 encS_water_spill 85 (.slice q_a1 r.length q_cp1) r :: F) w') := by
  intro w hS
  refine call_intro Tryd.func47 rfl Tryd.ntmps47 (Nat.le_of_ble_eq_true rfl) hS ?_
  clear hS w
  unfold container_heap_Push_p at hp
  refine c_seq ?_
  obtain ⟨r1, hr1, hp⟩ := bnd_some hp
  refine c_region ?_
  refine l_s (.iface 87 (.pointer (some ⟨b_h0, 0, none⟩))) (by kernel_rfl) ?_
  refine l_s (.iface 85 (.agg #[.float .f32 x0.v, .int .i64 x0.k])) (by kernel_rfl) ?_
  refine l_ent rfl (ent_methP (vs := [.pointer (some ⟨b_h0, 0, none⟩), .iface 85 (.agg #[.float .f32 x0.v, .int .i64 x0.k])]) rfl (by kernel_rfl) Tryd.underlying87 Tryd.call107 rfl) (fun v D2 As2 => ∃ (a2 : Option Addr) (cp2 : Nat), PH.le D D2 ∧ v = .tuple #[] ∧ As2 = pt b_h0 [.slice a2 r1.length cp2] 82 :: OwnS D2 encS_water_spill 85 (.slice a2 r1.length cp2) r1 :: F) (fun w hS => (water_spills_Push_s b_h0 h0 h0_a h0_c x0 _  _ _ hr1 w (hS)).mono fun e w' ⟨D2, a2, cp2, hle2, he, hS2⟩ => ⟨_, D2, _, he, ⟨a2, cp2, hle2, rfl, rfl⟩, hS2⟩) ?_
  rintro _ D2 As2 ⟨a2, cp2, hle2, rfl, hA2⟩
  subst As2
  refine l_nil ?_
  refine e_then ?_
  obtain ⟨r2, hr2, hp⟩ := bnd_some hp
  obtain ⟨r3, hr3, hp⟩ := bnd_some hp
  refine c_region ?_
  refine l_s (.iface 87 (.pointer (some ⟨b_h0, 0, none⟩))) (by kernel_rfl) ?_
  refine l_s (.iface 87 (.pointer (some ⟨b_h0, 0, none⟩))) (by kernel_rfl) ?_
  refine l_entq (v := .int .i64 r2) rfl (ent_methD encV (vs := [.slice a2 r1.length cp2]) rfl (by kernel_rfl) Tryd.underlying87 Tryd.call103 fitv82 0 rfl (.slice a2 r1.length cp2) (Nat.le_of_ble_eq_true rfl) rfl rfl) (fun w hS => (calls_thaw (PH.le_refl _) (hS.perm (fr1_perm 1 _)) (fun D0' hLl0 hLr0 hS => (water_spills_Len_s r1 a2 cp2 _ hLr0 _ _ hr2 w (hS)).mono fun e w' h => ⟨h.1, h.2⟩)).mono fun e w' h => ⟨h.1, SInv.unfr 1 h.2⟩) ?_
  refine l_s (.int .i64 (subI r2 1)) (by kernel_rfl) ?_
  refine l_call rfl rfl Tryd.call60 (vs := [.iface 87 (.pointer (some ⟨b_h0, 0, none⟩)), .int .i64 (subI r2 1)]) rfl (fun v D4 As4 => PH.le D2 D4 ∧ v = .tuple #[] ∧ As4 = pt b_h0 [.slice a2 r1.length cp2] 82 :: OwnS D4 encS_water_spill 85 (.slice a2 r1.length cp2) r3 :: F) (fun w hS => (container_heap_up_s b_h0 r1 a2 cp2 (subI r2 1) _  _ _ hr3 w (hS)).mono fun e w' ⟨D4, hle4, he, hS2⟩ => ⟨_, D4, _, he, ⟨hle4, rfl, rfl⟩, hS2⟩) ?_
  rintro _ D4 As4 ⟨hle4, rfl, hA4⟩
  subst As4
  refine l_nil ?_
  obtain rfl := Option.some.inj hp
  refine e_perm (fr1_perm 1 _) ?_
  refine e_adr (fun b1 hb1 hl1 hbd1 hcap1 => ?_)
  refine e_perm (fr1_perm 1 _) ?_
  exact post_all (vs := []) (.tuple #[]) trivial rfl (.inr rfl) (fun w hS => ⟨D4, a2, cp2, (PH.le_trans hle2 hle4), (by simp only [hl1]), (by have h2 : SInv D4 (pt b_h0 [.slice a2 r1.length cp2] 82 :: OwnS D4 encS_water_spill 85 (.slice a2 r1.length cp2) r3 :: F) w := hS; simpa only [hl1] using h2)⟩)

end Go.Proofs.YteebpnooijknoaaDoor
