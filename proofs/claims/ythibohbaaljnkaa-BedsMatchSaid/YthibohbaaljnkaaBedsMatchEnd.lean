/- BedsMatch: for every input that can be read the law returns true, and leaves memory as it was. No condition. -/
import Derived.Test.YthibohbaaljnkaaRows
import Derived.Test.YthibohbaaljnkaaFn3
import Derived.Test.YthibohbaaljnkaaBedsPlain4
import Derived.Test.YthibohbaaljnkaaOp
namespace Go.Proofs.Ythibohbaaljnkaa
open Go Sx Go.ChangeShapes Go.WideShapes Go.RowKit
set_option linter.all false
namespace BedsMatch
theorem own : ownKnob Try.prog.godebug = none := by kernel_rfl
theorem laidOut : laidOutB Try.prog = true := by kernel_rfl
set_option maxRecDepth 100000 in
set_option maxHeartbeats 1000000 in
theorem lifted (os : Os) (started : os.Started) (H : Type) (enc : TypeId × Value → H) :
    ReturnsInHanded {} Try.checked os 4 .any (Rows.bedsMatchSpec.pre6 enc Try.prog Try.f4 Rows.bedsMatchRow.domain false) (Rows.bedsMatchSpec.post enc Try.prog Try.f4 false true false false) := by
  refine returnsInHanded_of_change_sized (C := Try.checked) own started (by kernel_rfl) Try.func4
    (ChangeSpec.witness6 (enc := enc) (C := Try.checked) false ⟨#[], #[.agg #[.int .i64 0, .int .i64 0, .int .i64 0, .int .i64 0, .slice none 0 0], .slice none 0 0, .int .i64 0, .float .f32 0], []⟩ 8 (by kernel_rfl) (by kernel_rfl) (by kernel_rfl) (by kernel_rfl)) ?_
  intro W base args ds gs before hval0 hW _ hz0 _
  have hval : ∀ (j : Nat) t v, Try.f4.params[j]? = some t → args[j]? = some v → Value.okWide Try.prog W .any base t v := hval0
  have hW0 := hW
  obtain ⟨p, q, hA0, hV, _, _, _⟩ := hW
  have hA : DataW.TrodAll enc Try.prog W 0 (fun _ => true) true Try.f4.params.toList args.toList ds p := hA0
  obtain ⟨rfl, rfl⟩ := trodVars_none hV
  rw [Try.params4] at hA hval
  have hz : ∀ n ∈ DataW.weightsEach Try.prog [26, 27, 3, 40] ds, n ≤ rB := by
    have h1 : (DataW.weightsEach Try.prog (Try.f4.params.toList ++ []) (ds ++ [])).all (· ≤ reachBytes) = true := hz0
    rw [Try.params4] at h1
    intro n hn
    exact of_decide_eq_true (List.all_eq_true.1 h1 n (by simpa using hn))
  generalize hargs : args.toList = vs at hA
  obtain ⟨v0, vs, d0, dr0, p0, p, rfl, rfl, rfl, t0, hA⟩ := trodAll_cons hA
  obtain ⟨v1, vs, d1, dr1, p1, p, rfl, rfl, rfl, t1, hA⟩ := trodAll_cons hA
  obtain ⟨v2, vs, d2, dr2, p2, p, rfl, rfl, rfl, t2, hA⟩ := trodAll_cons hA
  obtain ⟨v3, vs, d3, dr3, p3, p, rfl, rfl, rfl, t3, hA⟩ := trodAll_cons hA
  have hvs : vs = [] := by cases vs <;> simp_all [DataW.TrodAll]
  have hds : dr3 = [] := by cases dr3 <;> simp_all [DataW.TrodAll]
  subst hvs; subst hds
  obtain rfl : args = #[v0, v1, v2, v3] := Array.ext' (by simpa using hargs)
  simp only [DataW.weightsEach, List.append_nil, List.mem_append] at hz
  obtain ⟨a, r0, w0⟩ := open_arg opn_S_api_Field t0 (fun n hn => hz n (.inl hn))
  obtain ⟨cs0, rfl, _⟩ := okWide_struct Try.underlying26 (hval 0 26 v0 rfl rfl)
  obtain ⟨x0_4, q0, s0_4⟩ := r0
  obtain ⟨a0_4, c0_4, rfl⟩ := s0_4.len
  obtain rfl : cs0 = #[.int .i64 a.Region.X, .int .i64 a.Region.Y, .int .i64 a.Region.W, .int .i64 a.Region.H, .slice a0_4 a.V.length c0_4] := Array.ext' q0
  obtain ⟨b, r1, w1⟩ := open_arg (opn_slice (sz := 16) Try.underlying27 (by kernel_rfl) (by kernel_rfl) (by decide) opn_S_api_Point) t1 (fun n hn => hz n (.inr (.inl hn)))
  obtain ⟨a1, l1, c1, rfl⟩ := okWide_slice Try.underlying27 (hval 1 27 v1 rfl rfl)
  obtain ⟨x1, q1, s1⟩ := r1
  obtain ⟨a1', c1', rfl⟩ := s1.len
  have q1' : (.slice a1 l1 c1 : Value) = .slice a1' b.length c1' := by simpa [Value.cells] using q1
  injection q1' with z1 z2 z3
  subst z1; subst z2; subst z3
  obtain ⟨c, r2, w2⟩ := open_arg (opn_int Try.underlying3) t2 (fun n hn => hz n (.inr (.inr (.inl hn))))
  obtain ⟨n2, rfl⟩ := okWide_int Try.underlying3 (hval 2 3 v2 rfl rfl)
  obtain rfl : n2 = c := by have q := r2; simpa [Value.cells, encI, encF, encB] using q
  obtain ⟨d, r3, w3⟩ := open_arg (opn_float Try.underlying40) t3 (fun n hn => hz n (.inr (.inr (.inr hn))))
  obtain ⟨n3, rfl⟩ := okw_float Try.underlying40 (hval 3 40 v3 rfl rfl)
  obtain rfl : n3 = d := by have q := r3; simpa [Value.cells, encI, encF, encB] using q
  have hp := plain a b n2 n3 w0 w1 w2 w3
  refine (@tarnlaw2_BedsMatch_s ⟨W.os, W.output⟩ a a0_4 c0_4 b a1 c1 n2 n3 (HD W) s0_4 s1 [] true hp W (sx_start (wb := ⟨W.os, W.output⟩) W rfl)).mono ?_
  rintro e W' ⟨rfl, hS⟩
  refine ⟨_, rfl, said_post (t := 4) laidOut ?_ (by kernel_rfl) Try.underlying4 hW0 rfl rfl rfl rfl hS⟩
  rw [Try.params4]
  intro u hu
  simp only [List.mem_cons, List.not_mem_nil, or_false] at hu
  rcases hu with rfl | rfl | rfl | rfl <;> exact ⟨by kernel_rfl, of_decide_eq_true (by kernel_rfl)⟩

theorem holds : Rows.BedsMatchSaid :=
  OpenClaim.holds_of_wide 4 Try.f4 rfl rfl rfl rfl rfl rfl rfl ⟨rfl, rfl, rfl, rfl, rfl⟩ rfl rfl rfl rfl rfl (by kernel_rfl) Try.func4 (by kernel_rfl)
    (of_decide_eq_true (by kernel_rfl)) (by unfold Func.isWrapper; first | (rw [if_pos (by decide +kernel)]; kernel_rfl) | (rw [if_neg (by decide +kernel)]; exact ⟨rfl, rfl⟩))
    (fun os started H enc _ => lifted os started H enc)
end BedsMatch
theorem bedsMatch_holds : Rows.BedsMatchSaid := BedsMatch.holds
end Go.Proofs.Ythibohbaaljnkaa
