/- Own text, by program: what arguments that are read are like. -/
import Derived.Test.YthibohbaaljnkaaTy
import Derived.Test.YthibohbaaljnkaaSxSaid
namespace Go.Proofs.Ythibohbaaljnkaa
open Go Sx Go.ChangeShapes Go.WideShapes Go.RowKit
set_option linter.all false

def wfS_api_Region (x : S_api_Region) : Prop := (InK .i64) x.X ∧ (InK .i64) x.Y ∧ (InK .i64) x.W ∧ (InK .i64) x.H
def wfS_api_Field (x : S_api_Field) : Prop := wfS_api_Region x.Region ∧ (InL (InF .f32) 4) x.V
def wfS_api_Point (x : S_api_Point) : Prop := (InK .i64) x.X ∧ (InK .i64) x.Y

theorem opn_S_api_Region : Opn Try.prog 23 encS_api_Region wfS_api_Region := by
  intro H enc w base spare held fuel cs x h hw
  obtain ⟨hl, hf⟩ := opn_struct Try.underlying23 h hw
  have hl0 : cs.length = 4 := hl.trans (by kernel_rfl)
  obtain ⟨c0, t0, rfl, hl1⟩ := len2 hl0
  obtain ⟨c1, t1, rfl, hl2⟩ := len2 hl1
  obtain ⟨c2, t2, rfl, hl3⟩ := len2 hl2
  obtain ⟨c3, rfl⟩ := len1 hl3
  obtain ⟨y0, r0, v0⟩ := opn_field (opn_int Try.underlying3) hf 0 [c0] (by kernel_rfl)
  have q0 : ([c0] : List Value) = [.int .i64 y0] := r0
  simp only [List.cons.injEq, and_true] at q0
  obtain rfl := q0
  obtain ⟨y1, r1, v1⟩ := opn_field (opn_int Try.underlying3) hf 1 [c1] (by kernel_rfl)
  have q1 : ([c1] : List Value) = [.int .i64 y1] := r1
  simp only [List.cons.injEq, and_true] at q1
  obtain rfl := q1
  obtain ⟨y2, r2, v2⟩ := opn_field (opn_int Try.underlying3) hf 2 [c2] (by kernel_rfl)
  have q2 : ([c2] : List Value) = [.int .i64 y2] := r2
  simp only [List.cons.injEq, and_true] at q2
  obtain rfl := q2
  obtain ⟨y3, r3, v3⟩ := opn_field (opn_int Try.underlying3) hf 3 [c3] (by kernel_rfl)
  have q3 : ([c3] : List Value) = [.int .i64 y3] := r3
  simp only [List.cons.injEq, and_true] at q3
  obtain rfl := q3
  exact ⟨⟨y0, y1, y2, y3⟩, rfl, v0, v1, v2, v3⟩
theorem opn_S_api_Field : Opn Try.prog 26 encS_api_Field wfS_api_Field := by
  intro H enc w base spare held fuel cs x h hw
  obtain ⟨hl, hf⟩ := opn_struct Try.underlying26 h hw
  have hl0 : cs.length = 5 := hl.trans (by kernel_rfl)
  obtain ⟨c0, t0, rfl, hl1⟩ := len2 hl0
  obtain ⟨c1, t1, rfl, hl2⟩ := len2 hl1
  obtain ⟨c2, t2, rfl, hl3⟩ := len2 hl2
  obtain ⟨c3, t3, rfl, hl4⟩ := len2 hl3
  obtain ⟨c4, rfl⟩ := len1 hl4
  obtain ⟨y0, r0, v0⟩ := opn_field opn_S_api_Region hf 0 [c0, c1, c2, c3] (by kernel_rfl)
  have q0 : ([c0, c1, c2, c3] : List Value) = [.int .i64 y0.X, .int .i64 y0.Y, .int .i64 y0.W, .int .i64 y0.H] := r0
  simp only [List.cons.injEq, and_true] at q0
  obtain ⟨rfl, rfl, rfl, rfl⟩ := q0
  obtain ⟨y1, r1, v1⟩ := opn_field (opn_slice (sz := 4) Try.underlying24 (by kernel_rfl) (by kernel_rfl) (by decide) (opn_float Try.underlying40)) hf 1 [c4] (by kernel_rfl)
  obtain ⟨w1_0, q1, s1_0⟩ := r1
  have q1 : ([c4] : List Value) = [w1_0] := q1
  simp only [List.cons.injEq, and_true] at q1
  obtain rfl := q1
  exact ⟨⟨y0, y1⟩, ⟨_, rfl, s1_0⟩, v0, v1⟩
theorem opn_S_api_Point : Opn Try.prog 71 encS_api_Point wfS_api_Point := by
  intro H enc w base spare held fuel cs x h hw
  obtain ⟨hl, hf⟩ := opn_struct Try.underlying71 h hw
  have hl0 : cs.length = 2 := hl.trans (by kernel_rfl)
  obtain ⟨c0, t0, rfl, hl1⟩ := len2 hl0
  obtain ⟨c1, rfl⟩ := len1 hl1
  obtain ⟨y0, r0, v0⟩ := opn_field (opn_int Try.underlying3) hf 0 [c0] (by kernel_rfl)
  have q0 : ([c0] : List Value) = [.int .i64 y0] := r0
  simp only [List.cons.injEq, and_true] at q0
  obtain rfl := q0
  obtain ⟨y1, r1, v1⟩ := opn_field (opn_int Try.underlying3) hf 1 [c1] (by kernel_rfl)
  have q1 : ([c1] : List Value) = [.int .i64 y1] := r1
  simp only [List.cons.injEq, and_true] at q1
  obtain rfl := q1
  exact ⟨⟨y0, y1⟩, rfl, v0, v1⟩
end Go.Proofs.Ythibohbaaljnkaa
