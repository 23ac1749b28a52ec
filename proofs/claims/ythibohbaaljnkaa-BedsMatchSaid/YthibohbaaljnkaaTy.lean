/- Own text, by program: how the types of this program lie in memory. -/
import Derived.Test.YthibohbaaljnkaaProg
import Derived.Test.YthibohbaaljnkaaSxIface
import Derived.KernelRfl
namespace Go.Proofs.Ythibohbaaljnkaa
open Sx
set_option linter.all false

structure S_api_Region where
  X : Int
  Y : Int
  W : Int
  H : Int

def encS_api_Region : Enc S_api_Region := { sz := 4, agg := true, rep := fun _ cs x => cs = [.int .i64 x.X, .int .i64 x.Y, .int .i64 x.W, .int .i64 x.H], len := fun h => by rw [h]; rfl, pos := by decide, mono := fun _ h => h, one := fun h => (by cases h), ocs := fun h => by rw [h]; rfl }

structure S_api_Field where
  Region : S_api_Region
  V : List Nat

def encS_api_Field : Enc S_api_Field := { sz := 5, agg := true, rep := fun D cs x => ∃ v4 : Value, cs = [.int .i64 x.Region.X, .int .i64 x.Region.Y, .int .i64 x.Region.W, .int .i64 x.Region.H, v4] ∧ RO (encF .f32) D v4 x.V, len := fun ⟨v4, h, r0⟩ => by rw [h]; rfl, pos := by decide, mono := fun hle ⟨v4, h, r0⟩ => ⟨v4, h, r0.mono hle⟩, one := fun h => (by cases h), ocs := fun ⟨v4, h, r0⟩ => by obtain ⟨a0, c0, e0, _⟩ := r0; rw [h, e0]; rfl }

structure S_api_Point where
  X : Int
  Y : Int

def encS_api_Point : Enc S_api_Point := { sz := 2, agg := true, rep := fun _ cs x => cs = [.int .i64 x.X, .int .i64 x.Y], len := fun h => by rw [h]; rfl, pos := by decide, mono := fun _ h => h, one := fun h => (by cases h), ocs := fun h => by rw [h]; rfl }

structure S_api_RoadRules where
  Grade : Nat
  Weight : Nat
  Bridge : Nat
  Dear : Nat
  Span : Int
  Costly : List S_api_Field

def encS_api_RoadRules : Enc S_api_RoadRules := { sz := 6, agg := true, rep := fun D cs x => ∃ v5 : Value, cs = [.float .f32 x.Grade, .float .f32 x.Weight, .float .f32 x.Bridge, .float .f32 x.Dear, .int .i64 x.Span, v5] ∧ RO encS_api_Field D v5 x.Costly, len := fun ⟨v5, h, r0⟩ => by rw [h]; rfl, pos := by decide, mono := fun hle ⟨v5, h, r0⟩ => ⟨v5, h, r0.mono hle⟩, one := fun h => (by cases h), ocs := fun ⟨v5, h, r0⟩ => by obtain ⟨a0, c0, e0, _⟩ := r0; rw [h, e0]; rfl }

structure S_road_ground where
  f : S_api_Field
  s : S_api_RoadRules

def encS_road_ground : Enc S_road_ground := { sz := 11, agg := true, rep := fun D cs x => ∃ v4 v10 : Value, cs = [.int .i64 x.f.Region.X, .int .i64 x.f.Region.Y, .int .i64 x.f.Region.W, .int .i64 x.f.Region.H, v4, .float .f32 x.s.Grade, .float .f32 x.s.Weight, .float .f32 x.s.Bridge, .float .f32 x.s.Dear, .int .i64 x.s.Span, v10] ∧ RO (encF .f32) D v4 x.f.V ∧ RO encS_api_Field D v10 x.s.Costly, len := fun ⟨v4, v10, h, r0, r1⟩ => by rw [h]; rfl, pos := by decide, mono := fun hle ⟨v4, v10, h, r0, r1⟩ => ⟨v4, v10, h, r0.mono hle, r1.mono hle⟩, one := fun h => (by cases h), ocs := fun ⟨v4, v10, h, r0, r1⟩ => by obtain ⟨a0, c0, e0, _⟩ := r0; obtain ⟨a1, c1, e1, _⟩ := r1; rw [h, e0, e1]; rfl }

structure S_road_reached where
  price : Nat
  k : Int

def encS_road_reached : Enc S_road_reached := { sz := 2, agg := true, rep := fun _ cs x => cs = [.float .f32 x.price, .int .i64 x.k], len := fun h => by rw [h]; rfl, pos := by decide, mono := fun _ h => h, one := fun h => (by cases h), ocs := fun h => by rw [h]; rfl }

structure S_road_prices where
  from0 : Int
  price : List Nat
  ok : List Bool

def encS_road_prices : Enc S_road_prices := { sz := 3, agg := true, rep := fun D cs x => ∃ v1 v2 : Value, cs = [.int .i64 x.from0, v1, v2] ∧ RO (encF .f32) D v1 x.price ∧ RO encB D v2 x.ok, len := fun ⟨v1, v2, h, r0, r1⟩ => by rw [h]; rfl, pos := by decide, mono := fun hle ⟨v1, v2, h, r0, r1⟩ => ⟨v1, v2, h, r0.mono hle, r1.mono hle⟩, one := fun h => (by cases h), ocs := fun ⟨v1, v2, h, r0, r1⟩ => by obtain ⟨a0, c0, e0, _⟩ := r0; obtain ⟨a1, c1, e1, _⟩ := r1; rw [h, e0, e1]; rfl }

theorem hmix : Try.prog.follows .mixedOrders = true := by kernel_rfl
theorem fit3 : Fits Try.prog 3 (encI .i64) := ⟨by kernel_rfl, by kernel_rfl, _, Try.underlying3, rfl⟩
theorem fit4 : Fits Try.prog 4 (encB) := ⟨by kernel_rfl, by kernel_rfl, _, Try.underlying4, rfl⟩
theorem fit26 : Fits Try.prog 26 (encS_api_Field) := ⟨by kernel_rfl, by kernel_rfl, _, Try.underlying26, rfl⟩
theorem fit28 : Fits Try.prog 28 (encI .i64) := ⟨by kernel_rfl, by kernel_rfl, _, Try.underlying28, rfl⟩
theorem fit40 : Fits Try.prog 40 (encF .f32) := ⟨by kernel_rfl, by kernel_rfl, _, Try.underlying40, rfl⟩
theorem fit71 : Fits Try.prog 71 (encS_api_Point) := ⟨by kernel_rfl, by kernel_rfl, _, Try.underlying71, rfl⟩
theorem fit152 : Fits Try.prog 152 (encS_road_reached) := ⟨by kernel_rfl, by kernel_rfl, _, Try.underlying152, rfl⟩
theorem fitv3 : Fits Try.prog 3 (encV) := ⟨by kernel_rfl, by kernel_rfl, _, Try.underlying3, rfl⟩
theorem fitv23 : Fits Try.prog 23 (encW 4 (by decide)) := ⟨by kernel_rfl, by kernel_rfl, _, Try.underlying23, rfl⟩
theorem fitv24 : Fits Try.prog 24 (encV) := ⟨by kernel_rfl, by kernel_rfl, _, Try.underlying24, rfl⟩
theorem fitv26 : Fits Try.prog 26 (encW 5 (by decide)) := ⟨by kernel_rfl, by kernel_rfl, _, Try.underlying26, rfl⟩
theorem fitv40 : Fits Try.prog 40 (encV) := ⟨by kernel_rfl, by kernel_rfl, _, Try.underlying40, rfl⟩
theorem fitv55 : Fits Try.prog 55 (encV) := ⟨by kernel_rfl, by kernel_rfl, _, Try.underlying55, rfl⟩
theorem fitv57 : Fits Try.prog 57 (encW 6 (by decide)) := ⟨by kernel_rfl, by kernel_rfl, _, Try.underlying57, rfl⟩
theorem fitv65 : Fits Try.prog 65 (encV) := ⟨by kernel_rfl, by kernel_rfl, _, Try.underlying65, rfl⟩
theorem fitv71 : Fits Try.prog 71 (encW 2 (by decide)) := ⟨by kernel_rfl, by kernel_rfl, _, Try.underlying71, rfl⟩
theorem fitv75 : Fits Try.prog 75 (encV) := ⟨by kernel_rfl, by kernel_rfl, _, Try.underlying75, rfl⟩
theorem fitv113 : Fits Try.prog 113 (encW 3 (by decide)) := ⟨by kernel_rfl, by kernel_rfl, _, Try.underlying113, rfl⟩
theorem fitv119 : Fits Try.prog 119 (encW 11 (by decide)) := ⟨by kernel_rfl, by kernel_rfl, _, Try.underlying119, rfl⟩
theorem fitv152 : Fits Try.prog 152 (encW 2 (by decide)) := ⟨by kernel_rfl, by kernel_rfl, _, Try.underlying152, rfl⟩
theorem fitv154 : Fits Try.prog 154 (encV) := ⟨by kernel_rfl, by kernel_rfl, _, Try.underlying154, rfl⟩
theorem elem24 : Elem Try.prog 24 40 (encF .f32) := ⟨Try.underlying24, fit40, of_decide_eq_true (by kernel_rfl), of_decide_eq_true (by kernel_rfl), [.float .f32 0], by kernel_rfl, rfl⟩
theorem elem27 : Elem Try.prog 27 71 (encS_api_Point) := ⟨Try.underlying27, fit71, of_decide_eq_true (by kernel_rfl), of_decide_eq_true (by kernel_rfl), [.int .i64 0, .int .i64 0], by kernel_rfl, rfl⟩
theorem elem65 : Elem Try.prog 65 4 (encB) := ⟨Try.underlying65, fit4, of_decide_eq_true (by kernel_rfl), of_decide_eq_true (by kernel_rfl), [.bool false], by kernel_rfl, rfl⟩
theorem elem75 : Elem Try.prog 75 3 (encI .i64) := ⟨Try.underlying75, fit3, of_decide_eq_true (by kernel_rfl), of_decide_eq_true (by kernel_rfl), [.int .i64 0], by kernel_rfl, rfl⟩
theorem elem83 : Elem Try.prog 83 28 (encI .i64) := ⟨Try.underlying83, fit28, of_decide_eq_true (by kernel_rfl), of_decide_eq_true (by kernel_rfl), [.int .i64 0], by kernel_rfl, rfl⟩
theorem elem154 : Elem Try.prog 154 152 (encS_road_reached) := ⟨Try.underlying154, fit152, of_decide_eq_true (by kernel_rfl), of_decide_eq_true (by kernel_rfl), [.float .f32 0, .int .i64 0], by kernel_rfl, rfl⟩
theorem ext56 : Extern.find Try.f56 = some Extern.MathFloatBits.float32frombits := by kernel_rfl
theorem ext57 : Extern.find Try.f57 = some Extern.MathFloatBits.float32bits := by kernel_rfl
theorem ext105 : Extern.find Try.f105 = some Extern.MathSqrt.sqrt := by kernel_rfl
theorem ext123 : Extern.find Try.f123 = some Extern.MathFloatBits.float64frombits := by kernel_rfl
theorem ext124 : Extern.find Try.f124 = some Extern.MathFloatBits.float64bits := by kernel_rfl
end Go.Proofs.Ythibohbaaljnkaa
