/- Own text, by program: how the types of this program lie in memory. -/
import Derived.Test.YtlngccfplnbeiaaGreatDoorProg
import Derived.Test.YtlngccfplnbeiaaGreatDoorSxStr
import Derived.Test.YtlngccfplnbeiaaGreatDoorSxGiv
import Derived.Test.YtlngccfplnbeiaaGreatDoorShelf
import Derived.KernelRfl
namespace Go.Proofs.YtlngccfplnbeiaaGreatDoor
open Sx
set_option linter.all false

structure S_api_Point where
  X : Int
  Y : Int

def encS_api_Point : Enc S_api_Point := { sz := 2, agg := true, rep := fun _ cs x => cs = [.int .i64 x.X, .int .i64 x.Y], len := fun h => by rw [h]; rfl, pos := by decide, mono := fun _ h => h, one := fun h => (by cases h), ocs := fun h => by rw [h]; rfl }

structure S_api_Region where
  X : Int
  Y : Int
  W : Int
  H : Int

def encS_api_Region : Enc S_api_Region := { sz := 4, agg := true, rep := fun _ cs x => cs = [.int .i64 x.X, .int .i64 x.Y, .int .i64 x.W, .int .i64 x.H], len := fun h => by rw [h]; rfl, pos := by decide, mono := fun _ h => h, one := fun h => (by cases h), ocs := fun h => by rw [h]; rfl }

structure S_api_Field where
  Region : S_api_Region
  V : List Nat

def encS_api_Field : Enc S_api_Field := { sz := 5, agg := true, rep := fun D cs x => ∃ v4 : Value, cs = [.int .i64 x.Region.X, .int .i64 x.Region.Y, .int .i64 x.Region.W, .int .i64 x.Region.H, v4] ∧ RO (encF .f32) D v4 x.V, len := fun ⟨v4, h, r0⟩ => by rw [h]; rfl, pos := by decide, mono := fun hle ⟨v4, h, r0⟩ => ⟨v4, h, r0.mono hle⟩, one := fun h => (by cases h), ocs := fun ⟨v4, h, r0⟩ => by obtain ⟨a0, c0, e0, _⟩ := r0; rw [h, e0]; rfl }

structure S_api_RoadRules where
  Grade : Nat
  Weight : Nat
  Bridge : Nat
  Dear : Nat
  Span : Int
  Costly : List S_api_Field

def encS_api_RoadRules : Enc S_api_RoadRules := { sz := 6, agg := true, rep := fun D cs x => ∃ v5 : Value, cs = [.float .f32 x.Grade, .float .f32 x.Weight, .float .f32 x.Bridge, .float .f32 x.Dear, .int .i64 x.Span, v5] ∧ RO encS_api_Field D v5 x.Costly, len := fun ⟨v5, h, r0⟩ => by rw [h]; rfl, pos := by decide, mono := fun hle ⟨v5, h, r0⟩ => ⟨v5, h, r0.mono hle⟩, one := fun h => (by cases h), ocs := fun ⟨v5, h, r0⟩ => by obtain ⟨a0, c0, e0, _⟩ := r0; rw [h, e0]; rfl }

structure S_road_ground where
  f : S_api_Field
  s : S_api_RoadRules

def encS_road_ground : Enc S_road_ground := { sz := 11, agg := true, rep := fun D cs x => ∃ v4 v10 : Value, cs = [.int .i64 x.f.Region.X, .int .i64 x.f.Region.Y, .int .i64 x.f.Region.W, .int .i64 x.f.Region.H, v4, .float .f32 x.s.Grade, .float .f32 x.s.Weight, .float .f32 x.s.Bridge, .float .f32 x.s.Dear, .int .i64 x.s.Span, v10] ∧ RO (encF .f32) D v4 x.f.V ∧ RO encS_api_Field D v10 x.s.Costly, len := fun ⟨v4, v10, h, r0, r1⟩ => by rw [h]; rfl, pos := by decide, mono := fun hle ⟨v4, v10, h, r0, r1⟩ => ⟨v4, v10, h, r0.mono hle, r1.mono hle⟩, one := fun h => (by cases h), ocs := fun ⟨v4, v10, h, r0, r1⟩ => by obtain ⟨a0, c0, e0, _⟩ := r0; obtain ⟨a1, c1, e1, _⟩ := r1; rw [h, e0, e1]; rfl }

structure S_road_reached where
  price : Nat
  k : Int

def encS_road_reached : Enc S_road_reached := { sz := 2, agg := true, rep := fun _ cs x => cs = [.float .f32 x.price, .int .i64 x.k], len := fun h => by rw [h]; rfl, pos := by decide, mono := fun _ h => h, one := fun h => (by cases h), ocs := fun h => by rw [h]; rfl }

structure S_road_prices where
  from0 : Int
  price : List Nat
  ok : List Bool

def encS_road_prices : Enc S_road_prices := { sz := 3, agg := true, rep := fun D cs x => ∃ v1 v2 : Value, cs = [.int .i64 x.from0, v1, v2] ∧ RO (encF .f32) D v1 x.price ∧ RO encB D v2 x.ok, len := fun ⟨v1, v2, h, r0, r1⟩ => by rw [h]; rfl, pos := by decide, mono := fun hle ⟨v1, v2, h, r0, r1⟩ => ⟨v1, v2, h, r0.mono hle, r1.mono hle⟩, one := fun h => (by cases h), ocs := fun ⟨v1, v2, h, r0, r1⟩ => by obtain ⟨a0, c0, e0, _⟩ := r0; obtain ⟨a1, c1, e1, _⟩ := r1; rw [h, e0, e1]; rfl }

theorem hmix : Tryz.prog.follows .mixedOrders = true := by kernel_rfl
theorem fit3 : Fits Tryz.prog 3 (encI .i64) := ⟨by kernel_rfl, by kernel_rfl, _, Tryz.underlying3, rfl⟩
theorem fit4 : Fits Tryz.prog 4 (encB) := ⟨by kernel_rfl, by kernel_rfl, _, Tryz.underlying4, rfl⟩
theorem fit9 : Fits Tryz.prog 9 (encStr) := ⟨by kernel_rfl, by kernel_rfl, _, Tryz.underlying9, rfl⟩
theorem fit35 : Fits Tryz.prog 35 (encF .f32) := ⟨by kernel_rfl, by kernel_rfl, _, Tryz.underlying35, rfl⟩
theorem fit43 : Fits Tryz.prog 43 (encS_api_Point) := ⟨by kernel_rfl, by kernel_rfl, _, Tryz.underlying43, rfl⟩
theorem fit61 : Fits Tryz.prog 61 (encS_api_Field) := ⟨by kernel_rfl, by kernel_rfl, _, Tryz.underlying61, rfl⟩
theorem fit136 : Fits Tryz.prog 136 (encS_road_reached) := ⟨by kernel_rfl, by kernel_rfl, _, Tryz.underlying136, rfl⟩
theorem fitv3 : Fits Tryz.prog 3 (encV) := ⟨by kernel_rfl, by kernel_rfl, _, Tryz.underlying3, rfl⟩
theorem fitv32 : Fits Tryz.prog 32 (encV) := ⟨by kernel_rfl, by kernel_rfl, _, Tryz.underlying32, rfl⟩
theorem fitv35 : Fits Tryz.prog 35 (encV) := ⟨by kernel_rfl, by kernel_rfl, _, Tryz.underlying35, rfl⟩
theorem fitv38 : Fits Tryz.prog 38 (encV) := ⟨by kernel_rfl, by kernel_rfl, _, Tryz.underlying38, rfl⟩
theorem fitv43 : Fits Tryz.prog 43 (encW 2 (by decide)) := ⟨by kernel_rfl, by kernel_rfl, _, Tryz.underlying43, rfl⟩
theorem fitv59 : Fits Tryz.prog 59 (encW 4 (by decide)) := ⟨by kernel_rfl, by kernel_rfl, _, Tryz.underlying59, rfl⟩
theorem fitv61 : Fits Tryz.prog 61 (encW 5 (by decide)) := ⟨by kernel_rfl, by kernel_rfl, _, Tryz.underlying61, rfl⟩
theorem fitv64 : Fits Tryz.prog 64 (encV) := ⟨by kernel_rfl, by kernel_rfl, _, Tryz.underlying64, rfl⟩
theorem fitv66 : Fits Tryz.prog 66 (encW 6 (by decide)) := ⟨by kernel_rfl, by kernel_rfl, _, Tryz.underlying66, rfl⟩
theorem fitv93 : Fits Tryz.prog 93 (encV) := ⟨by kernel_rfl, by kernel_rfl, _, Tryz.underlying93, rfl⟩
theorem fitv95 : Fits Tryz.prog 95 (encW 3 (by decide)) := ⟨by kernel_rfl, by kernel_rfl, _, Tryz.underlying95, rfl⟩
theorem fitv100 : Fits Tryz.prog 100 (encW 11 (by decide)) := ⟨by kernel_rfl, by kernel_rfl, _, Tryz.underlying100, rfl⟩
theorem fitv136 : Fits Tryz.prog 136 (encW 2 (by decide)) := ⟨by kernel_rfl, by kernel_rfl, _, Tryz.underlying136, rfl⟩
theorem fitv138 : Fits Tryz.prog 138 (encV) := ⟨by kernel_rfl, by kernel_rfl, _, Tryz.underlying138, rfl⟩
theorem elem22 : Elem Tryz.prog 22 43 (encS_api_Point) := ⟨Tryz.underlying22, fit43, of_decide_eq_true (by kernel_rfl), of_decide_eq_true (by kernel_rfl), [.int .i64 0, .int .i64 0], by kernel_rfl, rfl⟩
theorem elem32 : Elem Tryz.prog 32 3 (encI .i64) := ⟨Tryz.underlying32, fit3, of_decide_eq_true (by kernel_rfl), of_decide_eq_true (by kernel_rfl), [.int .i64 0], by kernel_rfl, rfl⟩
theorem elem38 : Elem Tryz.prog 38 35 (encF .f32) := ⟨Tryz.underlying38, fit35, of_decide_eq_true (by kernel_rfl), of_decide_eq_true (by kernel_rfl), [.float .f32 0], by kernel_rfl, rfl⟩
theorem elem93 : Elem Tryz.prog 93 4 (encB) := ⟨Tryz.underlying93, fit4, of_decide_eq_true (by kernel_rfl), of_decide_eq_true (by kernel_rfl), [.bool false], by kernel_rfl, rfl⟩
theorem elem138 : Elem Tryz.prog 138 136 (encS_road_reached) := ⟨Tryz.underlying138, fit136, of_decide_eq_true (by kernel_rfl), of_decide_eq_true (by kernel_rfl), [.float .f32 0, .int .i64 0], by kernel_rfl, rfl⟩
theorem ext125 : Extern.find Tryz.f125 = some Extern.MathFloatBits.float64frombits := by kernel_rfl
theorem ext126 : Extern.find Tryz.f126 = some Extern.MathFloatBits.float64bits := by kernel_rfl
end Go.Proofs.YtlngccfplnbeiaaGreatDoor
