/- Own text, by program: how the types of this program lie in memory. -/
import Derived.Test.YteebpnooijknoaaDoorProg
import Derived.Test.YteebpnooijknoaaDoorSxStr
import Derived.Test.YteebpnooijknoaaDoorSxGiv2
import Derived.Test.YteebpnooijknoaaDoorShelf
import Derived.KernelRfl
namespace Go.Proofs.YteebpnooijknoaaDoor
open Sx
set_option linter.all false

structure S_api_Point where
  X : Int
  Y : Int

def encS_api_Point : Enc S_api_Point := { sz := 2, agg := true, rep := fun _ cs x => cs = [.int .i64 x.X, .int .i64 x.Y], len := fun h => by rw [h]; rfl, pos := by decide, mono := fun _ h => h, one := fun h => (by cases h), ocs := fun h => by rw [h]; rfl }

structure S_api_River where
  Points : List S_api_Point
  Amount : Int
  Order : Int
  Into : Int

def encS_api_River : Enc S_api_River := { sz := 4, agg := true, rep := fun D cs x => ∃ v0 : Value, cs = [v0, .int .i64 x.Amount, .int .i64 x.Order, .int .i64 x.Into] ∧ RO encS_api_Point D v0 x.Points, len := fun ⟨v0, h, r0⟩ => by rw [h]; rfl, pos := by decide, mono := fun hle ⟨v0, h, r0⟩ => ⟨v0, h, r0.mono hle⟩, one := fun h => (by cases h), ocs := fun ⟨v0, h, r0⟩ => by obtain ⟨a0, c0, e0, _⟩ := r0; rw [h, e0]; rfl }

structure S_api_Region where
  X : Int
  Y : Int
  W : Int
  H : Int

def encS_api_Region : Enc S_api_Region := { sz := 4, agg := true, rep := fun _ cs x => cs = [.int .i64 x.X, .int .i64 x.Y, .int .i64 x.W, .int .i64 x.H], len := fun h => by rw [h]; rfl, pos := by decide, mono := fun _ h => h, one := fun h => (by cases h), ocs := fun h => by rw [h]; rfl }

structure S_api_Field where
  Region : S_api_Region
  V : List Nat

def encS_api_Field : Enc S_api_Field := { sz := 5, agg := true, rep := fun D cs x => ∃ v4 : Value, cs = [.int .i64 x.Region.X, .int .i64 x.Region.Y, .int .i64 x.Region.W, .int .i64 x.Region.H, v4] ∧ RO (encF .f32) D v4 x.V, len := fun ⟨v4, h, r0⟩ => by rw [h]; rfl, pos := by decide, mono := fun hle ⟨v4, h, r0⟩ => ⟨v4, h, r0.mono hle⟩, one := fun h => (by cases h), ocs := fun ⟨v4, h, r0⟩ => by obtain ⟨a0, c0, e0, _⟩ := r0; rw [h, e0]; rfl }

structure S_water_spill where
  v : Nat
  k : Int

def encS_water_spill : Enc S_water_spill := { sz := 2, agg := true, rep := fun _ cs x => cs = [.float .f32 x.v, .int .i64 x.k], len := fun h => by rw [h]; rfl, pos := by decide, mono := fun _ h => h, one := fun h => (by cases h), ocs := fun h => by rw [h]; rfl }

theorem hmix : Tryd.prog.follows .mixedOrders = true := by kernel_rfl
theorem fit3 : Fits Tryd.prog 3 (encI .i64) := ⟨by kernel_rfl, by kernel_rfl, _, Tryd.underlying3, rfl⟩
theorem fit4 : Fits Tryd.prog 4 (encB) := ⟨by kernel_rfl, by kernel_rfl, _, Tryd.underlying4, rfl⟩
theorem fit9 : Fits Tryd.prog 9 (encStr) := ⟨by kernel_rfl, by kernel_rfl, _, Tryd.underlying9, rfl⟩
theorem fit23 : Fits Tryd.prog 23 (encI .i64) := ⟨by kernel_rfl, by kernel_rfl, _, Tryd.underlying23, rfl⟩
theorem fit38 : Fits Tryd.prog 38 (encS_api_River) := ⟨by kernel_rfl, by kernel_rfl, _, Tryd.underlying38, rfl⟩
theorem fit48 : Fits Tryd.prog 48 (encF .f32) := ⟨by kernel_rfl, by kernel_rfl, _, Tryd.underlying48, rfl⟩
theorem fit50 : Fits Tryd.prog 50 (encS_api_Point) := ⟨by kernel_rfl, by kernel_rfl, _, Tryd.underlying50, rfl⟩
theorem fit85 : Fits Tryd.prog 85 (encS_water_spill) := ⟨by kernel_rfl, by kernel_rfl, _, Tryd.underlying85, rfl⟩
theorem fitv3 : Fits Tryd.prog 3 (encV) := ⟨by kernel_rfl, by kernel_rfl, _, Tryd.underlying3, rfl⟩
theorem fitv36 : Fits Tryd.prog 36 (encV) := ⟨by kernel_rfl, by kernel_rfl, _, Tryd.underlying36, rfl⟩
theorem fitv38 : Fits Tryd.prog 38 (encW 4 (by decide)) := ⟨by kernel_rfl, by kernel_rfl, _, Tryd.underlying38, rfl⟩
theorem fitv42 : Fits Tryd.prog 42 (encW 4 (by decide)) := ⟨by kernel_rfl, by kernel_rfl, _, Tryd.underlying42, rfl⟩
theorem fitv43 : Fits Tryd.prog 43 (encV) := ⟨by kernel_rfl, by kernel_rfl, _, Tryd.underlying43, rfl⟩
theorem fitv45 : Fits Tryd.prog 45 (encW 5 (by decide)) := ⟨by kernel_rfl, by kernel_rfl, _, Tryd.underlying45, rfl⟩
theorem fitv48 : Fits Tryd.prog 48 (encV) := ⟨by kernel_rfl, by kernel_rfl, _, Tryd.underlying48, rfl⟩
theorem fitv50 : Fits Tryd.prog 50 (encW 2 (by decide)) := ⟨by kernel_rfl, by kernel_rfl, _, Tryd.underlying50, rfl⟩
theorem fitv80 : Fits Tryd.prog 80 (encV) := ⟨by kernel_rfl, by kernel_rfl, _, Tryd.underlying80, rfl⟩
theorem fitv82 : Fits Tryd.prog 82 (encV) := ⟨by kernel_rfl, by kernel_rfl, _, Tryd.underlying82, rfl⟩
theorem fitv85 : Fits Tryd.prog 85 (encW 2 (by decide)) := ⟨by kernel_rfl, by kernel_rfl, _, Tryd.underlying85, rfl⟩
theorem elem22 : Elem Tryd.prog 22 38 (encS_api_River) := ⟨Tryd.underlying22, fit38, of_decide_eq_true (by kernel_rfl), of_decide_eq_true (by kernel_rfl), [.slice none 0 0, .int .i64 0, .int .i64 0, .int .i64 0], by kernel_rfl, rfl⟩
theorem elem32 : Elem Tryd.prog 32 23 (encI .i64) := ⟨Tryd.underlying32, fit23, of_decide_eq_true (by kernel_rfl), of_decide_eq_true (by kernel_rfl), [.int .i64 0], by kernel_rfl, rfl⟩
theorem elem36 : Elem Tryd.prog 36 50 (encS_api_Point) := ⟨Tryd.underlying36, fit50, of_decide_eq_true (by kernel_rfl), of_decide_eq_true (by kernel_rfl), [.int .i64 0, .int .i64 0], by kernel_rfl, rfl⟩
theorem elem43 : Elem Tryd.prog 43 48 (encF .f32) := ⟨Tryd.underlying43, fit48, of_decide_eq_true (by kernel_rfl), of_decide_eq_true (by kernel_rfl), [.float .f32 0], by kernel_rfl, rfl⟩
theorem elem80 : Elem Tryd.prog 80 4 (encB) := ⟨Tryd.underlying80, fit4, of_decide_eq_true (by kernel_rfl), of_decide_eq_true (by kernel_rfl), [.bool false], by kernel_rfl, rfl⟩
theorem elem82 : Elem Tryd.prog 82 85 (encS_water_spill) := ⟨Tryd.underlying82, fit85, of_decide_eq_true (by kernel_rfl), of_decide_eq_true (by kernel_rfl), [.float .f32 0, .int .i64 0], by kernel_rfl, rfl⟩
theorem elem92 : Elem Tryd.prog 92 3 (encI .i64) := ⟨Tryd.underlying92, fit3, of_decide_eq_true (by kernel_rfl), of_decide_eq_true (by kernel_rfl), [.int .i64 0], by kernel_rfl, rfl⟩
end Go.Proofs.YteebpnooijknoaaDoor
