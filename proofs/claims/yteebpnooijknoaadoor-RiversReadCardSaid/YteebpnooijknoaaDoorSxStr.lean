/- Own library: strings: values that the pure programs hold as arrays of bytes. -/
import Derived.Test.YteebpnooijknoaaDoorSxIface
namespace Sx
open Go
variable [WB]
set_option linter.all false

/-! ### The words of the pure programs -/
/-! ### Parts brought into another order at once -/
def pick {α : Type} (idx : List Nat) (As : List α) : List α := (idx.filterMap fun i => As[i]?) ++ As.drop idx.length
omit [WB] in
theorem range_take {α : Type} : ∀ (m : Nat) (As : List α), m ≤ As.length → (List.range m).filterMap (fun i => As[i]?) = As.take m
  | 0, As, _ => by simp
  | m + 1, [], h => by simp at h
  | m + 1, a :: l, h => by
    rw [List.range_succ_eq_map, List.filterMap_cons]
    simp only [List.getElem?_cons_zero, List.filterMap_map, List.take_succ_cons]
    exact congrArg (a :: ·) (range_take m l (by simpa using h))
omit [WB] in
theorem pick_perm {α : Type} (idx : List Nat) {As : List α} (h : idx.isPerm (List.range idx.length) = true) (hl : (As.take idx.length).length = idx.length) : As.Perm (pick idx As) := by
  have h1 := (List.isPerm_iff.1 h).symm.filterMap (fun i => As[i]?)
  rw [range_take _ _ (by rw [List.length_take] at hl; omega)] at h1
  have h2 := h1.append_right (As.drop idx.length)
  rw [List.take_append_drop] at h2
  exact h2
omit [WB] in
theorem slc_bound {α : Type} {xs ys : List α} {l h : Int} (hz : slc xs l h = some ys) (hb : xs.length ≤ 2 ^ 62) : ys.length ≤ 2 ^ 62 := by
  obtain ⟨_, _, _, rfl⟩ := slc_some hz
  rw [List.length_drop, List.length_take]; omega
def strCap : Nat := 2 ^ 62
def strAdd (a b : ByteArray) : Option ByteArray := if a.size + b.size ≤ strCap then some (a ++ b) else none
def strEq (a b : ByteArray) : Bool := a.toList == b.toList
def strLt (a b : ByteArray) : Bool := Op.bytesLess a.toList b.toList
def strIdx (s : ByteArray) (i : Int) : Option UInt8 := if 0 ≤ i then s[i.toNat]? else none
def strSlc (s : ByteArray) (l h : Int) : Option ByteArray := if 0 ≤ l ∧ l ≤ h ∧ h ≤ s.size then some (s.extract l.toNat h.toNat) else none
def byteI (b : UInt8) : Int := b.toNat
/-- A string of one cell. -/
def encStr : Enc ByteArray := { sz := 1, agg := false, rep := fun _ cs x => cs = [.string x], len := fun h => by rw [h]; rfl, pos := by decide, mono := fun _ h => h, one := fun _ => rfl, ocs := fun h => by rw [h]; rfl }
omit [WB] in
theorem valS {D : PH} {z : ByteArray} (cs : List Value) (h : encStr.rep D cs z) : encStr.val cs = .string z := by rw [show cs = [.string z] from h]; rfl

section
variable {P : Program} {n : Nat} {ops : Array Oper} {rest : List Oper} {φ : Fr} {D D0 : PH} {As B R : List Assert} {Q : Exit → Act → World → Prop} {l : OT} {i : Nat}
variable {d : Option Tmp} {t tx ty : TypeId} {x y : Operand} {pos : String} {aft : Array Edge} {g : Option (Nat × Bool)}

theorem qs_strAdd {a b z : ByteArray} (hx : ev n φ x = .string a) (hy : ev n φ y = .string b) (h : strAdd a b = some z) : QS P n ⟨d, .binOp .add t x y tx, ty, pos, aft, g⟩ φ D B (.string z) := by
  unfold strAdd at h
  split at h
  · rename_i hc
    obtain rfl := Option.some.inj h
    intro D' R _ w _
    refine run_val ?_
    rw [hx, hy]
    rw [run_bind_ok (eqGuard_quiet .add t x y _ _ trivial w)]
    simp only [binOp, Op.stringOp]
    rw [if_neg]
    · rfl
    · have : IntKind.i64.max = 9223372036854775807 := rfl
      have : strCap = 4611686018427387904 := rfl
      omega
  · cases h
/-- Comparisons. -/
def strCmp (op : BinOp) (a b : ByteArray) : Option Bool :=
  match op with
  | .eql => some (strEq a b) | .neq => some (!strEq a b) | .lss => some (strLt a b) | .leq => some (strLt a b || strEq a b) | .gtr => some (!(strLt a b || strEq a b)) | .geq => some (!strLt a b) | _ => none
theorem qs_strCmp {op : BinOp} {a b : ByteArray} {r v : Bool} (hx : ev n φ x = .string a) (hy : ev n φ y = .string b) (h : strCmp op a b = some r) (hv : r = v) : QS P n ⟨d, .binOp op t x y tx, ty, pos, aft, g⟩ φ D B (.bool v) := by
  subst hv
  intro D' R _ w _
  refine run_val ?_
  rw [hx, hy]
  rw [run_bind_ok (eqGuard_quiet op t x y _ _ trivial w)]
  cases op <;> (try (cases h; done)) <;> (obtain rfl := Option.some.inj h; simp only [binOp, Op.stringOp]; rfl)
theorem qs_strIdx {k : IntKind} {s : ByteArray} {j : Int} {b : UInt8} (hu : P.underlying t = some .string) (hx : ev n φ x = .string s) (hy : ev n φ y = .int k j) (h : strIdx s j = some b) : QS P n ⟨d, .index t x y, ty, pos, aft, g⟩ φ D B (.int .u8 (byteI b)) := by
  intro D' R _ w _
  refine run_val ?_
  rw [hx, hy]
  unfold Instr.index
  rw [run_bind_ok (a := (k, j)) (w' := w) rfl, run_bind_ok (run_underlying hu w)]
  unfold strIdx at h
  simp only [h]
  rfl
/-- A bound of a slice: none, or an integer. -/
def BndI (n : Nat) (φ : Fr) (o : Option Operand) (v dflt : Int) : Prop := match o with | none => v = dflt | some x => ∃ k, ev n φ x = .int k v
theorem qs_strSlc {s z : ByteArray} {lo hi : Option Operand} {l' h' : Int} (hu : P.underlying t = some .string) (hx : ev n φ x = .string s) (hl : BndI n φ lo l' 0) (hh : BndI n φ hi h' s.size) (h : strSlc s l' h' = some z) : QS P n ⟨d, .slice t x lo hi none, ty, pos, aft, g⟩ φ D B (.string z) := by
  unfold strSlc at h
  split at h
  · rename_i hc
    obtain rfl := Option.some.inj h
    intro D' R _ w _
    refine run_val ?_
    rw [hx]
    unfold Instr.sliceAt
    rw [run_bind_ok (run_underlying hu w)]
    simp only
    unfold Instr.slice
    rw [run_bind_ok (run_underlying hu w)]
    have hb : ∀ (k : IntKind) (v : Int) (y : Nat) (c : BoundsCode), 0 ≤ v ∧ v ≤ y → (Instr.sliceBound (.int k v) y c).run P w = .ok v.toNat w := by
      intro k v y c hv
      unfold Instr.sliceBound
      rw [run_bind_ok (a := (k, v)) (w' := w) rfl]
      simp only [if_pos hv]; rfl
    have hbs : (Instr.sliceBounds false s.size s.size (lo.map (ev n φ)) (hi.map (ev n φ)) none).run P w = .ok (l'.toNat, h'.toNat, s.size) w := by
      cases hi with
      | none =>
        have e1 : h' = s.size := hh
        subst e1
        cases lo with
        | none =>
          have e2 : l' = 0 := hl
          subst e2; rfl
        | some y =>
          obtain ⟨k, hk⟩ := hl
          show ((Instr.sliceBound (ev n φ y) s.size .sliceB) >>= fun l => pure (l, s.size, s.size) : Sem (Nat × Nat × Nat)).run P w = _
          rw [hk, run_bind_ok (hb k l' s.size _ ⟨hc.1, by omega⟩)]; rfl
      | some z =>
        obtain ⟨k2, hk2⟩ := hh
        cases lo with
        | none =>
          have e2 : l' = 0 := hl
          subst e2
          show ((Instr.sliceBound (ev n φ z) s.size .sliceAlen) >>= fun h => pure (0, h, s.size) : Sem (Nat × Nat × Nat)).run P w = _
          rw [hk2, run_bind_ok (hb k2 h' s.size _ ⟨by omega, hc.2.2⟩)]; rfl
        | some y =>
          obtain ⟨k, hk⟩ := hl
          show ((Instr.sliceBound (ev n φ z) s.size .sliceAlen) >>= fun h => (Instr.sliceBound (ev n φ y) h .sliceB) >>= fun l => pure (l, h, s.size) : Sem (Nat × Nat × Nat)).run P w = _
          rw [hk2, hk, run_bind_ok (hb k2 h' s.size _ ⟨by omega, hc.2.2⟩), run_bind_ok (hb k l' h'.toNat _ ⟨hc.1, by omega⟩)]; rfl
    simp only [Option.map_none, Option.isSome_none, Bool.false_eq_true, if_false]
    exact (run_bind_ok hbs).trans rfl
  · cases h
theorem qs_strLen {s : ByteArray} (hu : P.underlying t = some .string) (hx : ev n φ x = .string s) : QS P n ⟨d, .call ⟨.builtin .len, #[x], #[t]⟩, ty, pos, aft, g⟩ φ D B (.int .i64 (s.size : Int)) := by
  intro D' R _ w _
  refine scal_sound (o := ⟨d, .call ⟨.builtin .len, #[x], #[t]⟩, ty, pos, aft, g⟩) ?_ w
  simp only [scal, slen]
  rw [hx]
  simp only [hu]
end
end Sx
