/- Own library: functions of Go's library that the walk takes by their contracts: strconv.Itoa, strconv.Atoi, strings.Split; the package's variables that they read are told by a class. -/
import Derived.Test.YteebpnooijknoaaDoorSxSaid
import Derived.Shelf.LaysM
import Derived.Lib.SplitLaws
import Derived.Lib.AtoiAll
import Derived.Lib.AtoiErrMem
import Derived.Lib.ItoaNum
import Derived.Lib.LaidTab
import Derived.Lib.AppendIntMem
namespace Sx
open Go Go.RowKit Go.Sort
variable [WB]
set_option linter.all false

class GV (P : Program) : Prop where
  pow10 : ∀ {D : PH} {As : List Assert} {w : World}, SInv D As w → Lib.TabIs P w "internal/strconv.uint64pow10" .u64 Lib.pow10Tab
  errS : ∃ tp p, ∀ {D : PH} {As : List Assert} {w : World}, SInv D As w → w.var? P "strconv.ErrSyntax" = some #[.iface tp p]
  errR : ∃ tp p, ∀ {D : PH} {As : List Assert} {w : World}, SInv D As w → w.var? P "strconv.ErrRange" = some #[.iface tp p]
  maxLen : ∃ m : Int, ∀ {D : PH} {As : List Assert} {w : World}, SInv D As w → ∀ g, P.globalNamed "internal/bytealg.MaxLen" = some g → w.cell? ⟨g, 0, none⟩ = some (.int .i64 m)

/-- An error value: nil, or not. -/
def ErrIs (v : Value) (b : Bool) : Prop := if b = true then v = .nilIface else ∃ t p, v = .iface t p

def itoaB (n : Int) : ByteArray := ⟨(Lib.itoa n).toArray⟩
def itoaP (n : Int) : Option ByteArray := if -9223372036854775808 ≤ n ∧ n ≤ 9223372036854775807 then some (itoaB n) else none
def splitP (s sep : ByteArray) : Option (List ByteArray) := if s.size < 4294967281 ∧ 1 ≤ sep.size then some (Lib.splitB sep 0 (Lib.countB s sep) s) else none
def atoiE (l : List UInt8) : Int × Bool := match Lib.atoiAll l with | .ok v => (v, true) | .range => (Lib.atoiSat l, false) | _ => (0, false)
def atoiP (s : ByteArray) : Option (Int × Bool) := if s.size ≤ 281474976710656 then some (atoiE s.data.toList) else none

section
variable {P : Program} {f : FuncId} {D : PH} {F : List Assert}
theorem sinv_below {w w' : World} (h : Below w.heap.size w w') (hS : SInv D F w) : SInv D F w' := hS.grown ⟨h.os, h.output⟩ fun b hb => h.block b hb
theorem given_itoa (ht : ∀ {D : PH} {As : List Assert} {w : World}, SInv D As w → Lib.TabIs P w "internal/strconv.uint64pow10" .u64 Lib.pow10Tab)
    (hc : ∀ n : Int, -9223372036854775808 ≤ n → n ≤ 9223372036854775807 → ∀ w : World, Lib.TabIs P w "internal/strconv.uint64pow10" .u64 Lib.pow10Tab → Calls P f #[.int .i64 n] w fun e w' => e = .returned (.string ⟨(Lib.itoa n).toArray⟩) ∧ ∃ k os, w' = grow (w.drewN k) os)
    {n : Int} {r : ByteArray} (hp : itoaP n = some r) : ∀ w : World, SInv D F w → Calls P f #[.int .i64 n] w fun e w' => e = .returned (.string r) ∧ SInv D F w' := by
  intro w hS
  unfold itoaP at hp
  split at hp
  · rename_i hb
    obtain rfl := Option.some.inj hp
    refine (hc n hb.1 hb.2 w (ht hS)).mono fun e w' h => ⟨h.1, ?_⟩
    obtain ⟨_, k, os, rfl⟩ := h
    exact sinv_below (Lib.below_grow _ w (Nat.le_refl _) k os) hS
  · cases hp

theorem drop_map_one {α β : Type} (g : α → β) (xs : List α) (i : Nat) (x : α) (h : xs[i]? = some x) : ((xs.map g).drop i).take 1 = [g x] := by
  have hl : i < xs.length := by
    rcases Nat.lt_or_ge i xs.length with hl | hl
    · exact hl
    · rw [List.getElem?_eq_none hl] at h; cases h
  rw [List.drop_eq_getElem_cons (by simpa using hl)]
  have : xs[i] = x := by rw [List.getElem?_eq_getElem hl] at h; exact Option.some.inj h
  simp [this]
theorem given_split {g : Nat} (hg : P.globalNamed "internal/bytealg.MaxLen" = some g) (hm : ∃ m : Int, ∀ {D : PH} {As : List Assert} {w : World}, SInv D As w → ∀ g, P.globalNamed "internal/bytealg.MaxLen" = some g → w.cell? ⟨g, 0, none⟩ = some (.int .i64 m)) {E : TypeId}
    (hc : ∀ (s sep : ByteArray) (m : Int) (w : World), s.size < 4294967281 → w.cell? ⟨g, 0, none⟩ = some (.int .i64 m) → 1 ≤ sep.size → Calls P f #[.string s, .string sep] w fun e w' =>
      e = .returned (.slice (some ⟨w.heap.size, 0, none⟩) (Lib.countB s sep + 1) (Lib.countB s sep + 1)) ∧ w' = w.alloc (.cells ((Lib.splitB sep 0 (Lib.countB s sep) s).map Value.string).toArray E))
    {s sep : ByteArray} {r : List ByteArray} (hp : splitP s sep = some r) : ∀ w : World, SInv D F w → Calls P f #[.string s, .string sep] w fun e w' =>
      ∃ (D1 : PH) (a : Option Addr) (c : Nat), PH.le D D1 ∧ e = .returned (.slice a r.length c) ∧ RO encStr D1 (.slice a r.length c) r ∧ SInv D1 F w' := by
  intro w hS
  unfold splitP at hp
  split at hp
  · rename_i hb
    obtain rfl := Option.some.inj hp
    obtain ⟨m, hm⟩ := hm
    have hcell : w.cell? ⟨g, 0, none⟩ = some (.int .i64 m) := hm hS g hg
    have hlen : (Lib.splitB sep 0 (Lib.countB s sep) s).length = Lib.countB s sep + 1 := Lib.splitB_all sep hb.2 0 _ s rfl
    have hle := Lib.countB_le sep hb.2 s.size s (Nat.le_refl _)
    refine (hc s sep m w hb.1 hcell hb.2).mono fun e w' h => ?_
    obtain ⟨rfl, rfl⟩ := h
    have h1 := hS.alloc (.cells ((Lib.splitB sep 0 (Lib.countB s sep) s).map Value.string).toArray E)
    have h2 : SInv D (OwnA D encStr E w.heap.size (Lib.countB s sep + 1) (Lib.splitB sep 0 (Lib.countB s sep) s) :: F) (w.alloc (.cells ((Lib.splitB sep 0 (Lib.countB s sep) s).map Value.string).toArray E)) :=
      SInv.imp (fun k hk => ⟨(Lib.splitB sep 0 (Lib.countB s sep) s).map Value.string, hk, by rw [List.length_map, hlen]; exact (Nat.mul_one _).symm, by omega, by omega, fun i x hx => by
        show List.take 1 _ = [_]
        rw [show i * encStr.sz = i from Nat.mul_one i]
        exact drop_map_one _ _ _ _ hx⟩) h1
    obtain ⟨D', k1, k2, k3⟩ := h2.lay (PH.le_refl D)
    exact ⟨D', _, _, k1, by rw [hlen], by rw [hlen] at k2 ⊢; exact k2, k3⟩
  · cases hp
theorem given_atoi (hs : ∃ tp p, ∀ {D : PH} {As : List Assert} {w : World}, SInv D As w → w.var? P "strconv.ErrSyntax" = some #[.iface tp p]) (hr : ∃ tp p, ∀ {D : PH} {As : List Assert} {w : World}, SInv D As w → w.var? P "strconv.ErrRange" = some #[.iface tp p]) {E5 : TypeId}
    (h1 : ∀ (s : ByteArray), s.size ≤ 9223372036854775806 → ∀ (v : Int), Lib.atoiAll s.data.toList = .ok v → ∀ w : World, Calls P f #[.string s] w fun e w' => e = .returned (.tuple #[.int .i64 v, .nilIface]) ∧ (w' = w ∨ ∃ t, w' = Lib.bytesWorld w E5 t))
    (h2 : ∀ (s : ByteArray), s.size ≤ 281474976710656 → Lib.atoiAll s.data.toList = Lib.atoiAll [] → ∀ (tp : TypeId) (p : Value) (w : World), w.var? P "strconv.ErrSyntax" = some #[.iface tp p] → Calls P f #[.string s] w fun e w' => ∃ t N, e = .returned (.tuple #[.int .i64 0, .iface t (.pointer (some ⟨N, 0, none⟩))]) ∧ Below w.heap.size w w')
    (h3 : ∀ (s : ByteArray), s.size ≤ 281474976710656 → Lib.atoiAll s.data.toList = .range → ∀ (tp : TypeId) (p : Value) (w : World), w.var? P "strconv.ErrRange" = some #[.iface tp p] → Calls P f #[.string s] w fun e w' => ∃ t N, e = .returned (.tuple #[.int .i64 (Lib.atoiSat s.data.toList), .iface t (.pointer (some ⟨N, 0, none⟩))]) ∧ Below w.heap.size w w')
    {s : ByteArray} {r : Int × Bool} (hp : atoiP s = some r) : ∀ w : World, SInv D F w → Calls P f #[.string s] w fun e w' => ∃ (D1 : PH) (v : Value), PH.le D D1 ∧ e = .returned (.tuple #[.int .i64 r.1, v]) ∧ ErrIs v r.2 ∧ SInv D1 F w' := by
  intro w hS
  unfold atoiP at hp
  split at hp
  · rename_i hb
    obtain rfl := Option.some.inj hp
    unfold atoiE
    cases hv : Lib.atoiAll s.data.toList with
    | ok v =>
      refine (h1 s (by omega) v hv w).mono fun e w' h => ⟨D, .nilIface, PH.le_refl D, h.1, rfl, ?_⟩
      rcases h.2 with rfl | ⟨t, rfl⟩
      · exact hS
      · exact sinv_below (Lib.bytesWorld_below w E5 t) hS
    | range =>
      obtain ⟨tp, p, hr⟩ := hr
      refine (h3 s hb hv tp p w (hr hS)).mono fun e w' h => ?_
      obtain ⟨t, N, he, hB⟩ := h
      exact ⟨D, _, PH.le_refl D, he, ⟨_, _, rfl⟩, sinv_below hB hS⟩
    | _ =>
      obtain ⟨tp, p, hs⟩ := hs
      refine (h2 s hb hv tp p w (hs hS)).mono fun e w' h => ?_
      obtain ⟨t, N, he, hB⟩ := h
      exact ⟨D, _, PH.le_refl D, he, ⟨_, _, rfl⟩, sinv_below hB hS⟩
  · cases hp
end
section
variable {P : Program} {n : Nat} {φ : Fr} {D : PH} {B : List Assert}
variable {d : Option Tmp} {t tx ty : TypeId} {x : Operand} {pos : String} {aft : Array Edge} {g : Option (Nat × Bool)}
/-- An error against nil. -/
theorem qs_errnil {op : BinOp} {ms : Array (String × TypeId)} {v : Value} {b r : Bool} (hu : P.underlying t = some (.interface ms)) (hx : ev n φ x = v) (he : ErrIs v b) (hop : op = .eql ∨ op = .neq) (hv : (match op with | .eql => b | _ => !b) = r) : QS P n ⟨d, .binOp op t x (.const .nilIface) tx, ty, pos, aft, g⟩ φ D B (.bool r) := by
  intro D' R _ w _
  refine run_val ?_
  rw [hx]
  have hg : (eqGuard op t x (.const .nilIface) v .nilIface).run P w = .ok () w := by
    cases b with
    | true => rw [show v = .nilIface from he]; rcases hop with rfl | rfl <;> (unfold eqGuard; cases x <;> rfl)
    | false => obtain ⟨u, p, rfl⟩ := (show ∃ u p, v = .iface u p from he); exact eqGuard_quiet op t x _ _ _ trivial w
  show ((do eqGuard op t x (.const .nilIface) v .nilIface; binOp op t v .nilIface : Sem Value)).run P w = _
  rw [run_bind_ok hg]
  have hq : (Op.equal t v .nilIface).run P w = .ok b w := by
    show (Op.equalIn (9999 + 1) t _ _).run P w = _
    unfold Op.equalIn
    rw [run_bind_ok (run_underlying hu w)]
    cases b with
    | true => rw [show v = .nilIface from he]; rfl
    | false => obtain ⟨u, p, rfl⟩ := (show ∃ u p, v = .iface u p from he); rfl
  cases b with
  | true =>
    rw [show v = .nilIface from he] at hq ⊢
    rcases hop with rfl | rfl <;> (simp only [binOp]; rw [run_bind_ok hq, ← hv]; rfl)
  | false =>
    obtain ⟨u, p, rfl⟩ := (show ∃ u p, v = .iface u p from he)
    rcases hop with rfl | rfl <;> (simp only [binOp]; rw [run_bind_ok hq, ← hv]; rfl)
end
end Sx
