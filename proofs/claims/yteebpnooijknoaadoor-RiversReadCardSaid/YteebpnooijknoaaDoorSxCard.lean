/- Own library: from a row that lists package variables to a contract: the variables hold behind each step what they held. -/
import Derived.Test.YteebpnooijknoaaDoorSxGiv
import Derived.Stop.LaidErr
import Derived.HandedShaped
import Derived.LaidMore
import Derived.LaidHandle
import Derived.Shelf.Vars
import Derived.SevenTiedAt
namespace Sx
open Go Go.ChangeShapes Go.WideShapes Go.RowKit
set_option linter.all false

theorem change_and_shaped {H : Type} {enc : TypeId × Value → H} {a : Assume} {C : Checked} {os : Os} {f : FuncId} {fn : Func} {s : ChangeSpec} {conds : List PathCond} {apart fresh handsOn again : Bool} {X : World → Array Value → Prop}
    (hX : ∀ (w w' : World) (args : Array Value), w.heap = w'.heap → X w args → X w' args)
    (own : ownKnob C.prog.godebug = none) (started : os.Started) (noInit : C.prog.inits.idxOf? f = none) (hfn : C.prog.funcs[f]? = some fn)
    (witness : ∃ (w : World) (tape : Tape) (i : Input), w.os = os ∧ (w.forCall tape i).Shaped C.prog ∧ i.vars = [] ∧ Input.okWide C.prog (w.forCall tape i) .any w.heap.size f i ∧
      ((s.pre enc C.prog fn conds apart (w.forCall tape i).memory i.args ∧ X (w.forCall tape i).memory i.args) ∧ sizedMet enc C.prog fn (OpenSpec.ofChange s) apart (w.forCall tape i).memory i.args) ∧ a.holds C.prog (lone (Frame.enter C.prog f i.args .normal) [] (w.forCall tape i)))
    (contract : ∀ (W : World) (base : Nat) (args : Array Value) (ds gs : List (DataW H)) (before : List MemPlace),
      (∀ (j : Nat) t v, fn.params[j]? = some t → args[j]? = some v → Value.okWide C.prog W .any base t v) →
      DataW.Whole enc C.prog fn.params.toList s.vars apart W args.toList ds gs before →
      (DataW.weightsEach C.prog (fn.params.toList ++ s.plain.varTypes C.prog) (ds ++ gs)).all (· ≤ reachBytes) = true → W.ShapedOpen C.prog → X W args →
      Calls C.prog f args W fun e W' => ∃ v, e = .returned v ∧ s.post enc C.prog fn apart fresh handsOn again W args v W') :
    ReturnsInHanded a C os f .any (fun w args => (s.pre enc C.prog fn conds apart w args ∧ X w args) ∧ sizedMet enc C.prog fn (OpenSpec.ofChange s) apart w args) (s.post enc C.prog fn apart fresh handsOn again) := by
  refine returnsInHanded_of_calls own started noInit witness ?_
  intro w tape i _ hsh _ hok hpre _
  obtain ⟨_, _, _, fn', hfn', _, _, _, _, hval⟩ := hok
  have e : fn' = fn := Option.some.inj (hfn'.symm.trans hfn)
  subst e
  obtain ⟨⟨⟨ds, gs, before, hw, hc⟩, hx⟩, hz⟩ := hpre
  have hw' := DataW.Whole.of_heap (w' := w.forCall tape i) (by rfl) hw
  refine (contract (w.forCall tape i) w.heap.size i.args ds gs before hval hw' (hz.weights hw) hsh (hX _ _ _ (by rfl) hx)).mono fun e W' ⟨v, he, hp⟩ => ?_
  subst he
  exact ChangeSpec.post_blind hp

/-- A world in which a variable holds other cells (of a table that is told by name alone). -/
def pinCells : DataW Unit → Array Value
  | .agg l => (l.map fun | .lit (.int k z) => Value.int k z | _ => Value.int .u8 0).toArray
  | _ => #[]
noncomputable def pinAt (w : World) (g : Nat) (cs : Array Value) : World := { w with heap := match w.heap[g]? with | some (.cells _ t fr) => w.heap.setIfInBounds g (.cells cs t fr) | _ => w.heap }
section
variable {P : Program} {W : World}
theorem keep_heap {D : PH} {As : List Assert} {w : World} {b : Nat} {o : Obj} (h : @SInv ⟨W.os, W.output, HD W⟩ D As w) (hb : W.heap[b]? = some o) : w.heap[b]? = some o :=
  @SInv.gl_heap ⟨W.os, W.output, HD W⟩ D As w b o h hb
theorem keep_var {D : PH} {As : List Assert} {w : World} {nm : String} {cs : Array Value} (h : @SInv ⟨W.os, W.output, HD W⟩ D As w) (hv : W.var? P nm = some cs) : w.var? P nm = some cs := by
  unfold World.var? at hv ⊢
  rw [Option.bind_eq_some_iff] at hv ⊢
  obtain ⟨g, hg, hv⟩ := hv
  refine ⟨g, hg, ?_⟩
  cases hb : W.heap[g]? with
  | none => rw [hb] at hv; cases hv
  | some o => rw [keep_heap h hb]; rw [hb] at hv; exact hv
theorem keep_cell {D : PH} {As : List Assert} {w : World} {g i : Nat} {v : Value} (h : @SInv ⟨W.os, W.output, HD W⟩ D As w) (hv : W.cell? ⟨g, i, none⟩ = some v) : w.cell? ⟨g, i, none⟩ = some v := by
  unfold World.cell? at hv ⊢
  cases hb : W.heap[g]? with
  | none => simp only [hb] at hv; cases hv
  | some o => simp only [keep_heap h hb]; simp only [hb] at hv; exact hv
/-- A listed error: some interface value. -/
theorem laid_iface {n nm : String} {d : DataW Unit} {r : List (String × DataW Unit)} {g : Nat} {ti : TypeId} {ms : Array (String × TypeId)} (h : laidMet P ((n, .iface nm d) :: r) W)
    (hg : P.globalNamed n = some g) (ht : (P.globals[g]?).map (·.type) = some ti) (hi : P.underlying ti = some (.interface ms)) : ∃ tp p, W.var? P n = some #[.iface tp p] := by
  obtain ⟨ps, ⟨g0, t0, cs0, f0, p0, q0, hg0, ht0, hv0, hd0, _, _⟩, _⟩ := h
  obtain rfl := Option.some.inj (hg.symm.trans hg0)
  obtain rfl := Option.some.inj (ht.symm.trans ht0)
  cases f0 with
  | zero => simp [DataW.trod] at hd0
  | succ k =>
    unfold DataW.trod at hd0
    rw [hi] at hd0
    obtain ⟨l⟩ := cs0
    cases l with
    | nil => simp at hd0
    | cons c l =>
      cases l with
      | nil => cases c <;> first | exact ⟨_, _, hv0⟩ | simp at hd0
      | cons c2 l => cases c <;> simp at hd0
end
end Sx
