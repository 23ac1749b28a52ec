/- Own library: interface values, calls by a method's name. -/
import Derived.Test.YteebpnooijknoaaDoorSxArr
namespace Sx
open Go
variable [WB]
set_option linter.all false

section
variable {P : Program} {n : Nat} {ops : Array Oper} {rest : List Oper} {φ : Fr} {D D0 : PH} {As B R : List Assert} {Q : Exit → Act → World → Prop} {l : OT} {i : Nat}
variable {d : Option Tmp} {t ty : TypeId} {x y : Operand} {pos : String} {aft : Array Edge} {g : Option (Nat × Bool)}

theorem qs_mkI {u : TypeDesc} {v : Value} (hu : P.underlying t = some u) (hi : (match u with | .interface _ => false | _ => true) = true) (hx : ev n φ x = v) : QS P n ⟨d, .makeInterface t x, ty, pos, aft, g⟩ φ D B (.iface t v) := by
  intro D' R _ w _
  refine run_val ?_
  rw [hx]
  unfold Instr.makeInterface
  rw [run_bind_ok (run_underlying hu w)]
  cases u <;> first | rfl | cases hi
theorem qs_tyAs {u : TypeDesc} {v : Value} {xt : TypeId} (hu : P.underlying t = some u) (hi : (match u with | .interface _ => false | _ => true) = true) (hx : ev n φ x = .iface t v) : QS P n ⟨d, .typeAssert x xt t false, ty, pos, aft, g⟩ φ D B v := by
  intro D' R _ w _
  refine run_val ?_
  rw [hx]
  unfold Instr.typeAssert
  rw [run_bind_ok (run_underlying hu w)]
  cases u <;> first | (dsimp only; rw [if_pos rfl]; rfl) | cases hi

theorem qs_eqptr {tx : TypeId} {op : BinOp} {E : TypeId} {a : Option Addr} (hu : P.underlying t = some (.pointer E)) (hx : ev n φ x = .pointer a) (hy : ev n φ y = .pointer none) (hop : op = .eql ∨ op = .neq) {v : Bool} (hv : (match op with | .eql => a.isNone | _ => !a.isNone) = v) : QS P n ⟨d, .binOp op t x y tx, ty, pos, aft, g⟩ φ D B (.bool v) := by
  intro D' R _ w _
  refine run_val ?_
  rw [hx, hy]
  rw [run_bind_ok (eqGuard_quiet op t x y _ _ trivial w)]
  have he : (Op.equal t (.pointer a) (.pointer none)).run P w = .ok a.isNone w := by
    show (Op.equalIn (9999 + 1) t _ _).run P w = _
    unfold Op.equalIn
    rw [run_bind_ok (run_underlying hu w)]
    cases a <;> rfl
  rcases hop with rfl | rfl
  · simp only [binOp]; rw [run_bind_ok he, ← hv]; rfl
  · simp only [binOp]; rw [run_bind_ok he, ← hv]; rfl
/-- The function behind a method's name, if no field is embedded on the way. -/
def meth (P : Program) (t : TypeId) (name : String) : Option (FuncId × Bool) := (P.info? t).bind fun i => (i.methods.find? (·.name == name)).bind fun m => if m.path.isEmpty then m.func else none
omit [WB] in
theorem run_method_aux {name : String} {f : FuncId} {pr : Bool} {v : Value} {k : Nat} (h : meth P t name = some (f, pr)) (w : World) : ∃ wr, (method (k + 1) t v name).run P w = ((receiverAt t (.val v) pr wr) >>= fun r => pure (f, r)).run P w := by
  unfold meth at h
  simp only [Option.bind_eq_some_iff] at h
  obtain ⟨ti, hti, m, hm, h⟩ := h
  split at h
  · rename_i hp
    refine ⟨if m.path.isEmpty then some ((name.splitOn ".").getLastD name) else none, ?_⟩
    unfold method
    rw [run_bind_ok (run_typeInfo hti w), hm]
    simp only
    have hpath : m.path.toList = [] := by simpa [Array.isEmpty_iff] using hp
    rw [hpath]
    rw [run_bind_ok (a := (t, Place.val v)) (w' := w) rfl]
    rw [h]
  · cases h
omit [WB] in
theorem run_methP {name : String} {f : FuncId} {v : Value} {k : Nat} {E : TypeId} (h : meth P t name = some (f, true)) (hu : P.underlying t = some (.pointer E)) (w : World) : (method (k + 1) t v name).run P w = .ok (f, v) w := by
  obtain ⟨wr, he⟩ := run_method_aux (v := v) (k := k) h w
  rw [he]
  unfold receiverAt
  rw [run_bind_ok (a := v) (w' := w) (by rw [run_bind_ok (run_underlying hu w)]; rfl)]
  rfl
omit [WB] in
theorem run_methD {name : String} {f : FuncId} {a : Addr} {v : Value} {k : Nat} {E : TypeId} {w : World} (h : meth P t name = some (f, false)) (hu : P.underlying t = some (.pointer E)) (hl : (loadVar E a).run P w = .ok v w) : (method (k + 1) t (.pointer (some a)) name).run P w = .ok (f, v) w := by
  obtain ⟨wr, he⟩ := run_method_aux (v := .pointer (some a)) (k := k) h w
  rw [he]
  unfold receiverAt
  rw [run_bind_ok (a := v) (w' := w) ?_]
  · rfl
  rw [run_bind_ok (run_underlying hu w)]
  simp only [Place.get]
  rw [run_bind_ok (a := Value.pointer (some a)) (w' := w) rfl]
  cases wr with
  | none => exact hl
  | some nm =>
    simp only
    have : (Builtin.ssaWrapNilChk_ #[t] t #[.pointer (some a), strVal "", strVal nm]).run P w = .ok (.pointer (some a)) w := rfl
    rw [run_bind_ok this]
    exact hl
omit [WB] in
theorem run_methV {name : String} {f : FuncId} {v : Value} {k : Nat} {u : TypeDesc} (h : meth P t name = some (f, false)) (hu : P.underlying t = some u) (hp : (match u with | .pointer _ => false | _ => true) = true) (w : World) : (method (k + 1) t v name).run P w = .ok (f, v) w := by
  obtain ⟨wr, he⟩ := run_method_aux (v := v) (k := k) h w
  rw [he]
  unfold receiverAt
  rw [run_bind_ok (a := v) (w' := w) (by rw [run_bind_ok (run_underlying hu w)]; cases u <;> first | rfl | cases hp)]
  rfl
omit [WB] in
theorem run_invoke {args : Array Operand} {ats : Array TypeId} {name : String} {f : FuncId} {v r : Value} {vs : List Value} {w : World} (hx : ev n φ x = .iface t v) (hm : ∀ k, (method (k + 1) t v name).run P w = .ok (f, r) w) (hrun : ∀ (as : Array Value) (w : World), (callFunc f as).run P w = .ok (.enter f as) w) (hv : r :: args.toList.map (ev n φ) = vs) :
    (execOp (ev n φ) ⟨d, .call ⟨.invoke x name, args, ats⟩, ty, pos, aft, g⟩).run P w = .ok (.enter f vs.toArray) w := by
  simp only [execOp]
  rw [run_bind_ok (a := ({ target := .fn (.method name) #[], args := #[ev n φ x] ++ args.map (ev n φ) } : Deferred)) (w' := w) rfl]
  simp only [invoke]
  rw [hx]
  have h0 : (#[Value.iface t v] ++ args.map (ev n φ))[0]? = some (.iface t v) := by simp [Array.getElem?_append]
  rw [h0]
  simp only [callMethod]
  rw [run_bind_ok (run_program w)]
  rw [run_bind_ok (a := (f, r)) (w' := w) (by rw [show P.types.size + Made.depth = (P.types.size + Made.depth - 1) + 1 from rfl]; exact hm _)]
  simp only
  rw [hrun]
  congr 1
  rw [← hv]
  have : (#[Value.iface t v] ++ args.map (ev n φ)).extract 1 (#[Value.iface t v] ++ args.map (ev n φ)).size = args.map (ev n φ) := by
    apply Array.ext'; simp; exact List.take_of_length_le (by simp)
  rw [this]
  congr 1
  apply Array.ext'; simp

/-- The operation enters function f with these arguments. -/
def Entr (P : Program) (n : Nat) (φ : Fr) (o : Oper) (D : PH) (As : List Assert) (f : FuncId) (vs : List Value) : Prop := ∀ w : World, SInv D As w → (execOp (ev n φ) o).run P w = .ok (.enter f vs.toArray) w
def EntS (P : Program) (n : Nat) (φ : Fr) (o : Oper) (D : PH) (B : List Assert) (f : FuncId) (vs : List Value) : Prop := ∀ D' R, PH.le D D' → Entr P n φ o D' (B ++ R) f vs
theorem EntS.here {o : Oper} {f : FuncId} {vs : List Value} (h : EntS P n φ o D As f vs) : Entr P n φ o D As f vs := by
  have := h D [] (PH.le_refl _)
  rwa [List.append_nil] at this
section
variable {args : Array Operand} {ats : Array TypeId} {name : String} {f : FuncId} {v r : Value} {vs : List Value}
theorem ent_methP {E : TypeId} (hx : ev n φ x = .iface t v) (h : meth P t name = some (f, true)) (hu : P.underlying t = some (.pointer E)) (hrun : ∀ (as : Array Value) (w : World), (callFunc f as).run P w = .ok (.enter f as) w) (hv : v :: args.toList.map (ev n φ) = vs) : EntS P n φ ⟨d, .call ⟨.invoke x name, args, ats⟩, ty, pos, aft, g⟩ D B f vs :=
  fun D' R _ w _ => run_invoke hx (fun k => run_methP h hu w) hrun hv
theorem ent_methV {u : TypeDesc} (hx : ev n φ x = .iface t v) (h : meth P t name = some (f, false)) (hu : P.underlying t = some u) (hp : (match u with | .pointer _ => false | _ => true) = true) (hrun : ∀ (as : Array Value) (w : World), (callFunc f as).run P w = .ok (.enter f as) w) (hv : v :: args.toList.map (ev n φ) = vs) : EntS P n φ ⟨d, .call ⟨.invoke x name, args, ats⟩, ty, pos, aft, g⟩ D B f vs :=
  fun D' R _ w _ => run_invoke hx (fun k => run_methV h hu hp w) hrun hv
theorem ent_methD {α : Type} (e : Enc α) {E E' : TypeId} {b off : Nat} {cs : List Value} (hx : ev n φ x = .iface t (.pointer (some ⟨b, off, none⟩))) (h : meth P t name = some (f, false)) (hu : P.underlying t = some (.pointer E)) (hrun : ∀ (as : Array Value) (w : World), (callFunc f as).run P w = .ok (.enter f as) w) (hf : Fits P E e) (k : Nat) (hk : B[k]? = some (pt b cs E')) (r : Value) (hl : off + e.sz ≤ cs.length) (hr : e.val ((cs.drop off).take e.sz) = r) (hv : r :: args.toList.map (ev n φ) = vs) : EntS P n φ ⟨d, .call ⟨.invoke x name, args, ats⟩, ty, pos, aft, g⟩ D B f vs := by
  intro D' R _ w hS
  have hk' : (B ++ R)[k]? = some (pt b cs E') := by
    rw [List.getElem?_append_left (by
      rcases Nat.lt_or_ge k B.length with h | h
      · exact h
      · rw [List.getElem?_eq_none h] at hk; cases hk)]; exact hk
  refine run_invoke hx (fun k => run_methD h hu ?_) hrun hv
  have := run_loadVar hf (hS.pt_heap hk') (off := off) (cs := (cs.drop off).take e.sz) (by simp) (by simp; omega)
  have h3 : (loadVar E ⟨b, off, none⟩).run P w = .ok (e.val ((cs.drop off).take e.sz)) w := this
  rw [h3, hr]
end
theorem ql_ent {K : Fr → Prop} {v : Value} {f : FuncId} {vs : List Value} {o : Oper} (hw : want n φ ops o = true) (he : EntS P n φ o D As f vs) (hc : ∀ w : World, SInv D As w → Calls P f vs.toArray w fun e w' => e = .returned v ∧ SInv D As w') (k : QL P n ops D As rest (updo φ o.dst v) K) : QL P n ops D As (o :: rest) φ K := by
  unfold QL
  rw [if_pos hw]
  exact ⟨v, fun w hS => by rw [he.here w hS]; exact ⟨rfl, hc w hS⟩, k⟩
theorem ow_ent {K : Value → PH → List Assert → Prop} {f : FuncId} {vs : List Value} {o : Oper} (he : Entr P n φ o D As f vs) (h : ∀ w : World, SInv D As w → Calls P f vs.toArray w (fun e w' => ∃ v D' As', e = .returned v ∧ K v D' As' ∧ SInv D' As' w')) : OpW P n o φ D As K := by
  intro w hS Q
  rw [he w hS]
  refine (h w hS).mono fun e w' hx => ?_
  obtain ⟨v, D', As', rfl, hK, hS'⟩ := hx
  exact ⟨v, D', As', rfl, hK, hS'⟩
theorem l_ent {f : FuncId} {vs : List Value} {o : Oper} (hw : want n φ ops o = true) (he : EntS P n φ o D As f vs) (K : Value → PH → List Assert → Prop) (hc : ∀ w : World, SInv D As w → Calls P f vs.toArray w (fun e w' => ∃ v D' As', e = .returned v ∧ K v D' As' ∧ SInv D' As' w')) (h : ∀ v D' As', K v D' As' → SimL P n ops rest (updo φ o.dst v) D' As' Q) : SimL P n ops (o :: rest) φ D As Q :=
  l_op hw (ow_ent (K := K) he.here hc) h
theorem l_entq {v : Value} {f : FuncId} {vs : List Value} {o : Oper} (hw : want n φ ops o = true) (he : EntS P n φ o D As f vs) (hc : ∀ w : World, SInv D As w → Calls P f vs.toArray w (fun e w' => e = .returned v ∧ SInv D As w')) (k : SimL P n ops rest (updo φ o.dst v) D As Q) : SimL P n ops (o :: rest) φ D As Q :=
  l_ent hw he (fun v' D1 As1 => v' = v ∧ D = D1 ∧ As1 = As) (fun w hS => (hc w hS).mono fun e w' h => ⟨_, _, _, h.1, ⟨rfl, rfl, rfl⟩, h.2⟩) (by rintro _ _ _ ⟨rfl, rfl, rfl⟩; exact k)
theorem o_ent {f : FuncId} {vs : List Value} {o : Oper} (hk : ops[i]? = some o) (hw : want n φ ops o = true) (he : EntS P n φ o D (B ++ R) f vs) (K : Value → PH → List Assert → Prop) (hc : ∀ w : World, SInv D (B ++ R) w → Calls P f vs.toArray w (fun e w' => ∃ v D' R', e = .returned v ∧ K v D' R' ∧ SInv D' (B ++ R') w')) (h : ∀ v D' R', K v D' R' → PH.le D0 D' ∧ SimO P n ops Q D0 B l (updo φ o.dst v) D' R') : SimO P n ops Q D0 B (.e i l) φ D R :=
  o_w hk hw (ow_ent (K := fun v D' As' => ∃ R', As' = B ++ R' ∧ PH.le D0 D' ∧ SimO P n ops Q D0 B l (updo φ o.dst v) D' R') he.here (fun w hS => (hc w hS).mono fun e w' hx => by
    obtain ⟨v, D', R', he', hK, hS'⟩ := hx
    exact ⟨v, D', B ++ R', he', ⟨R', rfl, h v D' R' hK⟩, hS'⟩))
theorem o_entq {v : Value} {f : FuncId} {vs : List Value} {o : Oper} (hk : ops[i]? = some o) (hw : want n φ ops o = true) (he : EntS P n φ o D (B ++ R) f vs) (hD : PH.le D0 D) (hc : ∀ w : World, SInv D (B ++ R) w → Calls P f vs.toArray w (fun e w' => e = .returned v ∧ SInv D (B ++ R) w')) (k : SimO P n ops Q D0 B l (updo φ o.dst v) D R) : SimO P n ops Q D0 B (.e i l) φ D R :=
  o_ent hk hw he (fun v' D1 R1 => v' = v ∧ D = D1 ∧ R1 = R) (fun w hS => (hc w hS).mono fun e w' h => ⟨_, _, _, h.1, ⟨rfl, rfl, rfl⟩, h.2⟩) (by rintro _ _ _ ⟨rfl, rfl, rfl⟩; exact ⟨hD, k⟩)
theorem o_entc {v : Value} {f : FuncId} {vs : List Value} {o : Oper} (hk : ops[i]? = some o) (hw : want n φ ops o = true) (he : EntS P n φ o D0 B f vs) (hc : ∀ D' R', PH.le D0 D' → ∀ w : World, SInv D' (B ++ R') w → Calls P f vs.toArray w fun e w' => e = .returned v ∧ SInv D' (B ++ R') w') (kk : SimO P n ops Q D0 B l (updo φ o.dst v) D R) : SimO P n ops Q D0 B (.q i l) φ D R :=
  ⟨o, hk, .inl ⟨hw, v, fun D' R' hD w hS => by rw [he D' R' hD w hS]; exact ⟨rfl, hc D' R' hD w hS⟩, kk⟩⟩
theorem ent_call {D : PH} {f : FuncId} {args : Array Operand} {ats : Array TypeId} {F : Operand} {cap : Array Value} {vs : List Value} (hF : ev n φ F = .func (.func f) #[] cap) (hrun : ∀ (as : Array Value) (w : World), (callFunc f as).run P w = .ok (.enter f as) w) (hv : args.toList.map (ev n φ) ++ cap.toList = vs) : EntS P n φ ⟨d, .call ⟨.value F, args, ats⟩, ty, pos, aft, g⟩ D B f vs :=
  fun D' R _ w _ => run_call hF hrun hv w
/-- Some operations that only read, taken together, in a region that keeps its order: the rest hangs on what the frame holds behind them. -/
theorem QL.simL : ∀ (seg : List Oper) (φ : Fr) {K : Fr → Prop}, QL P n ops D As seg φ K → (∀ φ', K φ' → SimL P n ops rest φ' D As Q) → SimL P n ops (seg ++ rest) φ D As Q
  | [], φ, K, h, hQ => hQ φ h
  | o :: l, φ, K, h, hQ => by
    unfold QL at h
    split at h
    · rename_i hw
      obtain ⟨v, h1, h2⟩ := h
      intro w hS
      rw [List.cons_append]
      unfold Go.wpList
      rw [wanted_mk, if_pos hw]
      refine .inl ?_
      unfold Oper.wp
      rw [eval_mk]
      have h3 := h1 w hS
      have ih := QL.simL l _ h2 hQ
      generalize (execOp (ev n φ) o).run P w = r at h3
      cases r with
      | ok x w' =>
        cases x <;> simp only [Oper.quietUpon] at h3 <;> simp only [Oper.upon]
        case value u => obtain ⟨rfl, rfl⟩ := h3; rw [put_mk]; exact ih _ hS
        case skip => obtain ⟨rfl, rfl⟩ := h3; rw [put_mk]; exact ih _ hS
        case enter f args =>
          obtain ⟨rfl, hc⟩ := h3
          exact hc.mono fun e w'' ⟨he, hS'⟩ => by subst he; simp only []; rw [put_mk]; exact ih _ hS'
      | halt x w' => simp only [Oper.quietUpon] at h3
    · rename_i hw
      exact l_skip (by simpa using hw) (QL.simL l _ h hQ)
theorem l_seg {l : List Oper} (m : Nat) (ll : List (Nat × Value)) (h : QL P n ops D As (l.take m) φ (fun φ' => Is φ' ll)) (k : ∀ φ', SimL P n ops (l.drop m) (updl φ' ll) D As Q) : SimL P n ops l φ D As Q := by
  have := QL.simL (rest := l.drop m) (Q := Q) _ φ h (fun φ' hI => by have := k φ'; rwa [updl_self hI] at this)
  rwa [List.take_append_drop] at this
end
end Sx
