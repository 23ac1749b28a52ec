/- Own library, fourth part: data in memory, and the operations that read and write it. -/
import Derived.Test.YteebpnooijknoaaDoorSxOps
namespace Sx
open Go
variable [WB]
set_option linter.all false

omit [WB] in
theorem add_adr (b off n : Nat) : (⟨b, off, none⟩ : Addr).add n = ⟨b, off + n, none⟩ := by
  unfold Addr.add
  split
  · rename_i h; subst h; rfl
  · rfl

/-! ### How data lie -/
def oc : Value → Bool | .agg _ | .tuple _ => false | _ => true
structure Enc (α : Type) where
  sz : Nat
  agg : Bool
  rep : PH → List Value → α → Prop
  len : ∀ {D cs x}, rep D cs x → cs.length = sz
  pos : 0 < sz
  mono : ∀ {D D' cs x}, PH.le D D' → rep D cs x → rep D' cs x
  one : agg = false → sz = 1
  ocs : ∀ {D cs x}, rep D cs x → cs.all oc = true
/-- The value that some cells make. -/
def Enc.val {α : Type} (e : Enc α) (cs : List Value) : Value := if e.agg then .agg cs.toArray else cs.headD undef

def encI (k : IntKind) : Enc Int := { sz := 1, agg := false, rep := fun _ cs x => cs = [.int k x], len := fun h => by rw [h]; rfl, pos := by decide, mono := fun _ h => h, one := fun _ => rfl, ocs := fun h => by rw [h]; rfl }
def encF (k : FloatKind) : Enc Nat := { sz := 1, agg := false, rep := fun _ cs x => cs = [.float k x], len := fun h => by rw [h]; rfl, pos := by decide, mono := fun _ h => h, one := fun _ => rfl, ocs := fun h => by rw [h]; rfl }
def encB : Enc Bool := { sz := 1, agg := false, rep := fun _ cs x => cs = [.bool x], len := fun h => by rw [h]; rfl, pos := by decide, mono := fun _ h => h, one := fun _ => rfl, ocs := fun h => by rw [h]; rfl }

/-- A slice that is read alone. -/
def RO {α : Type} (e : Enc α) (D : PH) (v : Value) (xs : List α) : Prop :=
  ∃ a cap, v = .slice a xs.length cap ∧ xs.length ≤ cap ∧ xs.length ≤ 2 ^ 62 ∧
    (xs ≠ [] → ∃ b off c E fr, a = some ⟨b, off, none⟩ ∧ D b = some (.cells c E fr) ∧ ∀ i x, xs[i]? = some x → e.rep D ((c.toList.drop (off + i * e.sz)).take e.sz) x)
omit [WB] in
theorem RO.mono {α : Type} {e : Enc α} {D D' : PH} {v : Value} {xs : List α} (hle : PH.le D D') (h : RO e D v xs) : RO e D' v xs := by
  obtain ⟨a, cap, hv, hc, hb, h⟩ := h
  refine ⟨a, cap, hv, hc, hb, fun hne => ?_⟩
  obtain ⟨b, off, c, E, fr, ha, hD, hr⟩ := h hne
  exact ⟨b, off, c, E, fr, ha, hle _ _ hD, fun i x hx => e.mono hle (hr i x hx)⟩
omit [WB] in
theorem RO.nil {α : Type} (e : Enc α) (D : PH) : RO e D (.slice none 0 0) [] := ⟨none, 0, rfl, Nat.le_refl _, by simp, fun h => absurd rfl h⟩
omit [WB] in
theorem RO.len {α : Type} {e : Enc α} {D : PH} {v : Value} {xs : List α} (h : RO e D v xs) : ∃ a cap, v = .slice a xs.length cap := let ⟨a, cap, h, _⟩ := h; ⟨a, cap, h⟩
omit [WB] in
theorem RO.bound {α : Type} {e : Enc α} {D : PH} {v : Value} {xs : List α} (h : RO e D v xs) : xs.length ≤ 2 ^ 62 := let ⟨_, _, _, _, h, _⟩ := h; h

/-- A slice of slices' (or strings') element: one cell that is such a slice. -/
def encS {α : Type} (e : Enc α) : Enc (List α) := { sz := 1, agg := false, rep := fun D cs xs => ∃ v, cs = [v] ∧ RO e D v xs, len := fun ⟨v, h, _⟩ => by rw [h]; rfl, pos := by decide, mono := fun hle ⟨v, h, hr⟩ => ⟨v, h, hr.mono hle⟩, one := fun _ => rfl, ocs := fun ⟨v, h, hr⟩ => by obtain ⟨a, c, hv, _⟩ := hr; rw [h, hv]; rfl }

/-- At address p lies x, and nobody changes it. -/
def At {α : Type} (e : Enc α) (D : PH) (p : Addr) (x : α) : Prop := ∃ b off c E fr, p = ⟨b, off, none⟩ ∧ D b = some (.cells c E fr) ∧ e.rep D ((c.toList.drop off).take e.sz) x

/-- An array of the code's own, of a slice's whole capacity; the first xs.length places are told. -/
def OwnA {α : Type} (D : PH) (e : Enc α) (E : TypeId) (b cap : Nat) (xs : List α) : Assert := fun h =>
  ∃ cs : List Value, h = PH.one b (.cells cs.toArray E (0, 0)) ∧ cs.length = cap * e.sz ∧ xs.length ≤ cap ∧ xs.length ≤ 2 ^ 62 ∧ ∀ i x, xs[i]? = some x → e.rep D ((cs.drop (i * e.sz)).take e.sz) x
/-- A slice of the code's own: nil, or one that begins at its array's head. -/
def OwnS {α : Type} (D : PH) (e : Enc α) (E : TypeId) (v : Value) (xs : List α) : Assert := fun h =>
  (v = .slice none 0 0 ∧ xs = [] ∧ h = PH.nil) ∨ ∃ b cap, v = .slice (some ⟨b, 0, none⟩) xs.length cap ∧ OwnA D e E b cap xs h

omit [WB] in
theorem OwnA.mono {α : Type} {D D' : PH} {e : Enc α} {E : TypeId} {b cap : Nat} {xs : List α} (hle : PH.le D D') (h : PH) (a : OwnA D e E b cap xs h) : OwnA D' e E b cap xs h := by
  obtain ⟨cs, h1, h2, h3, h4, h6⟩ := a
  exact ⟨cs, h1, h2, h3, h4, fun i x hx => e.mono hle (h6 i x hx)⟩
omit [WB] in
theorem OwnS.mono {α : Type} {D D' : PH} {e : Enc α} {E : TypeId} {v : Value} {xs : List α} (hle : PH.le D D') (h : PH) (a : OwnS D e E v xs h) : OwnS D' e E v xs h :=
  a.imp id fun ⟨b, cap, hv, ha⟩ => ⟨b, cap, hv, ha.mono hle⟩
omit [WB] in
theorem OwnS.ofA {α : Type} {D : PH} {e : Enc α} {E : TypeId} {b cap : Nat} {xs : List α} (h : PH) (a : OwnA D e E b cap xs h) : OwnS D e E (.slice (some ⟨b, 0, none⟩) xs.length cap) xs h := .inr ⟨b, cap, rfl, a⟩

section
variable {P : Program} {n : Nat} {ops : Array Oper} {rest : List Oper} {φ : Fr} {D : PH} {As : List Assert} {Q : Exit → Act → World → Prop} {K : Fr → Prop}

/-! ### Reading memory -/
omit [WB] in
theorem run_load {w : World} {b off : Nat} {c : Array Value} {E : TypeId} {fr : Nat × Nat} {v : Value} (hb : w.heap[b]? = some (.cells c E fr)) (hv : c[off]? = some v) : (load ⟨b, off, none⟩).run P w = .ok v w := by
  have : w.cell? ⟨b, off, none⟩ = some v := by simp [World.cell?, hb, hv]
  simp [load, Sem.run, this]

omit [WB] in
theorem run_loadFrom {w : World} {b off : Nat} {c : Array Value} {E : TypeId} {fr : Nat × Nat} (hb : w.heap[b]? = some (.cells c E fr)) : ∀ (m i : Nat) (acc : Array Value), off + i + m ≤ c.size →
    (loadCellsFrom ⟨b, off, none⟩ i m acc).run P w = .ok (acc ++ ((c.toList.drop (off + i)).take m).toArray) w
  | 0, i, acc, h => by simp [loadCellsFrom]
  | m + 1, i, acc, h => by
    unfold loadCellsFrom
    rw [add_adr, run_bind_ok (run_load hb (v := c[off + i]) (by rw [Array.getElem?_eq_getElem]))]
    rw [run_loadFrom hb m (i + 1) _ (by omega)]
    congr 1
    rw [← Array.toList_inj]
    simp only [Array.toList_append, Array.toList_push, List.append_assoc]
    congr 1
    have hlt : off + i < c.size := by omega
    rw [show List.take (m + 1) (List.drop (off + i) c.toList) = c[off + i] :: List.take m (List.drop (off + (i + 1)) c.toList) from by
      rw [List.drop_eq_getElem_cons (by simpa using hlt), List.take_succ_cons]; simp [Nat.add_assoc]]
    rfl

omit [WB] in
theorem run_loadCells {w : World} {b off m : Nat} {c : Array Value} {E : TypeId} {fr : Nat × Nat} (hb : w.heap[b]? = some (.cells c E fr)) (h : off + m ≤ c.size) : (loadCells ⟨b, off, none⟩ m).run P w = .ok ((c.toList.drop off).take m).toArray w := by
  unfold loadCells
  rw [run_loadFrom hb m 0 #[] (by omega)]
  simp

structure Fits {α : Type} (P : Program) (t : TypeId) (e : Enc α) : Prop where
  info : (P.info? t).isSome = true
  size : P.cellsOf t = e.sz
  desc : ∃ d, P.underlying t = some d ∧ isAggD d = e.agg

theorem run_loadVar {α : Type} {t : TypeId} {e : Enc α} (hf : Fits P t e) {w : World} {b off : Nat} {c : Array Value} {E : TypeId} {fr : Nat × Nat} (hb : w.heap[b]? = some (.cells c E fr)) {cs : List Value} (hcs : (c.toList.drop off).take e.sz = cs) (hl : cs.length = e.sz) :
    (Instr.loadAt t (.pointer (some ⟨b, off, none⟩))).run P w = .ok (e.val cs) w := by
  obtain ⟨d, hd, hag⟩ := hf.desc
  have hsz : off + e.sz ≤ c.size := by
    have := congrArg List.length hcs
    rw [hl] at this
    simp only [List.length_take, List.length_drop, Array.length_toList] at this
    have := e.pos
    omega
  unfold Instr.loadAt
  rw [run_bind_ok (a := ⟨b, off, none⟩) (w' := w) rfl]
  unfold loadVar
  rw [run_bind_ok (run_isAgg hd w)]
  cases ha : e.agg with
  | true =>
    rw [hag, ha, if_pos rfl, run_bind_ok (run_sizeOf hf.info w), hf.size, run_bind_ok (run_loadCells hb hsz)]
    simp only [Enc.val, ha, if_true]
    rw [hcs]; rfl
  | false =>
    rw [hag, ha, if_neg (by simp)]
    have h1 := e.one ha
    rw [h1] at hcs hsz
    have hlt : off < c.size := by omega
    refine run_load hb ?_
    rw [Array.getElem?_eq_getElem hlt]
    simp only [Enc.val, ha, Bool.false_eq_true, if_false]
    rw [← hcs, List.drop_eq_getElem_cons (by simpa using hlt)]
    simp

/-- Of a block that is owned. The cells are written out. -/
theorem qv_ldpt {α : Type} {d : Option Tmp} {t : TypeId} {x : Operand} {ty : TypeId} {pos : String} {aft : Array Edge} {g : Option (Nat × Bool)} (e : Enc α) (hf : Fits P t e) {b off : Nat} {cs : List Value} {E : TypeId} (hx : ev n φ x = .pointer (some ⟨b, off, none⟩))
    (k : Nat) (hk : As[k]? = some (pt b cs E)) {v : Value} (hl : off + e.sz ≤ cs.length) (hv : e.val ((cs.drop off).take e.sz) = v) : QV P n ⟨d, .load t x, ty, pos, aft, g⟩ φ D As v := by
  intro w hS
  refine run_val ?_
  rw [hx]
  rw [run_loadVar hf (hS.pt_heap hk) rfl (by simp; omega)]
  simp [hv]

theorem qv_ldAt {α : Type} {d : Option Tmp} {t : TypeId} {x : Operand} {ty : TypeId} {pos : String} {aft : Array Edge} {g : Option (Nat × Bool)} {e : Enc α} (hf : Fits P t e) {p : Addr} {y : α} (hx : ev n φ x = .pointer (some p)) (h : At e D p y) :
    ∃ cs, e.rep D cs y ∧ QV P n ⟨d, .load t x, ty, pos, aft, g⟩ φ D As (e.val cs) := by
  obtain ⟨b, off, c, E, fr, rfl, hD, hr⟩ := h
  refine ⟨_, hr, fun w hS => run_val ?_⟩
  rw [hx]
  exact run_loadVar hf (hS.D_heap hD) rfl (e.len hr)

theorem run_indexAt {t elem : TypeId} {k : IntKind} {i : Int} {a : Addr} {len cap : Nat} {sz : Nat} (hu : P.underlying t = some (.slice elem)) (hi : (P.info? elem).isSome = true) (hs : P.cellsOf elem = sz) (h0 : 0 ≤ i) (hl : i < len) (w : World) :
    (Instr.indexAt t (.slice (some a) len cap) (.int k i)).run P w = .ok (.pointer (some (a.add (i.toNat * sz)))) w := by
  unfold Instr.indexAt
  rw [run_bind_ok (a := (k, i)) (w' := w) rfl]
  simp only
  rw [run_bind_ok (run_underlying hu w)]
  simp only
  rw [run_bind_ok (a := (some a, len, elem)) (w' := w) rfl]
  rw [run_bind_ok (run_underlying hu w)]
  simp only
  rw [if_pos ⟨h0, hl⟩, run_bind_ok (run_sizeOf hi w), hs]
  rfl

/-- An index into a slice that is read alone. -/
theorem qv_idxRO {α : Type} {d : Option Tmp} {t elem : TypeId} {x i : Operand} {ty : TypeId} {pos : String} {aft : Array Edge} {g : Option (Nat × Bool)} {e : Enc α} {k : IntKind} {v : Value} {xs : List α} {j : Int} {y : α} (hu : P.underlying t = some (.slice elem)) (hf : Fits P elem e)
    (hx : ev n φ x = v) (hi : ev n φ i = .int k j) (hr : RO e D v xs) (hy : idx xs j = some y) : ∃ p, At e D p y ∧ QV P n ⟨d, .indexAddr t x i, ty, pos, aft, g⟩ φ D As (.pointer (some p)) := by
  obtain ⟨h0, hlt, hg⟩ := idx_some hy
  obtain ⟨a, cap, rfl, hc, hb, h⟩ := hr
  obtain ⟨b, off, c, E, fr, rfl, hD, hrep⟩ := h (by intro e0; subst e0; simp at hlt)
  refine ⟨⟨b, off + j.toNat * e.sz, none⟩, ⟨b, _, c, E, fr, rfl, hD, hrep _ _ hg⟩, fun w hS => run_val ?_⟩
  rw [hx, hi, run_indexAt hu hf.info hf.size h0 (by omega) w, add_adr]

/-- An index into an array of the code's own. -/
theorem qv_idxA {d : Option Tmp} {t elem : TypeId} {x i : Operand} {ty : TypeId} {pos : String} {aft : Array Edge} {g : Option (Nat × Bool)} {k : IntKind} {b off len cap sz : Nat} {j : Int} (hu : P.underlying t = some (.slice elem)) (hi0 : (P.info? elem).isSome = true) (hs : P.cellsOf elem = sz)
    (hx : ev n φ x = .slice (some ⟨b, off, none⟩) len cap) (hi : ev n φ i = .int k j) (h0 : 0 ≤ j) (hl : j < len) : QV P n ⟨d, .indexAddr t x i, ty, pos, aft, g⟩ φ D As (.pointer (some ⟨b, off + j.toNat * sz, none⟩)) := by
  intro w hS
  refine run_val ?_
  rw [hx, hi, run_indexAt hu hi0 hs h0 hl w, add_adr]

/-- What lies in an array of the code's own. -/
theorem qv_ldA {α : Type} {d : Option Tmp} {t : TypeId} {x : Operand} {ty : TypeId} {pos : String} {aft : Array Edge} {g : Option (Nat × Bool)} {e : Enc α} (hf : Fits P t e) {D0 : PH} {E : TypeId} {b cap off i : Nat} {xs : List α} {y : α} (hx : ev n φ x = .pointer (some ⟨b, off, none⟩)) (ho : off = i * e.sz)
    (k : Nat) (hk : As[k]? = some (OwnA D0 e E b cap xs)) (hy : xs[i]? = some y) (he : ∀ cs cs', e.rep D0 cs y → e.rep D0 cs' y → e.val cs = e.val cs') {cs0 : List Value} (hc0 : e.rep D0 cs0 y) : QV P n ⟨d, .load t x, ty, pos, aft, g⟩ φ D As (e.val cs0) := by
  intro w hS
  refine run_val ?_
  rw [hx]
  obtain ⟨q, ⟨cs, rfl, hl, hc, hb, hr⟩, hin, _⟩ := (hS.front k hk).head
  have h1 := hr i y hy
  rw [run_loadVar hf (hin b _ (one_self b _)) (by rw [ho]) (e.len h1)]
  exact congrArg (Result.ok · w) (he _ _ h1 hc0)
end
end Sx
