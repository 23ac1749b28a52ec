/- Own library, eighth part: the steps that the generated walks take. -/
import Derived.Test.YteebpnooijknoaaDoorSxReg
namespace Sx
open Go
variable [WB]
set_option linter.all false

section
variable {P : Program} {n : Nat} {ops : Array Oper} {rest : List Oper} {o : Oper} {φ : Fr} {D : PH} {As B R : List Assert} {Q : Exit → Act → World → Prop} {v : Value}
/-- This value, whatever is laid down besides, and whatever lies beside B. -/
def QS (P : Program) (n : Nat) (o : Oper) (φ : Fr) (D : PH) (B : List Assert) (v : Value) : Prop := ∀ D' R, PH.le D D' → QV P n o φ D' (B ++ R) v
theorem QS.qv (h : QS P n o φ D As v) : QV P n o φ D As v := by
  have := h D [] (PH.le_refl D)
  rwa [List.append_nil] at this
theorem ql_q {K : Fr → Prop} (hw : want n φ ops o = true) (h : QS P n o φ D As v) (k : QL P n ops D As rest (updo φ o.dst v) K) : QL P n ops D As (o :: rest) φ K := ql_op hw h.qv k
theorem l_q (hw : want n φ ops o = true) (h : QS P n o φ D As v) (k : SimL P n ops rest (updo φ o.dst v) D As Q) : SimL P n ops (o :: rest) φ D As Q :=
  l_op hw (QV.opW (K := fun v' D' As' => v' = v ∧ D' = D ∧ As' = As) h.qv ⟨rfl, rfl, rfl⟩) (by rintro _ _ _ ⟨rfl, rfl, rfl⟩; exact k)
theorem o_qs {D0 : PH} {l : OT} {i : Nat} (hk : ops[i]? = some o) (hw : want n φ ops o = true) (h : QS P n o φ D0 B v) (kk : SimO P n ops Q D0 B l (updo φ o.dst v) D R) : SimO P n ops Q D0 B (.q i l) φ D R :=
  o_q hk hw (fun As D' hD => h D' As hD) kk

variable {d : Option Tmp} {t ty : TypeId} {x y : Operand} {pos : String} {aft : Array Edge} {g : Option (Nat × Bool)}
theorem qs_ldpt {α : Type} (e : Enc α) (hf : Fits P t e) {b off : Nat} {cs : List Value} {E : TypeId} (hx : ev n φ x = .pointer (some ⟨b, off, none⟩)) (k : Nat) (hk : B[k]? = some (pt b cs E)) (v : Value) (hl : off + e.sz ≤ cs.length) (hv : e.val ((cs.drop off).take e.sz) = v) : QS P n ⟨d, .load t x, ty, pos, aft, g⟩ φ D B v :=
  fun D' R _ => qv_ldpt e hf hx k (by rw [List.getElem?_append_left (by
    rcases Nat.lt_or_ge k B.length with h | h
    · exact h
    · rw [List.getElem?_eq_none h] at hk; cases hk)]; exact hk) hl hv
/-- At place o of block b lies z, and nobody changes it. -/
def AtB {α : Type} (e : Enc α) (D : PH) (b o : Nat) (z : α) : Prop := ∃ c E fr, D b = some (.cells c E fr) ∧ e.rep D ((c.toList.drop o).take e.sz) z
omit [WB] in
theorem AtB.mono {α : Type} {e : Enc α} {D D' : PH} {b o : Nat} {z : α} (hle : PH.le D D') (h : AtB e D b o z) : AtB e D' b o z := by
  obtain ⟨c, E, fr, hD, hr⟩ := h
  exact ⟨c, E, fr, hle _ _ hD, e.mono hle hr⟩
omit [WB] in
theorem AtB.field {α β : Type} {e : Enc α} {e' : Enc β} {D : PH} {b o : Nat} {z : α} {u : β} (k : Nat) (hk : k + e'.sz ≤ e.sz) (hr : ∀ cs, e.rep D cs z → e'.rep D ((cs.drop k).take e'.sz) u) (h : AtB e D b o z) : AtB e' D b (o + k) u := by
  obtain ⟨c, E, fr, hD, h⟩ := h
  refine ⟨c, E, fr, hD, ?_⟩
  have := hr _ h
  rw [List.drop_take, List.take_take, List.drop_drop] at this
  rwa [show min e'.sz (e.sz - k) = e'.sz by omega] at this
theorem qs_ldAt {α : Type} {e : Enc α} (hf : Fits P t e) {b off : Nat} {z : α} (hx : ev n φ x = .pointer (some ⟨b, off, none⟩)) (h : AtB e D b off z) : ∃ cs, e.rep D cs z ∧ QS P n ⟨d, .load t x, ty, pos, aft, g⟩ φ D B (e.val cs) := by
  obtain ⟨c, E, fr, hD, hr⟩ := h
  refine ⟨_, hr, fun D' R hle w hS => run_val ?_⟩
  rw [hx]
  exact run_loadVar hf (hS.D_heap (hle _ _ hD)) rfl (e.len hr)
theorem qs_ldAtV {α : Type} {e : Enc α} (hf : Fits P t e) {b off : Nat} {z : α} (hx : ev n φ x = .pointer (some ⟨b, off, none⟩)) (h : AtB e D b off z) {v : Value} (hv : ∀ cs, e.rep D cs z → e.val cs = v) : QS P n ⟨d, .load t x, ty, pos, aft, g⟩ φ D B v := by
  obtain ⟨cs, hc, hq⟩ := qs_ldAt (D := D) (B := B) (n := n) (φ := φ) (x := x) (d := d) (ty := ty) (pos := pos) (aft := aft) (g := g) hf hx h
  rw [hv cs hc] at hq
  exact hq
theorem qs_idxRO {α : Type} {elem : TypeId} {e : Enc α} {k : IntKind} {v : Value} {xs : List α} {j : Int} {z : α} (hu : P.underlying t = some (.slice elem)) (hf : Fits P elem e) (hx : ev n φ x = v) (hi : ev n φ y = .int k j) (hr : RO e D v xs) (hy : idx xs j = some z) :
    ∃ b o, AtB e D b o z ∧ QS P n ⟨d, .indexAddr t x y, ty, pos, aft, g⟩ φ D B (.pointer (some ⟨b, o, none⟩)) := by
  obtain ⟨h0, hlt, hg⟩ := idx_some hy
  obtain ⟨a, cap, rfl, hc, hb, h⟩ := hr
  obtain ⟨b, off, c, E, fr, rfl, hD, hrep⟩ := h (by intro e0; subst e0; simp at hlt)
  refine ⟨b, off + j.toNat * e.sz, ⟨c, E, fr, hD, hrep _ _ hg⟩, fun D' R _ w hS => run_val ?_⟩
  rw [hx, hi, run_indexAt hu hf.info hf.size h0 (by omega) w, add_adr]
/-- At address (b, o) lies element number j of the slice v. -/
def IsIdx (v : Value) (j : Int) (sz b o : Nat) : Prop := ∃ a len cap, v = .slice (some a) len cap ∧ 0 ≤ j ∧ j < (len : Int) ∧ a.add (j.toNat * sz) = ⟨b, o, none⟩
omit [WB] in
theorem RO.at {α : Type} {e : Enc α} {v : Value} {xs : List α} {j : Int} {z : α} (hr : RO e D v xs) (hy : idx xs j = some z) : ∃ b o, AtB e D b o z ∧ IsIdx v j e.sz b o := by
  obtain ⟨h0, hlt, hg⟩ := idx_some hy
  obtain ⟨a, cap, rfl, hc, hb, h⟩ := hr
  obtain ⟨b, off, c, E, fr, rfl, hD, hrep⟩ := h (by intro e0; subst e0; simp at hlt)
  exact ⟨b, off + j.toNat * e.sz, ⟨c, E, fr, hD, hrep _ _ hg⟩, _, _, _, rfl, h0, by omega, add_adr _ _ _⟩
theorem qs_idx {α : Type} {elem : TypeId} {e : Enc α} {k : IntKind} {v : Value} {j : Int} {b o : Nat} (h : IsIdx v j e.sz b o) (hu : P.underlying t = some (.slice elem)) (hf : Fits P elem e) (hx : ev n φ x = v) (hi : ev n φ y = .int k j) : QS P n ⟨d, .indexAddr t x y, ty, pos, aft, g⟩ φ D B (.pointer (some ⟨b, o, none⟩)) := by
  obtain ⟨a, len, cap, rfl, h0, hl, ha⟩ := h
  intro D' R _ w hS
  refine run_val ?_
  rw [hx, hi, run_indexAt hu hf.info hf.size h0 hl w, ha]
/-- The cells at a place that nobody changes. -/
def AtC (D : PH) (b o : Nat) (cs : List Value) : Prop := ∃ c E fr, D b = some (.cells c E fr) ∧ (c.toList.drop o).take cs.length = cs
omit [WB] in
theorem AtB.cells {α : Type} {e : Enc α} {b o : Nat} {z : α} (h : AtB e D b o z) : ∃ cs, e.rep D cs z ∧ AtC D b o cs := by
  obtain ⟨c, E, fr, hD, hr⟩ := h
  exact ⟨_, hr, c, E, fr, hD, by rw [e.len hr]⟩
theorem qs_ldC {α : Type} {e : Enc α} (hf : Fits P t e) {b o : Nat} {cs : List Value} (hx : ev n φ x = .pointer (some ⟨b, o, none⟩)) (h : AtC D b o cs) (hl : cs.length = e.sz) (v : Value) (hv : e.val cs = v) : QS P n ⟨d, .load t x, ty, pos, aft, g⟩ φ D B v := by
  obtain ⟨c, E, fr, hD, hr⟩ := h
  intro D' R hle w hS
  refine run_val ?_
  rw [hx, ← hv]
  rw [hl] at hr
  exact run_loadVar hf (hS.D_heap (hle _ _ hD)) hr hl
theorem qs_idxA {elem : TypeId} {k : IntKind} {b off len cap sz : Nat} {j : Int} (hu : P.underlying t = some (.slice elem)) (hi0 : (P.info? elem).isSome = true) (hs : P.cellsOf elem = sz) (hx : ev n φ x = .slice (some ⟨b, off, none⟩) len cap) (hi : ev n φ y = .int k j) (h0 : 0 ≤ j) (hl : j < len) :
    QS P n ⟨d, .indexAddr t x y, ty, pos, aft, g⟩ φ D B (.pointer (some ⟨b, off + j.toNat * sz, none⟩)) := fun D' R _ => qv_idxA hu hi0 hs hx hi h0 hl
/-- An element of an array of the code's own, where its cells are known of its datum. -/
theorem qs_ldA {α : Type} {e : Enc α} (hf : Fits P t e) {D0 : PH} {E : TypeId} {b cap off i : Nat} {xs : List α} {z : α} (hx : ev n φ x = .pointer (some ⟨b, off, none⟩)) (ho : off = i * e.sz) (k : Nat) (hk : B[k]? = some (OwnA D0 e E b cap xs)) (hy : xs[i]? = some z) {v : Value} (he : ∀ cs, e.rep D0 cs z → e.val cs = v) :
    QS P n ⟨d, .load t x, ty, pos, aft, g⟩ φ D B v := by
  intro D' R _ w hS
  refine run_val ?_
  rw [hx]
  have hk' : (B ++ R)[k]? = some (OwnA D0 e E b cap xs) := by
    rw [List.getElem?_append_left]
    · exact hk
    · rcases Nat.lt_or_ge k B.length with h | h
      · exact h
      · rw [List.getElem?_eq_none h] at hk; cases hk
  obtain ⟨q, ⟨cs, rfl, hl, hc, hb, hr⟩, hin, _⟩ := (hS.front k hk').head
  have h1 := hr i z hy
  rw [run_loadVar hf (hin b _ (one_self b _)) (by rw [ho]) (e.len h1)]
  exact congrArg (Result.ok · w) (he _ h1)
/-- One cell, whatever it holds; some cells. -/
def encV : Enc Value := { sz := 1, agg := false, rep := fun _ cs x => cs = [x] ∧ oc x = true, len := fun h => by rw [h.1]; rfl, pos := by decide, mono := fun _ h => h, one := fun _ => rfl, ocs := fun h => by rw [h.1]; simp [h.2] }
def encW (m : Nat) (hm : 0 < m) : Enc (List Value) := { sz := m, agg := true, rep := fun _ cs x => cs = x ∧ x.length = m ∧ x.all oc = true, len := fun h => by rw [h.1]; exact h.2.1, pos := hm, mono := fun _ h => h, one := fun h => (by cases h), ocs := fun h => by rw [h.1]; exact h.2.2 }
omit [WB] in
theorem valI {k : IntKind} {D : PH} {z : Int} (cs : List Value) (h : (encI k).rep D cs z) : (encI k).val cs = .int k z := by rw [show cs = [.int k z] from h]; rfl
omit [WB] in
theorem valF {k : FloatKind} {D : PH} {z : Nat} (cs : List Value) (h : (encF k).rep D cs z) : (encF k).val cs = .float k z := by rw [show cs = [.float k z] from h]; rfl
omit [WB] in
theorem valB {D : PH} {z : Bool} (cs : List Value) (h : encB.rep D cs z) : encB.val cs = .bool z := by rw [show cs = [.bool z] from h]; rfl

/-- Arithmetic on floats that yields no NaN. -/
theorem qs_fop {op : BinOp} {k : FloatKind} {a b r : Nat} {tx : TypeId} (hop : (match op with | .add => fadd k a b | .sub => fsub k a b | .mul => fmul k a b | .quo => fdiv k a b | _ => none) = some r) (hx : ev n φ x = .float k a) (hy : ev n φ y = .float k b) : QS P n ⟨d, .binOp op t x y tx, ty, pos, aft, g⟩ φ D B (.float k r) := by
  intro D' R _ w _
  refine run_val ?_
  rw [hx, hy]
  rw [run_bind_ok (eqGuard_quiet op t x y _ _ trivial w)]
  cases op <;> (try (cases hop; done))
  all_goals
    simp only [binOp, ne_eq, not_true_eq_false, if_false, Op.floatArith]
    simp only [fadd, fsub, fmul, fdiv] at hop
    rw [run_bind_ok (run_pure _ w), hop]
    rfl
theorem qs_idiv {op : BinOp} {k : IntKind} {a b r : Int} {tx : TypeId} (hb : b ≠ 0) (hop : (match op with | .quo => some (k.wrap (a.tdiv b)) | .rem => some (a.tmod b) | _ => none) = some r) (hx : ev n φ x = .int k a) (hy : ev n φ y = .int k b) : QS P n ⟨d, .binOp op t x y tx, ty, pos, aft, g⟩ φ D B (.int k r) := by
  intro D' R _ w _
  refine run_val ?_
  rw [hx, hy]
  rw [run_bind_ok (eqGuard_quiet op t x y _ _ trivial w)]
  cases op <;> (try (cases hop; done))
  all_goals
    obtain rfl := Option.some.inj hop
    simp only [binOp, ne_eq, not_true_eq_false, if_false, Op.intDiv, if_neg hb]
    rfl

end

/-! ### Cuts behind what only reads -/
section
variable {P : Program} {n : Nat} {φ : Fr} {D : PH} {As : List Assert} {Q : Exit → Act → World → Prop}
theorem c_cutq {a b : Code} (l : List (Nat × Value)) (h1 : SimC P n a φ D As (Exit.then (fun a w => ∃ φ', a = mk n φ' ∧ Is φ' l ∧ SInv D As w) Q)) (h2 : ∀ φ', SimC P n b (updl φ' l) D As Q) : SimC P n (.seq a b) φ D As Q := fun w hw =>
  wp_seq (Code.wp_mono (fun e a w h => by
    cases e <;> first | exact h | (obtain ⟨φ', rfl, hI, hS⟩ := h; have := h2 φ' w hS; rwa [updl_self hI] at this)) (h1 w hw))
theorem c_cutq_end {a : Code} (l : List (Nat × Value)) (h1 : SimC P n a φ D As (Exit.then (fun a w => ∃ φ', a = mk n φ' ∧ Is φ' l ∧ SInv D As w) Q)) (h2 : ∀ φ', End n (updl φ' l) D As Q .normal) : SimC P n a φ D As Q := fun w hw =>
  Code.wp_mono (fun e a w h => by
    cases e <;> first | exact h | (obtain ⟨φ', rfl, hI, hS⟩ := h; have := h2 φ' w hS; rwa [updl_self hI] at this)) (h1 w hw)
theorem e_cutq {l : List (Nat × Value)} (h : Is φ l) : End n φ D As (Exit.then (fun a w => ∃ φ', a = mk n φ' ∧ Is φ' l ∧ SInv D As w) Q) .normal := fun w hw => ⟨φ, rfl, h, hw⟩
end

/-! ### Small helpers of the pure side -/
omit [WB] in
theorem if_t {α : Type} {c : Bool} {a b x : α} (h : c = true) (hp : (if c = true then a else b) = x) : a = x := by rwa [if_pos h] at hp
omit [WB] in
theorem if_f {α : Type} {c : Bool} {a b x : α} (h : c = false) (hp : (if c = true then a else b) = x) : b = x := by rwa [if_neg (by simp [h])] at hp
def chkN (N : Int) : Option Nat := if N ≤ 2 ^ 62 then some N.toNat else none
omit [WB] in
theorem chkN_some {N : Int} {m : Nat} (h : chkN N = some m) : N ≤ 4611686018427387904 ∧ m = N.toNat := by
  unfold chkN at h
  split at h
  · rename_i hc; exact ⟨hc, by simpa using h.symm⟩
  · cases h
omit [WB] in
theorem addI_succ {i : Nat} (h : i < 4611686018427387904) : addI (i : Int) 1 = ((i + 1 : Nat) : Int) := by
  unfold addI IntKind.wrap
  simp [IntKind.bits, IntKind.signed]
  omega
omit [WB] in
theorem iter_some {S E : Type} {body : S → Option (Ctl S E)} {k : Nat} {s : S} {e : E} (h : iter body (k + 1) s = some e) : ∃ x, body s = some x ∧ (match x with | .go s' => iter body k s' = some e | .out e' => e' = e) := by
  simp only [iter] at h
  cases hb : body s with
  | none => rw [hb] at h; cases h
  | some x =>
    rw [hb] at h
    refine ⟨x, rfl, ?_⟩
    cases x with
    | go s' => exact h
    | out e' => exact Option.some.inj h
omit [WB] in
theorem forI_some {S E : Type} {body : Nat → S → Option (Ctl S E)} {j i : Nat} {s : S} {e : Ctl S E} (h : forI body (j + 1) i s = some e) : ∃ x, body i s = some x ∧ (match x with | .go s' => forI body j (i + 1) s' = some e | .out e' => .out e' = e) := by
  simp only [forI] at h
  cases hb : body i s with
  | none => rw [hb] at h; cases h
  | some x =>
    rw [hb] at h
    refine ⟨x, rfl, ?_⟩
    cases x with
    | go s' => exact h
    | out e' => exact Option.some.inj h
omit [WB] in
theorem forS_some {S : Type} {body : Nat → S → Option S} {j i : Nat} {s e : S} (h : forS body (j + 1) i s = some e) : ∃ x, body i s = some x ∧ forS body j (i + 1) x = some e := Option.bind_eq_some_iff.1 h
omit [WB] in
theorem forS_gen {S : Type} {f : Nat → S → Option S} {m i : Nat} {s : S} {x : Option S} (h : forS f m i s = x) : ∃ g, f = g ∧ forS g m i s = x := ⟨f, rfl, h⟩
omit [WB] in
theorem forI_gen {S E : Type} {f : Nat → S → Option (Ctl S E)} {m i : Nat} {s : S} {x : Option (Ctl S E)} (h : forI f m i s = x) : ∃ g, f = g ∧ forI g m i s = x := ⟨f, rfl, h⟩
omit [WB] in
theorem loopP_gen {S E : Type} {f : S → Option (Ctl S E)} {s : S} {x : Option E} (h : loopP f s = x) : ∃ g, f = g ∧ loopP g s = x := ⟨f, rfl, h⟩
omit [WB] in
theorem dec_lt_f {i m : Nat} {N : Int} (hm : m = N.toNat) (h : i = m) : decide ((i : Int) < N) = false := by simp; omega
omit [WB] in
theorem dec_lt_t {i m : Nat} {N : Int} (hm : m = N.toNat) (h : i < m) : decide ((i : Int) < N) = true := by simp; omega
end Sx
