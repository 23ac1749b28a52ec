/- Own library: arrays as values and in boxes, slices of slices that nobody changes. -/
import Derived.Test.YteebpnooijknoaaDoorSxOwn
namespace Sx
open Go
variable [WB]
set_option linter.all false

section
variable {P : Program} {n : Nat} {ops : Array Oper} {rest : List Oper} {φ : Fr} {D D0 : PH} {As B R : List Assert} {Q : Exit → Act → World → Prop}
variable {d : Option Tmp} {t ty : TypeId} {x y : Operand} {pos : String} {aft : Array Edge} {g : Option (Nat × Bool)}

theorem qs_bldArr {parts : Array (Nat × Operand)} {m : Nat} {E : TypeId} {zs cs : List Value} (hu : P.underlying t = some (.array m E)) (hE : (P.info? E).isSome = true) (hz : zeroCs P t = some zs) (hf : fillL (fun i => some (i * P.cellsOf E, P.cellsOf E)) zs (parts.toList.map fun x => (x.1, ev n φ x.2)) = some cs) : QS P n ⟨d, .build t parts, ty, pos, aft, g⟩ φ D B (.agg cs.toArray) := by
  intro D' R _ w _
  obtain ⟨z, rfl, hz2⟩ := run_zeroValue hz w
  refine run_val ?_
  unfold Instr.build
  rw [run_bind_ok hz2, run_bind_ok (run_underlying hu w)]
  simp only
  rw [run_bind_ok (run_sizeOf hE w)]
  have hfl := fill_fillL (fun i => some (i * P.cellsOf E, P.cellsOf E)) (parts.toList.map fun x => (x.1, ev n φ x.2)) z.cells.toList
  have hpt : (parts.map fun (i, x) => (i, ev n φ x)).toList = parts.toList.map fun x => (x.1, ev n φ x.2) := by simp
  rw [hpt]
  rw [Array.toArray_toList] at hfl
  rw [hfl, hf]
  rfl
/-- The place of an array's element, in a box. -/
theorem qs_idxAP {m : Nat} {E : TypeId} {b off sz : Nat} {k : IntKind} {j : Int} (hu : P.underlying t = some (.array m E)) (hE : (P.info? E).isSome = true) (hs : P.cellsOf E = sz) (hx : ev n φ x = .pointer (some ⟨b, off, none⟩)) (hi : ev n φ y = .int k j) (h0 : 0 ≤ j) (hl : j < m) : QS P n ⟨d, .indexAddr t x y, ty, pos, aft, g⟩ φ D B (.pointer (some ⟨b, off + j.toNat * sz, none⟩)) := by
  intro D' R _ w _
  refine run_val ?_
  rw [hx, hi]
  unfold Instr.indexAt
  rw [run_bind_ok (a := (k, j)) (w' := w) rfl]
  simp only
  rw [run_bind_ok (run_underlying hu w)]
  simp only
  rw [run_bind_ok (a := (⟨b, off, none⟩ : Addr)) (w' := w) rfl]
  rw [run_bind_ok (a := (some (⟨b, off, none⟩ : Addr), m, E)) (w' := w) rfl]
  rw [run_bind_ok (run_underlying hu w)]
  simp only
  rw [if_pos ⟨h0, hl⟩, run_bind_ok (run_sizeOf hE w), hs, add_adr]
  rfl
theorem qs_ldAP {α : Type} {e : Enc α} (hf : Fits P t e) {b off o : Nat} {cs : List Value} {E : TypeId} {xs : List α} {j : Int} {z : α} (hx : ev n φ x = .pointer (some ⟨b, o, none⟩)) (ho : o = off + j.toNat * e.sz) (k : Nat) (hk : B[k]? = some (pt b cs E)) (hr : RepL e D0 (cs.drop off) xs) (hz : idx xs j = some z) {v : Value} (hv : ∀ cs, e.rep D0 cs z → e.val cs = v) : QS P n ⟨d, .load t x, ty, pos, aft, g⟩ φ D B v := by
  intro D' R _ w hS
  refine run_val ?_
  rw [hx]
  have hk' : (B ++ R)[k]? = some (pt b cs E) := by
    rw [List.getElem?_append_left (by
      rcases Nat.lt_or_ge k B.length with h | h
      · exact h
      · rw [List.getElem?_eq_none h] at hk; cases hk)]; exact hk
  obtain ⟨h0, hlt, hg⟩ := idx_some hz
  have h1 := hr.at _ _ hg
  rw [List.drop_drop] at h1
  have h2 := run_loadVar hf (hS.pt_heap hk') (off := o) (cs := (cs.drop (off + j.toNat * e.sz)).take e.sz) (by rw [ho]) (e.len h1)
  rw [h2, hv _ h1]

omit [WB] in
theorem idx_lt {α : Type} {xs : List α} {j : Int} {z : α} {m : Nat} (h : idx xs j = some z) (hm : xs.length = m) : j < m := by
  obtain ⟨h0, h1, _⟩ := idx_some h; omega

/-! ### Slices of slices -/
/-- x[l:h], where h does not pass the length. -/
def slc {α : Type} (xs : List α) (l h : Int) : Option (List α) := if 0 ≤ l ∧ l ≤ h ∧ h ≤ xs.length then some ((xs.take h.toNat).drop l.toNat) else none
omit [WB] in
theorem slc_some {α : Type} {xs ys : List α} {l h : Int} (hy : slc xs l h = some ys) : 0 ≤ l ∧ l ≤ h ∧ h ≤ xs.length ∧ ys = (xs.take h.toNat).drop l.toNat := by
  unfold slc at hy
  split at hy
  · rename_i hc; exact ⟨hc.1, hc.2.1, hc.2.2, by simpa using hy.symm⟩
  · cases hy
/-- The value of the slice of a slice. -/
def slcV (v : Value) (l h : Nat) (sz : Nat) : Value := match v with
  | .slice a _ cap => .slice (if cap = l then a else a.map (·.add (l * sz))) (h - l) (cap - l)
  | v => v
omit [WB] in
theorem RO.slc {α : Type} {e : Enc α} {v : Value} {xs ys : List α} {l h : Int} (hv : RO e D v xs) (hy : Sx.slc xs l h = some ys) : ∃ a cap, slcV v l.toNat h.toNat e.sz = .slice a ys.length cap ∧ RO e D (.slice a ys.length cap) ys := by
  obtain ⟨h0, h1, h2, rfl⟩ := slc_some hy
  obtain ⟨a, cap, rfl, hc, hb, hr⟩ := hv
  have hlen : ((xs.take h.toNat).drop l.toNat).length = h.toNat - l.toNat := by
    rw [List.length_drop, List.length_take]; omega
  refine ⟨if cap = l.toNat then a else a.map (·.add (l.toNat * e.sz)), cap - l.toNat, by rw [hlen]; rfl, ⟨_, _, rfl, by rw [hlen]; omega, by rw [hlen]; omega, fun hne => ?_⟩⟩
  have hlt : l.toNat < h.toNat := by
    rcases Nat.lt_or_ge l.toNat h.toNat with hh | hh
    · exact hh
    · exfalso; apply hne; apply List.eq_nil_of_length_eq_zero; omega
  obtain ⟨b, off, c, E, fr, rfl, hD, hrep⟩ := hr (by intro h0; subst h0; simp at h2; omega)
  refine ⟨b, off + l.toNat * e.sz, c, E, fr, ?_, hD, fun i x hx => ?_⟩
  · rw [if_neg (by omega)]
    simp [add_adr]
  · rw [List.getElem?_drop] at hx
    have hil : l.toNat + i < h.toNat := by
      rcases Nat.lt_or_ge (l.toNat + i) h.toNat with hh | hh
      · exact hh
      · rw [List.getElem?_eq_none (by rw [List.length_take]; omega)] at hx; cases hx
    rw [List.getElem?_take_of_lt hil] at hx
    have := hrep _ _ hx
    rw [show off + l.toNat * e.sz + i * e.sz = off + (l.toNat + i) * e.sz by rw [Nat.add_mul]; omega]
    exact this
/-- A bound that is left out, or an int. -/
def Bnd (n : Nat) (φ : Fr) (o : Option Operand) (v : Int) (dflt : Int) : Prop := match o with | none => v = dflt | some x => ∃ k, ev n φ x = .int k v
theorem qs_slice {α : Type} {e : Enc α} {E : TypeId} {a : Option Addr} {m cap : Nat} {lo hi : Option Operand} {l h : Int} {xs ys : List α} {v : Value} (hu : P.underlying t = some (.slice E)) (hf : Fits P E e) (hx : ev n φ x = .slice a m cap) (hm : xs.length = m) (hc : m ≤ cap) (hl : Bnd n φ lo l 0) (hh : Bnd n φ hi h m) (hy : slc xs l h = some ys) (hv : slcV (.slice a m cap) l.toNat h.toNat e.sz = v) : QS P n ⟨d, .slice t x lo hi none, ty, pos, aft, g⟩ φ D B v := by
  obtain ⟨h0, h1, h2, _⟩ := slc_some hy
  intro D' R _ w _
  refine run_val ?_
  simp only [Option.map_none]
  rw [hx]
  unfold Instr.sliceAt
  rw [run_bind_ok (run_underlying hu w)]
  simp only
  unfold Instr.slice
  rw [run_bind_ok (run_underlying hu w)]
  simp only
  have hsb : ∀ (k : IntKind) (z : Int) (u : Nat) (cd : BoundsCode), 0 ≤ z → z ≤ u → (Instr.sliceBound (.int k z) u cd).run P w = .ok z.toNat w := by
    intro k z u cd hz0 hz1
    unfold Instr.sliceBound
    rw [run_bind_ok (a := (k, z)) (w' := w) rfl]
    simp only
    rw [if_pos ⟨hz0, hz1⟩]; rfl
  have hb : (Instr.sliceBounds true m cap (lo.map (ev n φ)) (hi.map (ev n φ)) none).run P w = .ok (l.toNat, h.toNat, cap) w := by
    unfold Instr.sliceBounds
    rw [run_bind_ok (a := cap) (w' := w) rfl]
    cases hi with
    | none =>
      simp only [Option.map_none]
      have hh' : h = (m : Int) := hh
      rw [run_bind_ok (a := h.toNat) (w' := w) (by rw [hh']; rfl)]
      cases lo with
      | none =>
        simp only [Option.map_none]
        have hl' : l = (0 : Int) := hl
        rw [hl']; rfl
      | some o =>
        obtain ⟨k, hk⟩ := hl
        simp only [Option.map_some, hk]
        rw [run_bind_ok (hsb k l _ _ h0 (by omega))]; rfl
    | some o' =>
      obtain ⟨k', hk'⟩ := hh
      simp only [Option.map_some, hk']
      rw [run_bind_ok (hsb k' h _ _ (by omega) (by omega))]
      cases lo with
      | none =>
        simp only [Option.map_none]
        have hl' : l = (0 : Int) := hl
        rw [hl']; rfl
      | some o =>
        obtain ⟨k, hk⟩ := hl
        simp only [Option.map_some, hk]
        rw [run_bind_ok (hsb k l _ _ h0 (by omega))]; rfl
  rw [run_bind_ok hb]
  simp only
  rw [run_bind_ok (run_sizeOf hf.info w), hf.size, ← hv]
  rfl
omit [WB] in
theorem RO.cap {α : Type} {e : Enc α} {a : Option Addr} {m c : Nat} {xs : List α} (h : RO e D (.slice a m c) xs) : xs.length = m ∧ m ≤ c := by
  obtain ⟨_, _, h1, h2, _⟩ := h
  injection h1 with h1 h3 h4
  subst h4; exact ⟨h3.symm, h3 ▸ h2⟩
omit [WB] in
/-- The head of an own slice. -/
theorem slcV_own {α : Type} {a : Option Addr} {b m cap sz : Nat} {h : Int} {xs : List α} (hb : Beg a b xs) : slcV (.slice a m cap) (0 : Int).toNat h.toNat sz = .slice a h.toNat cap := by
  simp only [slcV, Int.toNat_zero, Nat.sub_zero, Nat.zero_mul]
  rcases hb with rfl | ⟨rfl, _⟩ <;> simp [add_adr]
omit [WB] in
theorem slc_ne {α : Type} {xs ys : List α} {l h : Int} (hy : slc xs l h = some ys) (hne : ys ≠ []) : xs ≠ [] := by
  intro h0
  obtain ⟨_, _, _, rfl⟩ := slc_some hy
  subst h0; simp at hne
omit [WB] in
theorem OwnS.cutTo {α : Type} {e : Enc α} {D1 : PH} {E : TypeId} {a : Option Addr} {m cap : Nat} {h : Int} {xs ys : List α} (hy : slc xs 0 h = some ys) (k : PH) (o : OwnS D1 e E (.slice a m cap) xs k) : OwnS D1 e E (.slice a h.toNat cap) ys k := by
  obtain ⟨h0, h1, h2, rfl⟩ := slc_some hy
  have hl : ((xs.take h.toNat).drop (0 : Int).toNat).length = h.toNat := by simp; omega
  rcases o with ⟨e1, rfl, rfl⟩ | ⟨b, cap', e1, cs, rfl, hcl, hcc, hcb, hr⟩
  · injection e1 with e1 e2 e3
    subst e1; subst e3
    have : h.toNat = 0 := by simp at h2; omega
    exact .inl ⟨by rw [this], by simp, rfl⟩
  · injection e1 with e1 e2 e3
    subst e1; subst e3
    refine .inr ⟨b, cap, by rw [hl], cs, rfl, hcl, by rw [hl]; omega, by rw [hl]; omega, fun i x hx => hr i x ?_⟩
    simp only [Int.toNat_zero, List.drop_zero] at hx
    have hlt : i < h.toNat := by
      rcases Nat.lt_or_ge i h.toNat with hh | hh
      · exact hh
      · rw [List.getElem?_eq_none (by rw [List.length_take]; omega)] at hx; cases hx
    rwa [List.getElem?_take_of_lt hlt] at hx
omit [WB] in
theorem slc_len {α : Type} {xs ys : List α} {h : Int} (hy : slc xs 0 h = some ys) : ys.length = h.toNat := by
  obtain ⟨h0, h1, h2, rfl⟩ := slc_some hy
  simp; omega
omit [WB] in
theorem Beg.cutTo {α : Type} {a : Option Addr} {b : Nat} {xs ys : List α} {h : Int} (hy : slc xs 0 h = some ys) (hb : Beg a b xs) : Beg a b ys := hb.imp id fun hh => ⟨hh.1, by
  obtain ⟨_, _, _, rfl⟩ := slc_some hy
  rw [hh.2]; simp⟩
/-- A part of an element of an own slice. -/
theorem qs_ldSF {α β : Type} {e : Enc α} {e' : Enc β} {D1 : PH} {E : TypeId} {xs : List α} (hf : Fits P t e') {a : Option Addr} {b cap m off i fo : Nat} {z : α} {u : β} (hb : Beg a b xs) (hx : ev n φ x = .pointer (some ⟨b, off, none⟩)) (ho : off = i * e.sz + fo) (hfo : fo + e'.sz ≤ e.sz) (k : Nat) (hk : B[k]? = some (OwnS D1 e E (.slice a m cap) xs)) (hy : xs[i]? = some z) (hr' : ∀ cs, e.rep D1 cs z → e'.rep D1 ((cs.drop fo).take e'.sz) u) {v : Value} (he : ∀ cs, e'.rep D1 cs u → e'.val cs = v) :
    QS P n ⟨d, .load t x, ty, pos, aft, g⟩ φ D B v := by
  intro D' R _ w hS
  refine run_val ?_
  rw [hx]
  have hk' : (B ++ R)[k]? = some (OwnS D1 e E (.slice a m cap) xs) := by
    rw [List.getElem?_append_left (by
      rcases Nat.lt_or_ge k B.length with h | h
      · exact h
      · rw [List.getElem?_eq_none h] at hk; cases hk)]; exact hk
  obtain ⟨q, hq, hin, _⟩ := (hS.front k hk').head
  have hne : xs ≠ [] := by intro h0; subst h0; simp at hy
  obtain ⟨cs, rfl, hl, hc, hbd, hr⟩ := OwnS.toB hb hne q hq
  have h1 := hr' _ (hr i z hy)
  rw [List.drop_take, List.take_take, List.drop_drop, show min e'.sz (e.sz - fo) = e'.sz by omega] at h1
  have h2 := run_loadVar hf (hin b _ (one_self b _)) (off := off) (cs := (cs.drop (i * e.sz + fo)).take e'.sz) (by rw [ho]) (e'.len h1)
  rw [h2, he _ h1]

/-! ### New slices -/
section
variable {α : Type} {e : Enc α} {E : TypeId} {l : OT} {i : Nat} {d : Nat}
theorem l_mkS {zs : List Value} {z : α} {a c : Int} {ys : List α} (hm : mk2 z a c = some ys) (hw : want n φ ops ⟨some d, .makeSlice t x y, ty, pos, aft, g⟩ = true) (he : Elem P t E e) (hz : zeroCs P E = some zs) (hr : e.rep D zs z) (hx : ev n φ x = .int .i64 a) (hy : ev n φ y = .int .i64 c)
    (h : ∀ b cap, SimL P n ops rest (upd φ d (.slice (some ⟨b, 0, none⟩) ys.length cap)) D (OwnS D e E (.slice (some ⟨b, 0, none⟩) ys.length cap) ys :: As) Q) : SimL P n ops (⟨some d, .makeSlice t x y, ty, pos, aft, g⟩ :: rest) φ D As Q :=
  l_mk hm hw he hz hr hx hy fun b hl => by rw [← hl]; exact l_imp (OwnS.ofA' rfl) (h b _)
theorem o_mkS {zs : List Value} {z : α} {a c : Int} {ys : List α} (hm : mk2 z a c = some ys) (hk : ops[i]? = some ⟨some d, .makeSlice t x y, ty, pos, aft, g⟩) (hw : want n φ ops ⟨some d, .makeSlice t x y, ty, pos, aft, g⟩ = true) (hD : PH.le D0 D) (he : Elem P t E e) (hz : zeroCs P E = some zs) (hr : e.rep D zs z) (hx : ev n φ x = .int .i64 a) (hy : ev n φ y = .int .i64 c)
    (h : ∀ b cap, SimO P n ops Q D0 B l (upd φ d (.slice (some ⟨b, 0, none⟩) ys.length cap)) D (OwnS D e E (.slice (some ⟨b, 0, none⟩) ys.length cap) ys :: R)) : SimO P n ops Q D0 B (.e i l) φ D R :=
  o_mk hm hk hw hD he hz hr hx hy fun b hl => by rw [← hl]; exact o_imp (OwnS.ofA' rfl) (h b _)
theorem l_bslS {len : Nat} {parts : Array (Nat × Operand)} {cs : List Value} (xs : List α) (hw : want n φ ops ⟨some d, .buildSlice t len parts, ty, pos, aft, g⟩ = true) (hb : bsl P t len (parts.toList.map fun x => (x.1, ev n φ x.2)) = some (E, cs)) (hl : cs.length = len * e.sz) (hx : xs.length = len) (hbd : len ≤ 2 ^ 62) (hr : RepL e D cs xs)
    (h : ∀ b cap, SimL P n ops rest (upd φ d (.slice (some ⟨b, 0, none⟩) xs.length cap)) D (OwnS D e E (.slice (some ⟨b, 0, none⟩) xs.length cap) xs :: As) Q) : SimL P n ops (⟨some d, .buildSlice t len parts, ty, pos, aft, g⟩ :: rest) φ D As Q :=
  l_bsl hw hb fun b => l_imp (fun k hk => OwnS.ofA' hx k (pt_ownA len hl (by omega) hbd hr k hk)) (by have := h b len; rwa [hx] at this)
theorem o_bslS {len : Nat} {parts : Array (Nat × Operand)} {cs : List Value} (xs : List α) (hk : ops[i]? = some ⟨some d, .buildSlice t len parts, ty, pos, aft, g⟩) (hw : want n φ ops ⟨some d, .buildSlice t len parts, ty, pos, aft, g⟩ = true) (hD : PH.le D0 D) (hb : bsl P t len (parts.toList.map fun x => (x.1, ev n φ x.2)) = some (E, cs)) (hl : cs.length = len * e.sz) (hx : xs.length = len) (hbd : len ≤ 2 ^ 62) (hr : RepL e D cs xs)
    (h : ∀ b cap, SimO P n ops Q D0 B l (upd φ d (.slice (some ⟨b, 0, none⟩) xs.length cap)) D (OwnS D e E (.slice (some ⟨b, 0, none⟩) xs.length cap) xs :: R)) : SimO P n ops Q D0 B (.e i l) φ D R :=
  o_bsl hk hw hD hb fun b => o_imp (fun k hk => OwnS.ofA' hx k (pt_ownA len hl (by omega) hbd hr k hk)) (by have := h b len; rwa [hx] at this)
end

/-! ### max, min of floats -/
theorem qs_maxF {k : FloatKind} {a b r : Nat} {x y : Operand} {ats : Array TypeId} (hx : ev n φ x = .float k a) (hy : ev n φ y = .float k b) (h : fmax k a b = some r) : QS P n ⟨d, .call ⟨.builtin .max, #[x, y], ats⟩, ty, pos, aft, g⟩ φ D B (.float k r) := by
  intro D' R _ w _
  simp only [execOp]
  obtain ⟨cs, hcs⟩ := run_builtin (P := P) (n := n) (φ := φ) (ty := ty) (bt := .max) (args := #[x, y]) (ats := ats) w
  rw [run_bind_ok hcs]
  simp only [invoke, builtin]
  refine run_val ?_
  unfold Builtin.max_
  simp only [Array.toList_map, List.map_cons, List.map_nil, hx, hy]
  unfold fmax at h
  rw [List.foldlM_cons, run_bind_ok (a := .float k r) (w' := w)]
  · rfl
  unfold Builtin.max2
  cases hc : k.format.order a b with
  | none => rw [hc] at h; cases h
  | some o =>
    rw [hc] at h
    cases o <;> (simp only at h ⊢; obtain rfl := Option.some.inj h; rw [hc]; rfl)
theorem qs_minF {k : FloatKind} {a b r : Nat} {x y : Operand} {ats : Array TypeId} (hx : ev n φ x = .float k a) (hy : ev n φ y = .float k b) (h : fmin k a b = some r) : QS P n ⟨d, .call ⟨.builtin .min, #[x, y], ats⟩, ty, pos, aft, g⟩ φ D B (.float k r) := by
  intro D' R _ w _
  simp only [execOp]
  obtain ⟨cs, hcs⟩ := run_builtin (P := P) (n := n) (φ := φ) (ty := ty) (bt := .min) (args := #[x, y]) (ats := ats) w
  rw [run_bind_ok hcs]
  simp only [invoke, builtin]
  refine run_val ?_
  unfold Builtin.min_
  simp only [Array.toList_map, List.map_cons, List.map_nil, hx, hy]
  unfold fmin at h
  rw [List.foldlM_cons, run_bind_ok (a := .float k r) (w' := w)]
  · rfl
  unfold Builtin.min2
  cases hc : k.format.order a b with
  | none => rw [hc] at h; cases h
  | some o =>
    rw [hc] at h
    cases o <;> (simp only at h ⊢; obtain rfl := Option.some.inj h; rw [hc]; rfl)
end
end Sx
