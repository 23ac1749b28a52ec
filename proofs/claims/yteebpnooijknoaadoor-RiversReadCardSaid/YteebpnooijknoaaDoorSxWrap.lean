/- Own library, ninth part: the steps that change memory, as the generated walks take them. -/
import Derived.Test.YteebpnooijknoaaDoorSxWalk
namespace Sx
open Go
variable [WB]
set_option linter.all false

section
variable {P : Program} {n : Nat} {ops : Array Oper} {rest : List Oper} {φ : Fr} {D D0 : PH} {As B R : List Assert} {Q : Exit → Act → World → Prop} {l : OT} {i : Nat}
variable {d : Nat} {t ty : TypeId} {x y : Operand} {pos : String} {aft : Array Edge} {g : Option (Nat × Bool)}

theorem OpW.mono {o : Oper} {K K' : Value → PH → List Assert → Prop} (h : OpW P n o φ D As K) (hk : ∀ v D' As', K v D' As' → ∃ As'', As'.Perm As'' ∧ K' v D' As'') : OpW P n o φ D As K' := by
  intro w hS Q
  have h1 := h w hS Q
  generalize (execOp (ev n φ) o).run P w = r at h1
  have fin : ∀ (a : Act) (w' : World), (∃ v D' As', a = (mk n φ).put o.dst v ∧ K v D' As' ∧ SInv D' As' w') → ∃ v D' As', a = (mk n φ).put o.dst v ∧ K' v D' As' ∧ SInv D' As' w' := by
    rintro a w' ⟨v, D', As', rfl, hK, hS'⟩
    obtain ⟨As'', hp, hK'⟩ := hk v D' As' hK
    exact ⟨v, D', As'', rfl, hK', hS'.perm hp⟩
  cases r with
  | ok x w' =>
    cases x <;> simp only [Oper.upon] at h1 ⊢
    case value v => exact fin _ _ h1
    case skip => exact fin _ _ h1
    case defer d => exact fin _ _ h1
    case enter f args => exact h1.mono fun e w'' he => by cases e <;> first | exact fin _ _ he | exact he
    case row r args => exact Rows.mono h1 fun v w'' he => fin _ _ he
  | halt x w' => cases x <;> simp only [Oper.upon] at h1 ⊢ <;> exact h1
theorem OpW.perm {o : Oper} {K : Value → PH → List Assert → Prop} {As' : List Assert} (hp : As.Perm As') (h : OpW P n o φ D As' K) : OpW P n o φ D As K := fun w hS Q => h w (hS.perm hp) Q

theorem SimO.perm : ∀ (l : OT) {φ : Fr} {D : PH} {R R' : List Assert}, R.Perm R' → SimO P n ops Q D0 B l φ D R' → SimO P n ops Q D0 B l φ D R
  | .nil, φ, D, R, R', hp, h => fun w hS => h w (hS.perm (hp.append_left B))
  | .f k l r, φ, D, R, R', hp, h => by
    obtain ⟨⟨o, ho, h⟩, hr⟩ := h
    refine ⟨⟨o, ho, ?_⟩, SimO.perm r hp hr⟩
    rcases h with ⟨hw, h1⟩ | ⟨hw, h2⟩
    · exact .inl ⟨hw, h1.perm (hp.append_left B)⟩
    · exact .inr ⟨hw, SimO.perm l hp h2⟩
  | .q k l, φ, D, R, R', hp, h => by
    obtain ⟨o, ho, h⟩ := h
    refine ⟨o, ho, ?_⟩
    rcases h with ⟨hw, v, h1, h2⟩ | ⟨hw, h2⟩
    · exact .inl ⟨hw, v, h1, SimO.perm l hp h2⟩
    · exact .inr ⟨hw, SimO.perm l hp h2⟩
  | .e k l, φ, D, R, R', hp, h => by
    obtain ⟨o, ho, h⟩ := h
    refine ⟨o, ho, ?_⟩
    rcases h with ⟨hw, h1⟩ | ⟨hw, h2⟩
    · exact .inl ⟨hw, h1.perm (hp.append_left B)⟩
    · exact .inr ⟨hw, SimO.perm l hp h2⟩
theorem o_perm {R' : List Assert} (hp : R.Perm R') (h : SimO P n ops Q D0 B l φ D R') : SimO P n ops Q D0 B l φ D R := SimO.perm l hp h
omit [WB] in
theorem pmid (X : Assert) : (X :: (B ++ R)).Perm (B ++ X :: R) := List.perm_middle.symm

/-! ### A new variable, a new box -/
theorem l_alloc {E : TypeId} {zs : List Value} (hw : want n φ ops ⟨some d, .alloc E, ty, pos, aft, g⟩ = true) (hz : zeroCs P E = some zs) (h : ∀ b, SimL P n ops rest (upd φ d (.pointer (some ⟨b, 0, none⟩))) D (pt b zs E :: As) Q) : SimL P n ops (⟨some d, .alloc E, ty, pos, aft, g⟩ :: rest) φ D As Q :=
  l_op hw (ow_alloc (K := fun v D' As' => ∃ b, v = .pointer (some ⟨b, 0, none⟩) ∧ D' = D ∧ As' = pt b zs E :: As) hz fun b => ⟨b, rfl, rfl, rfl⟩) (by rintro _ _ _ ⟨b, rfl, rfl, rfl⟩; exact h b)
theorem l_box {E : TypeId} {cs : List Value} (hw : want n φ ops ⟨some d, .box E x, ty, pos, aft, g⟩ = true) (hc : (ev n φ x).cells.toList = cs) (h : ∀ b, SimL P n ops rest (upd φ d (.pointer (some ⟨b, 0, none⟩))) D (pt b cs E :: As) Q) : SimL P n ops (⟨some d, .box E x, ty, pos, aft, g⟩ :: rest) φ D As Q :=
  l_op hw (ow_box (K := fun v D' As' => ∃ b, v = .pointer (some ⟨b, 0, none⟩) ∧ D' = D ∧ As' = pt b cs E :: As) hc fun b => ⟨b, rfl, rfl, rfl⟩) (by rintro _ _ _ ⟨b, rfl, rfl, rfl⟩; exact h b)
theorem o_alloc {E : TypeId} {zs : List Value} (hk : ops[i]? = some ⟨some d, .alloc E, ty, pos, aft, g⟩) (hw : want n φ ops ⟨some d, .alloc E, ty, pos, aft, g⟩ = true) (hD : PH.le D0 D) (hz : zeroCs P E = some zs) (h : ∀ b, SimO P n ops Q D0 B l (upd φ d (.pointer (some ⟨b, 0, none⟩))) D (pt b zs E :: R)) : SimO P n ops Q D0 B (.e i l) φ D R :=
  o_w hk hw (OpW.mono (ow_alloc (K := fun v D' As' => ∃ b, v = .pointer (some ⟨b, 0, none⟩) ∧ D' = D ∧ As' = pt b zs E :: (B ++ R)) hz fun b => ⟨b, rfl, rfl, rfl⟩) (by rintro _ _ _ ⟨b, rfl, rfl, rfl⟩; exact ⟨_, pmid _, _, rfl, hD, h b⟩))
theorem o_box {E : TypeId} {cs : List Value} (hk : ops[i]? = some ⟨some d, .box E x, ty, pos, aft, g⟩) (hw : want n φ ops ⟨some d, .box E x, ty, pos, aft, g⟩ = true) (hD : PH.le D0 D) (hc : (ev n φ x).cells.toList = cs) (h : ∀ b, SimO P n ops Q D0 B l (upd φ d (.pointer (some ⟨b, 0, none⟩))) D (pt b cs E :: R)) : SimO P n ops Q D0 B (.e i l) φ D R :=
  o_w hk hw (OpW.mono (ow_box (K := fun v D' As' => ∃ b, v = .pointer (some ⟨b, 0, none⟩) ∧ D' = D ∧ As' = pt b cs E :: (B ++ R)) hc fun b => ⟨b, rfl, rfl, rfl⟩) (by rintro _ _ _ ⟨b, rfl, rfl, rfl⟩; exact ⟨_, pmid _, _, rfl, hD, h b⟩))

/-! ### Literals of slices -/
theorem l_bsl {len : Nat} {parts : Array (Nat × Operand)} {E : TypeId} {cs : List Value} (hw : want n φ ops ⟨some d, .buildSlice t len parts, ty, pos, aft, g⟩ = true) (hb : bsl P t len (parts.toList.map fun x => (x.1, ev n φ x.2)) = some (E, cs)) (h : ∀ b, SimL P n ops rest (upd φ d (.slice (some ⟨b, 0, none⟩) len len)) D (pt b cs E :: As) Q) :
    SimL P n ops (⟨some d, .buildSlice t len parts, ty, pos, aft, g⟩ :: rest) φ D As Q :=
  l_op hw (ow_buildSlice (K := fun v D' As' => ∃ b, v = .slice (some ⟨b, 0, none⟩) len len ∧ D' = D ∧ As' = pt b cs E :: As) hb fun b => ⟨b, rfl, rfl, rfl⟩) (by rintro _ _ _ ⟨b, rfl, rfl, rfl⟩; exact h b)
theorem o_bsl {len : Nat} {parts : Array (Nat × Operand)} {E : TypeId} {cs : List Value} (hk : ops[i]? = some ⟨some d, .buildSlice t len parts, ty, pos, aft, g⟩) (hw : want n φ ops ⟨some d, .buildSlice t len parts, ty, pos, aft, g⟩ = true) (hD : PH.le D0 D) (hb : bsl P t len (parts.toList.map fun x => (x.1, ev n φ x.2)) = some (E, cs))
    (h : ∀ b, SimO P n ops Q D0 B l (upd φ d (.slice (some ⟨b, 0, none⟩) len len)) D (pt b cs E :: R)) : SimO P n ops Q D0 B (.e i l) φ D R :=
  o_w hk hw (OpW.mono (ow_buildSlice (K := fun v D' As' => ∃ b, v = .slice (some ⟨b, 0, none⟩) len len ∧ D' = D ∧ As' = pt b cs E :: (B ++ R)) hb fun b => ⟨b, rfl, rfl, rfl⟩) (by rintro _ _ _ ⟨b, rfl, rfl, rfl⟩; exact ⟨_, pmid _, _, rfl, hD, h b⟩))

/-! ### make -/
theorem l_make {α : Type} {e : Enc α} {E : TypeId} {zs : List Value} {z : α} {a c : Int} (hw : want n φ ops ⟨some d, .makeSlice t x y, ty, pos, aft, g⟩ = true) (he : Elem P t E e) (hz : zeroCs P E = some zs) (hr : e.rep D zs z) (hx : ev n φ x = .int .i64 a) (hy : ev n φ y = .int .i64 c) (h0 : 0 ≤ a) (hac : a ≤ c) (hc : c ≤ cap40)
    (h : ∀ b, SimL P n ops rest (upd φ d (.slice (some ⟨b, 0, none⟩) a.toNat c.toNat)) D (OwnA D e E b c.toNat (List.replicate a.toNat z) :: As) Q) : SimL P n ops (⟨some d, .makeSlice t x y, ty, pos, aft, g⟩ :: rest) φ D As Q :=
  l_op hw (ow_make (K := fun v D' As' => ∃ b, v = .slice (some ⟨b, 0, none⟩) a.toNat c.toNat ∧ D' = D ∧ As' = OwnA D e E b c.toNat (List.replicate a.toNat z) :: As) he hz z hr hx hy h0 hac hc fun b => ⟨b, rfl, rfl, rfl⟩) (by rintro _ _ _ ⟨b, rfl, rfl, rfl⟩; exact h b)
theorem o_make {α : Type} {e : Enc α} {E : TypeId} {zs : List Value} {z : α} {a c : Int} (hk : ops[i]? = some ⟨some d, .makeSlice t x y, ty, pos, aft, g⟩) (hw : want n φ ops ⟨some d, .makeSlice t x y, ty, pos, aft, g⟩ = true) (hD : PH.le D0 D) (he : Elem P t E e) (hz : zeroCs P E = some zs) (hr : e.rep D zs z) (hx : ev n φ x = .int .i64 a) (hy : ev n φ y = .int .i64 c) (h0 : 0 ≤ a) (hac : a ≤ c) (hc : c ≤ cap40)
    (h : ∀ b, SimO P n ops Q D0 B l (upd φ d (.slice (some ⟨b, 0, none⟩) a.toNat c.toNat)) D (OwnA D e E b c.toNat (List.replicate a.toNat z) :: R)) : SimO P n ops Q D0 B (.e i l) φ D R :=
  o_w hk hw (OpW.mono (ow_make (K := fun v D' As' => ∃ b, v = .slice (some ⟨b, 0, none⟩) a.toNat c.toNat ∧ D' = D ∧ As' = OwnA D e E b c.toNat (List.replicate a.toNat z) :: (B ++ R)) he hz z hr hx hy h0 hac hc fun b => ⟨b, rfl, rfl, rfl⟩) (by rintro _ _ _ ⟨b, rfl, rfl, rfl⟩; exact ⟨_, pmid _, _, rfl, hD, h b⟩))

/-! ### Stores -/
theorem l_store {dd : Option Tmp} {b off : Nat} {E : TypeId} {cs vs cs' : List Value} (hw : want n φ ops ⟨none, .store t x y, ty, pos, aft, g⟩ = true) (hi : (P.info? t).isSome = true) (hs : P.cellsOf t = vs.length) (hx : ev n φ x = .pointer (some ⟨b, off, none⟩)) (hv : (ev n φ y).cells.toList = vs) (hl : off + vs.length ≤ cs.length) (ho : vs.all oc = true) (hc : putc cs off vs = cs')
    (h : SimL P n ops rest φ D (pt b cs' E :: As) Q) : SimL P n ops (⟨none, .store t x y, ty, pos, aft, g⟩ :: rest) φ D (pt b cs E :: As) Q :=
  l_op hw (ow_storept (K := fun v D' As' => D' = D ∧ As' = pt b cs' E :: As) hi hs hx hv hl ho hc ⟨rfl, rfl⟩) (by rintro _ _ _ ⟨rfl, rfl⟩; exact h)
theorem o_store {b off : Nat} {E : TypeId} {cs vs cs' : List Value} (hk : ops[i]? = some ⟨none, .store t x y, ty, pos, aft, g⟩) (hw : want n φ ops ⟨none, .store t x y, ty, pos, aft, g⟩ = true) (hD : PH.le D0 D) (hi : (P.info? t).isSome = true) (hs : P.cellsOf t = vs.length) (hx : ev n φ x = .pointer (some ⟨b, off, none⟩)) (hv : (ev n φ y).cells.toList = vs) (hl : off + vs.length ≤ cs.length) (ho : vs.all oc = true) (hc : putc cs off vs = cs')
    (h : SimO P n ops Q D0 B l φ D (pt b cs' E :: R)) : SimO P n ops Q D0 B (.e i l) φ D (pt b cs E :: R) :=
  o_w hk hw (OpW.perm (pmid _).symm (OpW.mono (ow_storept (K := fun v D' As' => D' = D ∧ As' = pt b cs' E :: (B ++ R)) hi hs hx hv hl ho hc ⟨rfl, rfl⟩) (by rintro _ _ _ ⟨rfl, rfl⟩; exact ⟨_, pmid _, _, rfl, hD, h⟩)))
theorem l_storeA {α : Type} {e : Enc α} {D1 : PH} {E : TypeId} {b cap j off : Nat} {xs : List α} {z : α} {vs : List Value} (hw : want n φ ops ⟨none, .store t x y, ty, pos, aft, g⟩ = true) (hf : Fits P t e) (hx : ev n φ x = .pointer (some ⟨b, off, none⟩)) (hoff : off = j * e.sz) (hv : (ev n φ y).cells.toList = vs) (hz : e.rep D1 vs z) (hi : j < xs.length)
    (h : SimL P n ops rest φ D (OwnA D1 e E b cap (xs.set j z) :: As) Q) : SimL P n ops (⟨none, .store t x y, ty, pos, aft, g⟩ :: rest) φ D (OwnA D1 e E b cap xs :: As) Q :=
  l_op hw (ow_storeA (K := fun v D' As' => D' = D ∧ As' = OwnA D1 e E b cap (xs.set j z) :: As) hf hx hoff hv hz hi ⟨rfl, rfl⟩) (by rintro _ _ _ ⟨rfl, rfl⟩; exact h)
theorem o_storeA {α : Type} {e : Enc α} {D1 : PH} {E : TypeId} {b cap j off : Nat} {xs : List α} {z : α} {vs : List Value} (hk : ops[i]? = some ⟨none, .store t x y, ty, pos, aft, g⟩) (hw : want n φ ops ⟨none, .store t x y, ty, pos, aft, g⟩ = true) (hD : PH.le D0 D) (hf : Fits P t e) (hx : ev n φ x = .pointer (some ⟨b, off, none⟩)) (hoff : off = j * e.sz) (hv : (ev n φ y).cells.toList = vs) (hz : e.rep D1 vs z) (hi : j < xs.length)
    (h : SimO P n ops Q D0 B l φ D (OwnA D1 e E b cap (xs.set j z) :: R)) : SimO P n ops Q D0 B (.e i l) φ D (OwnA D1 e E b cap xs :: R) :=
  o_w hk hw (OpW.perm (pmid _).symm (OpW.mono (ow_storeA (K := fun v D' As' => D' = D ∧ As' = OwnA D1 e E b cap (xs.set j z) :: (B ++ R)) hf hx hoff hv hz hi ⟨rfl, rfl⟩) (by rintro _ _ _ ⟨rfl, rfl⟩; exact ⟨_, pmid _, _, rfl, hD, h⟩)))

/-! ### append -/
theorem l_append {α : Type} {e : Enc α} {E tx : TypeId} {D1 : PH} {sv xv : Value} {xs ys : List α} (hw : want n φ ops ⟨some d, .call ⟨.builtin .append, #[x, y], #[t, tx]⟩, ty, pos, aft, g⟩ = true) (he : Elem P t E e) {ux : TypeDesc} (hux : P.underlying tx = some ux) (hnx : (match ux with | .int _ => false | _ => true) = true) (hx : ev n φ x = sv) (hy : ev n φ y = xv) (hs : Src P D (OwnS D1 e E sv xs :: As) e D1 xv ys) (hle : xs.length + ys.length ≤ cap40)
    (h : ∀ a cap, SimL P n ops rest (upd φ d (.slice a (xs ++ ys).length cap)) D (OwnS D1 e E (.slice a (xs ++ ys).length cap) (xs ++ ys) :: As) Q) : SimL P n ops (⟨some d, .call ⟨.builtin .append, #[x, y], #[t, tx]⟩, ty, pos, aft, g⟩ :: rest) φ D (OwnS D1 e E sv xs :: As) Q :=
  l_op hw (ow_append (K := fun v D' As' => D' = D ∧ As' = OwnS D1 e E v (xs ++ ys) :: As) he hux hnx hx hy hs hle fun v' => ⟨rfl, rfl⟩) (by
    rintro v _ _ ⟨rfl, rfl⟩ w hS
    obtain ⟨a, cap, rfl, _⟩ := hS.formS
    exact h a cap w hS)
theorem o_append {α : Type} {e : Enc α} {E tx : TypeId} {D1 : PH} {sv xv : Value} {xs ys : List α} (hk : ops[i]? = some ⟨some d, .call ⟨.builtin .append, #[x, y], #[t, tx]⟩, ty, pos, aft, g⟩) (hw : want n φ ops ⟨some d, .call ⟨.builtin .append, #[x, y], #[t, tx]⟩, ty, pos, aft, g⟩ = true) (hD : PH.le D0 D) (he : Elem P t E e) {ux : TypeDesc} (hux : P.underlying tx = some ux) (hnx : (match ux with | .int _ => false | _ => true) = true) (hx : ev n φ x = sv) (hy : ev n φ y = xv) (hs : Src P D (OwnS D1 e E sv xs :: (B ++ R)) e D1 xv ys) (hle : xs.length + ys.length ≤ cap40)
    (h : ∀ a cap, SimO P n ops Q D0 B l (upd φ d (.slice a (xs ++ ys).length cap)) D (OwnS D1 e E (.slice a (xs ++ ys).length cap) (xs ++ ys) :: R)) : SimO P n ops Q D0 B (.e i l) φ D (OwnS D1 e E sv xs :: R) :=
  o_w hk hw (OpW.perm (pmid _).symm (by
    intro w hS Q'
    have h1 := ow_append (K := fun v D' As' => D' = D ∧ As' = OwnS D1 e E v (xs ++ ys) :: (B ++ R)) (d := some d) (ty := ty) (pos := pos) (aft := aft) (g := g) he hux hnx hx hy hs hle (fun v' => ⟨rfl, rfl⟩) w hS Q'
    obtain ⟨v', w', hr, hS'⟩ := run_append (ty := ty) he hux hnx hs hle w hS
    have hrun : (execOp (ev n φ) ⟨some d, .call ⟨.builtin .append, #[x, y], #[t, tx]⟩, ty, pos, aft, g⟩).run P w = .ok (.value v') w' := by
      simp only [execOp]
      have hcs : ∃ cs, (resolve (ev n φ) ⟨.builtin .append, #[x, y], #[t, tx]⟩ ty).run P w = .ok { target := .builtin .append #[t, tx] ty cs, args := #[sv, xv] } w := ⟨_, by simp only [resolve]; rw [show (#[x, y] : Array Operand).map (ev n φ) = #[sv, xv] by simp [hx, hy]]; rfl⟩
      obtain ⟨cs, hcs⟩ := hcs
      rw [run_bind_ok hcs]
      simp only [invoke, builtin]
      exact run_val hr
    rw [hrun]
    obtain ⟨a, cap, rfl, _⟩ := hS'.formS
    exact ⟨_, D, B ++ (OwnS D1 e E (.slice a (xs ++ ys).length cap) (xs ++ ys) :: R), rfl, ⟨_, rfl, hD, h a cap⟩, hS'.perm (pmid _)⟩))

/-! ### Calls -/
theorem l_call {f : FuncId} {args : Array Operand} {ats : Array TypeId} {F : Operand} {cap : Array Value} {vs : List Value} (hw : want n φ ops ⟨some d, .call ⟨.value F, args, ats⟩, ty, pos, aft, g⟩ = true) (hF : ev n φ F = .func (.func f) #[] cap) (hrun : ∀ (as : Array Value) (w : World), (callFunc f as).run P w = .ok (.enter f as) w) (hv : args.toList.map (ev n φ) ++ cap.toList = vs) (K : Value → PH → List Assert → Prop)
    (hc : ∀ w : World, SInv D As w → Calls P f vs.toArray w (fun e w' => ∃ v D' As', e = .returned v ∧ K v D' As' ∧ SInv D' As' w')) (h : ∀ v D' As', K v D' As' → SimL P n ops rest (upd φ d v) D' As' Q) : SimL P n ops (⟨some d, .call ⟨.value F, args, ats⟩, ty, pos, aft, g⟩ :: rest) φ D As Q :=
  l_op hw (ow_call (K := K) hF hrun hv hc) h
theorem o_calle {f : FuncId} {args : Array Operand} {ats : Array TypeId} {F : Operand} {cap : Array Value} {vs : List Value} (hk : ops[i]? = some ⟨some d, .call ⟨.value F, args, ats⟩, ty, pos, aft, g⟩) (hw : want n φ ops ⟨some d, .call ⟨.value F, args, ats⟩, ty, pos, aft, g⟩ = true) (hF : ev n φ F = .func (.func f) #[] cap) (hrun : ∀ (as : Array Value) (w : World), (callFunc f as).run P w = .ok (.enter f as) w) (hv : args.toList.map (ev n φ) ++ cap.toList = vs) (K : Value → PH → List Assert → Prop)
    (hc : ∀ w : World, SInv D (B ++ R) w → Calls P f vs.toArray w (fun e w' => ∃ v D' R', e = .returned v ∧ K v D' R' ∧ SInv D' (B ++ R') w')) (h : ∀ v D' R', K v D' R' → PH.le D0 D' ∧ SimO P n ops Q D0 B l (upd φ d v) D' R') : SimO P n ops Q D0 B (.e i l) φ D R :=
  o_w hk hw (ow_call hF hrun hv fun w hS => (hc w hS).mono fun e w' ⟨v, D', R', he, hK, hS'⟩ => ⟨v, D', B ++ R', he, ⟨R', rfl, (h v D' R' hK).1, (h v D' R' hK).2⟩, hS'⟩)

/-! ### Own slices between their forms -/
omit [WB] in
theorem OwnS.ofA' {α : Type} {D : PH} {e : Enc α} {E : TypeId} {b cap m : Nat} {xs : List α} (hm : xs.length = m) (h : PH) (a : OwnA D e E b cap xs h) : OwnS D e E (.slice (some ⟨b, 0, none⟩) m cap) xs h := .inr ⟨b, cap, by rw [hm], a⟩
theorem SInv.nilS {α : Type} (D1 : PH) (e : Enc α) (E : TypeId) {H : World} (h : SInv D As H) : SInv D (OwnS D1 e E (.slice none 0 0) [] :: As) H := SInv.imp (fun k hk => .inl ⟨rfl, rfl, hk⟩) h.cons_nil
theorem c_nilS {α : Type} (D1 : PH) (e : Enc α) (E : TypeId) {c : Code} (h : SimC P n c φ D (OwnS D1 e E (.slice none 0 0) [] :: As) Q) : SimC P n c φ D As Q := fun w hS => h w (hS.nilS D1 e E)
theorem e_nilS {α : Type} (D1 : PH) (e : Enc α) (E : TypeId) {ex : Exit} (h : End n φ D (OwnS D1 e E (.slice none 0 0) [] :: As) Q ex) : End n φ D As Q ex := fun w hS => h w (hS.nilS D1 e E)
theorem l_nilS {α : Type} (D1 : PH) (e : Enc α) (E : TypeId) {ll : List Oper} (h : SimL P n ops ll φ D (OwnS D1 e E (.slice none 0 0) [] :: As) Q) : SimL P n ops ll φ D As Q := fun w hS => h w (hS.nilS D1 e E)
theorem SimO.imp : ∀ (l : OT) {φ : Fr} {D : PH} {R R' : List Assert}, (∀ D' H, SInv D' (B ++ R) H → SInv D' (B ++ R') H) → SimO P n ops Q D0 B l φ D R' → SimO P n ops Q D0 B l φ D R
  | .nil, φ, D, R, R', hp, h => fun w hS => h w (hp _ _ hS)
  | .f k l r, φ, D, R, R', hp, h => by
    obtain ⟨⟨o, ho, h⟩, hr⟩ := h
    refine ⟨⟨o, ho, ?_⟩, SimO.imp r hp hr⟩
    rcases h with ⟨hw, h1⟩ | ⟨hw, h2⟩
    · exact .inl ⟨hw, fun w hS Q' => h1 w (hp _ _ hS) Q'⟩
    · exact .inr ⟨hw, SimO.imp l hp h2⟩
  | .q k l, φ, D, R, R', hp, h => by
    obtain ⟨o, ho, h⟩ := h
    refine ⟨o, ho, ?_⟩
    rcases h with ⟨hw, v, h1, h2⟩ | ⟨hw, h2⟩
    · exact .inl ⟨hw, v, h1, SimO.imp l hp h2⟩
    · exact .inr ⟨hw, SimO.imp l hp h2⟩
  | .e k l, φ, D, R, R', hp, h => by
    obtain ⟨o, ho, h⟩ := h
    refine ⟨o, ho, ?_⟩
    rcases h with ⟨hw, h1⟩ | ⟨hw, h2⟩
    · exact .inl ⟨hw, fun w hS Q' => h1 w (hp _ _ hS) Q'⟩
    · exact .inr ⟨hw, SimO.imp l hp h2⟩
theorem o_imp {A A' : Assert} (hi : ∀ k, A k → A' k) (h : SimO P n ops Q D0 B l φ D (A' :: R)) : SimO P n ops Q D0 B l φ D (A :: R) := SimO.imp l (fun D' H hS => ((hS.perm (pmid _).symm).imp hi).perm (pmid _)) h
theorem o_nilS {α : Type} (D1 : PH) (e : Enc α) (E : TypeId) (h : SimO P n ops Q D0 B l φ D (OwnS D1 e E (.slice none 0 0) [] :: R)) : SimO P n ops Q D0 B l φ D R := SimO.imp l (fun D' H hS => (hS.nilS D1 e E).perm (pmid _)) h
theorem l_openS {α : Type} {e : Enc α} {D1 : PH} {E : TypeId} {v : Value} {xs : List α} {ll : List Oper} (hne : xs ≠ []) (h : ∀ b cap, v = .slice (some ⟨b, 0, none⟩) xs.length cap → SimL P n ops ll φ D (OwnA D1 e E b cap xs :: As) Q) : SimL P n ops ll φ D (OwnS D1 e E v xs :: As) Q := fun w hS =>
  let ⟨b, cap, h1, h2⟩ := hS.openS hne; h b cap h1 w h2
omit [WB] in
theorem ne_nil_of_idx {α : Type} {xs : List α} {j : Int} {z : α} (h : idx xs j = some z) : xs ≠ [] := by
  intro e; subst e
  have := (idx_some h).2.1
  simp at this
omit [WB] in
theorem ne_nil_of_setx {α : Type} {xs m : List α} {j : Int} {z : α} (h : setx xs j z = some m) : xs ≠ [] := by
  intro e; subst e
  have := (setx_some h).2.1
  simp at this
end
end Sx
