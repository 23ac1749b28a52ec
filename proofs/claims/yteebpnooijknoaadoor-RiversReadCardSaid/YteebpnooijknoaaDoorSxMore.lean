/- Own library, tenth part: results, structs that are compared, arrays, shifts, conversions, functions that the model answers itself. -/
import Derived.Test.YteebpnooijknoaaDoorSxWrap
import Derived.Laws.StructEq
namespace Sx
open Go
variable [WB]
set_option linter.all false

section
variable {P : Program} {n : Nat} {ops : Array Oper} {rest : List Oper} {φ : Fr} {D D0 : PH} {As B R : List Assert} {Q : Exit → Act → World → Prop} {l : OT} {i : Nat}
variable {d : Nat} {dd : Option Tmp} {t ty tx : TypeId} {x y : Operand} {pos : String} {aft : Array Edge} {g : Option (Nat × Bool)}

/-! ### Results -/
/-- What a result variable holds. -/
def ResIs (P : Program) (n : Nat) (φ : Fr) (As : List Assert) : ResultVar → Value → Prop
  | .tmp t, v => ev n φ (.tmp t) = v
  | .cell a t, v => ∃ (b k : Nat) (cs : List Value) (E : TypeId) (m : Nat) (hm : 0 < m), ev n φ (.tmp a) = .pointer (some ⟨b, 0, none⟩) ∧ As[k]? = some (pt b cs E) ∧ ((Fits P t encV ∧ cs = [v]) ∨ (Fits P t (encW m hm) ∧ cs.length = m ∧ v = .agg cs.toArray))
def ResAll (P : Program) (n : Nat) (φ : Fr) (As : List Assert) : List ResultVar → List Value → Prop
  | [], [] => True
  | r :: rs, v :: vs => ResIs P n φ As r v ∧ ResAll P n φ As rs vs
  | _, _ => False
def rdR (tmps : Array Value) (r : ResultVar) : Sem Value := match r with
  | .tmp t => pure (tmps.getD t undef)
  | .cell a t => do loadVar t (← asAddr (tmps.getD a undef))
theorem run_rdR {w : World} (hS : SInv D As w) {r : ResultVar} {v : Value} (h : ResIs P n φ As r v) : (rdR (mk n φ).tmps r).run P w = .ok v w := by
  have hget : ∀ t, (mk n φ).tmps.getD t undef = ev n φ (.tmp t) := fun t => by rw [← eval_mk]; rfl
  cases r with
  | tmp t =>
    have h' : ev n φ (.tmp t) = v := h
    simp only [rdR, hget, h']; rfl
  | cell a t =>
    obtain ⟨b, k, cs, E, m, hm, hp, hk, hv⟩ := h
    simp only [rdR, hget, hp]
    have hb := hS.pt_heap hk
    rcases hv with ⟨hf, rfl⟩ | ⟨hf, hl, rfl⟩
    · exact run_loadVar hf (off := 0) hb (cs := [v]) rfl rfl
    · have := run_loadVar hf (off := 0) hb (cs := cs) (by subst hl; simp [encW]) (by simpa [encW] using hl)
      exact this
theorem run_resAll {w : World} (hS : SInv D As w) : ∀ {rs : List ResultVar} {vs : List Value}, ResAll P n φ As rs vs → (rs.mapM (rdR (mk n φ).tmps)).run P w = .ok vs w
  | [], [], _ => rfl
  | [], _ :: _, h => h.elim
  | _ :: _, [], h => h.elim
  | r :: rs, v :: vs, h => by
    rw [List.mapM_cons, run_bind_ok (run_rdR hS h.1), run_bind_ok (run_resAll hS h.2)]
    rfl
theorem post_all {fn : Func} {Rr : Ending → World → Prop} {vs : List Value} {e : Exit} (v : Value) (hr : ResAll P n φ As fn.results.toList vs) (hv : (match vs with | [v] => v | vs => .tuple vs.toArray) = v) (he : e = .ret ∨ e = .normal) (h : ∀ w : World, SInv D As w → Rr (.returned v) w) : End n φ D As (bodyPost P fn Rr) e := by
  intro w hS
  have hx : (results fn (mk n φ).tmps).run P w = .ok v w := by
    have h1 := run_resAll hS hr
    have hmap : (fn.results.mapM (rdR (mk n φ).tmps)).run P w = .ok vs.toArray w := by
      rw [Array.mapM_eq_mapM_toList]
      have key : ∀ (m : Sem (List Value)), (List.toArray <$> m).run P w = (m >>= fun l => pure l.toArray).run P w := fun m => rfl
      rw [key, run_bind_ok h1]; rfl
    show (fn.results.mapM (rdR (mk n φ).tmps) >>= fun vs => pure (if h : vs.size = 1 then vs[0] else .tuple vs)).run P w = .ok v w
    rw [run_bind_ok hmap]
    rw [← hv]
    match vs with
    | [] => rfl
    | [a] => rfl
    | a :: b :: c => simp
  rcases he with rfl | rfl <;> exact ⟨rfl, v, hx, h w hS⟩

/-! ### append and make, the new list under a name -/
theorem l_app {α : Type} {e : Enc α} {E : TypeId} {D1 : PH} {sv xv : Value} {xs ys zs : List α} (hz : app xs ys = some zs) (hw : want n φ ops ⟨some d, .call ⟨.builtin .append, #[x, y], #[t, tx]⟩, ty, pos, aft, g⟩ = true) (he : Elem P t E e) {ux : TypeDesc} (hux : P.underlying tx = some ux) (hnx : (match ux with | .int _ => false | _ => true) = true) (hx : ev n φ x = sv) (hy : ev n φ y = xv) (hs : Src P D (OwnS D1 e E sv xs :: As) e D1 xv ys)
    (h : ∀ a cap, SimL P n ops rest (upd φ d (.slice a zs.length cap)) D (OwnS D1 e E (.slice a zs.length cap) zs :: As) Q) : SimL P n ops (⟨some d, .call ⟨.builtin .append, #[x, y], #[t, tx]⟩, ty, pos, aft, g⟩ :: rest) φ D (OwnS D1 e E sv xs :: As) Q := by
  obtain ⟨hle, rfl⟩ := app_some hz
  exact l_append hw he hux hnx hx hy hs hle h
theorem o_app {α : Type} {e : Enc α} {E : TypeId} {D1 : PH} {sv xv : Value} {xs ys zs : List α} (hz : app xs ys = some zs) (hk : ops[i]? = some ⟨some d, .call ⟨.builtin .append, #[x, y], #[t, tx]⟩, ty, pos, aft, g⟩) (hw : want n φ ops ⟨some d, .call ⟨.builtin .append, #[x, y], #[t, tx]⟩, ty, pos, aft, g⟩ = true) (hD : PH.le D0 D) (he : Elem P t E e) {ux : TypeDesc} (hux : P.underlying tx = some ux) (hnx : (match ux with | .int _ => false | _ => true) = true) (hx : ev n φ x = sv) (hy : ev n φ y = xv) (hs : Src P D (OwnS D1 e E sv xs :: (B ++ R)) e D1 xv ys)
    (h : ∀ a cap, SimO P n ops Q D0 B l (upd φ d (.slice a zs.length cap)) D (OwnS D1 e E (.slice a zs.length cap) zs :: R)) : SimO P n ops Q D0 B (.e i l) φ D (OwnS D1 e E sv xs :: R) := by
  obtain ⟨hle, rfl⟩ := app_some hz
  exact o_append hk hw hD he hux hnx hx hy hs hle h
def mk2 {α : Type} (z : α) (a c : Int) : Option (List α) := if 0 ≤ a ∧ a ≤ c ∧ c ≤ cap40 then some (List.replicate a.toNat z) else none
omit [WB] in
theorem mk2_some {α : Type} {z : α} {a c : Int} {zs : List α} (h : mk2 z a c = some zs) : 0 ≤ a ∧ a ≤ c ∧ c ≤ cap40 ∧ zs = List.replicate a.toNat z := by
  unfold mk2 at h; split at h
  · rename_i hc; exact ⟨hc.1, hc.2.1, hc.2.2, by simpa using h.symm⟩
  · cases h
theorem l_mk {α : Type} {e : Enc α} {E : TypeId} {zs : List Value} {z : α} {a c : Int} {ys : List α} (hm : mk2 z a c = some ys) (hw : want n φ ops ⟨some d, .makeSlice t x y, ty, pos, aft, g⟩ = true) (he : Elem P t E e) (hz : zeroCs P E = some zs) (hr : e.rep D zs z) (hx : ev n φ x = .int .i64 a) (hy : ev n φ y = .int .i64 c)
    (h : ∀ b, ys.length = a.toNat → SimL P n ops rest (upd φ d (.slice (some ⟨b, 0, none⟩) a.toNat c.toNat)) D (OwnA D e E b c.toNat ys :: As) Q) : SimL P n ops (⟨some d, .makeSlice t x y, ty, pos, aft, g⟩ :: rest) φ D As Q := by
  obtain ⟨h0, h1, h2, rfl⟩ := mk2_some hm
  exact l_make hw he hz hr hx hy h0 h1 h2 fun b => h b (by simp)
theorem o_mk {α : Type} {e : Enc α} {E : TypeId} {zs : List Value} {z : α} {a c : Int} {ys : List α} (hm : mk2 z a c = some ys) (hk : ops[i]? = some ⟨some d, .makeSlice t x y, ty, pos, aft, g⟩) (hw : want n φ ops ⟨some d, .makeSlice t x y, ty, pos, aft, g⟩ = true) (hD : PH.le D0 D) (he : Elem P t E e) (hz : zeroCs P E = some zs) (hr : e.rep D zs z) (hx : ev n φ x = .int .i64 a) (hy : ev n φ y = .int .i64 c)
    (h : ∀ b, ys.length = a.toNat → SimO P n ops Q D0 B l (upd φ d (.slice (some ⟨b, 0, none⟩) a.toNat c.toNat)) D (OwnA D e E b c.toNat ys :: R)) : SimO P n ops Q D0 B (.e i l) φ D R := by
  obtain ⟨h0, h1, h2, rfl⟩ := mk2_some hm
  exact o_make hk hw hD he hz hr hx hy h0 h1 h2 fun b => h b (by simp)
omit [WB] in
/-- The D that an own part leans on may be any one above, where its elements hold no memory. -/
theorem OwnA.anyD {α : Type} {D D' : PH} {e : Enc α} {E : TypeId} {b cap : Nat} {xs : List α} (hi : ∀ cs x, e.rep D cs x → e.rep D' cs x) (h : PH) (a : OwnA D e E b cap xs h) : OwnA D' e E b cap xs h := by
  obtain ⟨cs, h1, h2, h3, h4, h5⟩ := a
  exact ⟨cs, h1, h2, h3, h4, fun i x hx => hi _ _ (h5 i x hx)⟩

/-! ### Structs that are compared -/
def eqV (P : Program) (t : TypeId) : Value → Value → Option Bool
  | .int k a, .int k' b => if k = k' then (match P.underlying t with | some (.int _) => some (a == b) | _ => none) else none
  | .float k a, .float k' b => if k = k' then (match P.underlying t with | some (.float _) => some (feq k a b) | _ => none) else none
  | .bool a, .bool b => (match P.underlying t with | some .bool => some (a == b) | _ => none)
  | _, _ => none
theorem run_eqV {dp : Nat} {x y : Value} {r : Bool} (h : eqV P t x y = some r) (w : World) : (Op.equalIn (dp + 1) t x y).run P w = .ok r w := by
  unfold eqV at h
  split at h
  · split at h
    · rename_i hk
      subst hk
      split at h
      · rename_i hu
        obtain rfl := Option.some.inj h
        unfold Op.equalIn
        rw [run_bind_ok (run_underlying hu w)]
        simp only [if_true]
        rfl
      · cases h
    · cases h
  · split at h
    · rename_i hk
      subst hk
      split at h
      · rename_i hu
        obtain rfl := Option.some.inj h
        unfold Op.equalIn
        rw [run_bind_ok (run_underlying hu w)]
        simp only [if_true]
        rfl
      · cases h
    · cases h
  · split at h
    · rename_i hu
      obtain rfl := Option.some.inj h
      exact run_equalIn_bool dp _ _ hu w
    · cases h
  · cases h
def eqFs (P : Program) (xs ys : List Value) : List Field → Option Bool
  | [] => some true
  | f :: fs => if f.name ≠ "_" then
      (match partOf P f.type xs f.offset, partOf P f.type ys f.offset with
      | some a, some b => (match eqV P f.type a b, eqFs P xs ys fs with | some r, some r' => some (r && r') | _, _ => none)
      | _, _ => none)
    else eqFs P xs ys fs
theorem run_eqFs {xs ys : Array Value} (dp : Nat) : ∀ (fs : List Field) {r : Bool}, (∀ f ∈ fs, (P.info? f.type).isSome = true) → eqFs P xs.toList ys.toList fs = some r → ∀ w, (Op.eqFields (dp + 1) xs ys fs).run P w = .ok r w
  | [], r, _, h, w => by obtain rfl := Option.some.inj h; rfl
  | f :: fs, r, hi, h, w => by
    unfold eqFs at h
    unfold Op.eqFields
    have hif := hi f (List.mem_cons_self ..)
    have ih := fun {r} => run_eqFs (xs := xs) (ys := ys) dp fs (r := r) (fun g hg => hi g (List.mem_cons_of_mem _ hg))
    split at h
    · rename_i hne
      rw [if_pos hne]
      split at h
      · rename_i a b h1 h2
        split at h
        · rename_i r1 r2 h3 h4
          obtain rfl := Option.some.inj h
          rw [run_bind_ok (run_part hif h1 w), run_bind_ok (run_part hif h2 w), run_bind_ok (run_eqV h3 w)]
          cases r1 with
          | true => simpa using ih h4 w
          | false => rfl
        · cases h
      · cases h
    · rename_i hne; rw [if_neg hne]; exact ih h w
def eqS (P : Program) (t : TypeId) (xs ys : List Value) : Option Bool :=
  match P.underlying t with
  | some (.struct fs) => if (∀ f ∈ fs.toList, (P.info? f.type).isSome = true) ∧ P.stoodInHeld t = false ∧ P.eqGuardType P.depth t = false then eqFs P xs ys fs.toList else none
  | _ => none
/-- Two structs of numbers and truth values, compared. -/
theorem qs_eqS {op : BinOp} {xs ys : List Value} {r : Bool} (hx : ev n φ x = .agg xs.toArray) (hy : ev n φ y = .agg ys.toArray) (h : eqS P t xs ys = some r) (hop : op = .eql ∨ op = .neq) {v : Bool} (hv : (match op with | .eql => r | _ => !r) = v) : QS P n ⟨dd, .binOp op t x y tx, ty, pos, aft, g⟩ φ D B (.bool v) := by
  intro D' R _ w _
  refine run_val ?_
  unfold eqS at h
  split at h
  · rename_i fs hu
    split at h
    · rename_i hc
      obtain ⟨hi, hst, hg⟩ := hc
      have hfo : P.fieldsOf t = fs := by simp [Program.fieldsOf, hu]
      have he : (Op.equalIn 10000 t (.agg xs.toArray) (.agg ys.toArray)).run P w = .ok r w := by
        rw [Go.run_equalIn_agg w 9999 t _ _ (by rw [hfo]; exact hu) hst, hfo]
        exact run_eqFs 9998 fs.toList hi (by simpa using h) w
      rw [hx, hy, run_bind_ok (Go.run_eqGuard_agg w op t x y _ _ hg)]
      rcases hop with rfl | rfl
      · rw [Go.run_eql_struct, he]; simp only [Result.andThen]; rw [← hv]
      · rw [Go.run_neq_struct, he]; simp only [Result.andThen]; rw [← hv]
    · cases h
  · cases h

/-! ### A slice against nil -/
theorem qs_eqnil {op : BinOp} {a : Option Addr} {ln cap ln' cap' : Nat} {E : TypeId} (hu : P.underlying t = some (.slice E)) (hx : ev n φ x = .slice a ln cap) (hy : ev n φ y = .slice none ln' cap') (hop : op = .eql ∨ op = .neq) {v : Bool} (hv : (match op with | .eql => a.isNone | _ => !a.isNone) = v) : QS P n ⟨dd, .binOp op t x y tx, ty, pos, aft, g⟩ φ D B (.bool v) := by
  intro D' R _ w _
  refine run_val ?_
  rw [hx, hy]
  rw [run_bind_ok (eqGuard_quiet op t x y _ _ trivial w)]
  have he : (Op.equal t (.slice a ln cap) (.slice none ln' cap')).run P w = .ok a.isNone w := by
    show (Op.equalIn (9999 + 1) t _ _).run P w = _
    unfold Op.equalIn
    rw [run_bind_ok (run_underlying hu w)]
    cases a <;> rfl
  rcases hop with rfl | rfl
  · simp only [binOp]; rw [run_bind_ok he, ← hv]; rfl
  · simp only [binOp]; rw [run_bind_ok he, ← hv]; rfl

/-! ### Arrays as values -/
theorem qs_idxArr {α : Type} {e : Enc α} {m : Nat} {E : TypeId} {k : IntKind} {j : Int} {xs : List α} {z : α} {cs : List Value} (hu : P.underlying t = some (.array m E)) (hf : Fits P E e) (hx : ev n φ x = .agg cs.toArray) (hi : ev n φ y = .int k j) (hr : RepL e D cs xs) (hm : xs.length = m) (hz : idx xs j = some z) {v : Value} (hv : ∀ cs, e.rep D cs z → e.val cs = v) : QS P n ⟨dd, .index t x y, ty, pos, aft, g⟩ φ D B v := by
  intro D' R _ w _
  refine run_val ?_
  rw [hx, hi]
  obtain ⟨h0, hlt, hg⟩ := idx_some hz
  have hat := hr.at _ _ hg
  obtain ⟨dsc, hd, hag⟩ := hf.desc
  unfold Instr.index
  rw [run_bind_ok (a := (k, j)) (w' := w) rfl]
  simp only
  rw [run_bind_ok (run_underlying hu w)]
  simp only
  rw [if_pos ⟨h0, by omega⟩, run_bind_ok (run_sizeOf hf.info w), hf.size]
  have hl := e.len hat
  have hb : j.toNat * e.sz + e.sz ≤ cs.length := by
    simp only [List.length_take, List.length_drop] at hl
    have := e.pos
    omega
  rw [← hv _ hat]
  unfold part
  rw [run_bind_ok (run_isAgg hd w)]
  cases ha : e.agg with
  | true =>
    rw [hag, ha, if_pos rfl, run_bind_ok (run_sizeOf hf.info w), hf.size, extract_toList]
    simp only [Enc.val, ha, if_true]
    rfl
  | false =>
    rw [hag, ha, if_neg (by simp)]
    have h1 := e.one ha
    rw [h1] at hb ⊢
    have hlt : j.toNat < cs.length := by omega
    simp only [Nat.mul_one, List.getElem?_toArray, List.getElem?_eq_getElem hlt, Enc.val, ha, Bool.false_eq_true, if_false]
    rw [List.drop_eq_getElem_cons hlt]
    rfl

/-! ### Conversions of floats, shifts -/
theorem qs_fconv {s tt : TypeId} {k k' : FloatKind} {a r : Nat} (hs : P.underlying s = some (.float k)) (ht : P.underlying tt = some (.float k')) (hx : ev n φ x = .float k a) (h : fconv k k' a = some r) : QS P n ⟨dd, .convert s tt x, ty, pos, aft, g⟩ φ D B (.float k' r) := by
  intro D' R _ w _
  refine run_val ?_
  rw [hx]
  unfold convert
  rw [run_bind_ok (run_underlying hs w), run_bind_ok (run_underlying ht w)]
  simp only
  unfold fconv at h
  unfold Conv.floatToFloat
  split at h
  · rename_i e; rw [if_pos e]; obtain rfl := Option.some.inj h; rfl
  · rename_i e
    rw [if_neg e]
    split at h
    · cases h
    · rename_i heq; rw [heq]; obtain rfl := Option.some.inj h; rfl
    · rename_i heq
      rw [heq]
      split at h
      · cases h
      · rename_i hi
        obtain rfl := Option.some.inj h
        simp only [hi, Bool.false_eq_true, if_false]
        rfl
theorem qs_ftoI {s tt : TypeId} {k : FloatKind} {k' : IntKind} {a : Nat} {r : Int} (hs : P.underlying s = some (.float k)) (ht : P.underlying tt = some (.int k')) (hx : ev n φ x = .float k a) (h : ftoI k k' a = some r) : QS P n ⟨dd, .convert s tt x, ty, pos, aft, g⟩ φ D B (.int k' r) := by
  intro D' R _ w _
  refine run_val ?_
  rw [hx]
  unfold convert
  rw [run_bind_ok (run_underlying hs w), run_bind_ok (run_underlying ht w)]
  simp only
  unfold ftoI at h
  unfold Conv.floatToInt
  split at h
  · rename_i m hm
    rw [hm]
    split at h
    · rename_i hc; simp only; rw [if_pos hc]; obtain rfl := Option.some.inj h; rfl
    · cases h
  · cases h
def shlI (k : IntKind) (a b : Int) : Int := k.wrap (a * 2 ^ (min b.toNat k.bits))
def shrI (k : IntKind) (a b : Int) : Int := a.fdiv (2 ^ (min b.toNat k.bits))
theorem qs_shift {op : BinOp} {k yk : IntKind} {a b r : Int} (hb : 0 ≤ b) (hop : (match op with | .shl => some (shlI k a b) | .shr => some (shrI k a b) | _ => none) = some r) (hx : ev n φ x = .int k a) (hy : ev n φ y = .int yk b) : QS P n ⟨dd, .binOp op t x y tx, ty, pos, aft, g⟩ φ D B (.int k r) := by
  intro D' R _ w _
  refine run_val ?_
  rw [hx, hy]
  rw [run_bind_ok (eqGuard_quiet op t x y _ _ trivial w)]
  cases op <;> (try (cases hop; done))
  all_goals
    obtain rfl := Option.some.inj hop
    simp only [binOp, Op.shift, if_neg (show ¬ b < 0 by omega)]
    rfl
def bitsI (op : BinOp) (k : IntKind) (x y : Int) : Int :=
  let a := BitVec.ofInt k.bits x; let b := BitVec.ofInt k.bits y
  match op with
  | .and => k.wrap (a &&& b).toNat | .or => k.wrap (a ||| b).toNat | .xor => k.wrap (a ^^^ b).toNat | .andNot => k.wrap (a &&& ~~~b).toNat | _ => 0
theorem qs_bits {op : BinOp} {k : IntKind} {a b : Int} (hop : op = .and ∨ op = .or ∨ op = .xor ∨ op = .andNot) (hx : ev n φ x = .int k a) (hy : ev n φ y = .int k b) : QS P n ⟨dd, .binOp op t x y tx, ty, pos, aft, g⟩ φ D B (.int k (bitsI op k a b)) := by
  intro D' R _ w _
  refine run_val ?_
  rw [hx, hy]
  rw [run_bind_ok (eqGuard_quiet op t x y _ _ trivial w)]
  rcases hop with rfl | rfl | rfl | rfl <;> (simp only [binOp, ne_eq, not_true_eq_false, if_false]; rfl)

/-! ### max, min -/
def maxI (x y : Int) : Int := if y > x then y else x
def minI (x y : Int) : Int := if y < x then y else x
def foldMaxA (k : IntKind) : Int → List Value → Option Value
  | a, [] => some (.int k a)
  | a, .int _ b :: r => foldMaxA k (maxI a b) r
  | _, _ => none
def foldMinA (k : IntKind) : Int → List Value → Option Value
  | a, [] => some (.int k a)
  | a, .int _ b :: r => foldMinA k (minI a b) r
  | _, _ => none
def foldMax : List Value → Option Value | .int k a :: r => foldMaxA k a r | _ => none
def foldMin : List Value → Option Value | .int k a :: r => foldMinA k a r | _ => none
omit [WB] in
theorem run_foldMaxA (k : IntKind) (w : World) : ∀ (l : List Value) (a : Int) (v : Value), foldMaxA k a l = some v → (l.foldlM Builtin.max2 (.int k a) : Sem Value).run P w = .ok v w
  | [], a, v, h => by obtain rfl := Option.some.inj h; rfl
  | x :: r, a, v, h => by
    cases x <;> (try (cases h; done))
    rename_i k' b
    rw [List.foldlM_cons, run_bind_ok (a := .int k (maxI a b)) (w' := w) rfl]
    exact run_foldMaxA k w r _ v h
omit [WB] in
theorem run_foldMinA (k : IntKind) (w : World) : ∀ (l : List Value) (a : Int) (v : Value), foldMinA k a l = some v → (l.foldlM Builtin.min2 (.int k a) : Sem Value).run P w = .ok v w
  | [], a, v, h => by obtain rfl := Option.some.inj h; rfl
  | x :: r, a, v, h => by
    cases x <;> (try (cases h; done))
    rename_i k' b
    rw [List.foldlM_cons, run_bind_ok (a := .int k (minI a b)) (w' := w) rfl]
    exact run_foldMinA k w r _ v h
omit [WB] in
theorem run_builtin {bt : Builtin} {args : Array Operand} {ats : Array TypeId} (w : World) : ∃ cs, (resolve (ev n φ) ⟨.builtin bt, args, ats⟩ ty).run P w = .ok { target := .builtin bt ats ty cs, args := args.map (ev n φ) } w := ⟨_, rfl⟩
theorem qs_max {args : Array Operand} {ats : Array TypeId} {v : Value} (h : foldMax (args.toList.map (ev n φ)) = some v) : QS P n ⟨dd, .call ⟨.builtin .max, args, ats⟩, ty, pos, aft, g⟩ φ D B v := by
  intro D' R _ w _
  simp only [execOp]
  obtain ⟨cs, hcs⟩ := run_builtin (P := P) (n := n) (φ := φ) (ty := ty) (bt := .max) (args := args) (ats := ats) w
  rw [run_bind_ok hcs]
  simp only [invoke, builtin]
  refine run_val ?_
  unfold Builtin.max_
  rw [Array.toList_map]
  cases hl : args.toList.map (ev n φ) with
  | nil => rw [hl] at h; cases h
  | cons x r =>
    rw [hl] at h
    cases x <;> (try (cases h; done))
    exact run_foldMaxA _ w r _ v h
theorem qs_min {args : Array Operand} {ats : Array TypeId} {v : Value} (h : foldMin (args.toList.map (ev n φ)) = some v) : QS P n ⟨dd, .call ⟨.builtin .min, args, ats⟩, ty, pos, aft, g⟩ φ D B v := by
  intro D' R _ w _
  simp only [execOp]
  obtain ⟨cs, hcs⟩ := run_builtin (P := P) (n := n) (φ := φ) (ty := ty) (bt := .min) (args := args) (ats := ats) w
  rw [run_bind_ok hcs]
  simp only [invoke, builtin]
  refine run_val ?_
  unfold Builtin.min_
  rw [Array.toList_map]
  cases hl : args.toList.map (ev n φ) with
  | nil => rw [hl] at h; cases h
  | cons x r =>
    rw [hl] at h
    cases x <;> (try (cases h; done))
    exact run_foldMinA _ w r _ v h

/-! ### Functions that the model answers itself -/
def fsqrt (k : FloatKind) (a : Nat) : Option Nat := k.format.sqrt a
omit [WB] in
theorem run_sqrt {a r : Nat} (h : fsqrt .f64 a = some r) (w : World) : (Extern.MathSqrt.sqrt #[.float .f64 a]).run P w = .ok (.float .f64 r) w := by
  show (match FloatKind.f64.format.sqrt a with
    | some r => (pure (.float .f64 r) : Sem Value)
    | none => do pure (.float .f64 (← choose (.nanBits .f64 a a)))).run P w = _
  rw [show FloatKind.f64.format.sqrt a = some r from h]; rfl
theorem qs_extern {f : FuncId} {fn : Func} {args : Array Operand} {ats : Array TypeId} {e : Array Value → Sem Value} {vs : List Value} {v : Value} (hf : P.funcs[f]? = some fn) (hb : fn.body.isNone = true) (hn : (fn.name == "runtime.NumGoroutine") = false) (hn1 : (Extern.findNext fn).isNone = true) (he : Extern.find fn = some e) (hv : args.toList.map (ev n φ) = vs) (hr : ∀ w, (e vs.toArray).run P w = .ok v w) : QS P n ⟨dd, .call ⟨.value (.func f), args, ats⟩, ty, pos, aft, g⟩ φ D B v := by
  intro D' R _ w _
  simp only [execOp]
  rw [run_bind_ok (a := { target := .fn (.func f) #[], args := args.map (ev n φ) }) (w' := w) (by simp [resolve, ev, Deferred.ofValue])]
  simp only [invoke]
  unfold callFunc
  rw [run_bind_ok (run_program w), hf]
  simp only [hn, Bool.false_eq_true, if_false, hb, if_true]
  rw [run_bind_ok (a := ()) (w' := w) rfl]
  rw [Option.isNone_iff_eq_none.1 hn1]
  simp only [he]
  rw [show args.map (ev n φ) ++ #[] = vs.toArray by rw [← hv]; apply Array.ext'; simp]
  exact run_val (hr w)
end
end Sx
