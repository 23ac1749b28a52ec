/- Own library, second part: frames as functions, and what it means that code, run from a symbolic state, does what is asked. -/
import Derived.Test.YteebpnooijknoaaDoorSxHeap
import Derived.OrdersHeld
namespace Sx
set_option linter.all false
open Go
variable [WB]

/-! ### Frames -/
abbrev Fr := Nat → Value
def upd (φ : Fr) (d : Nat) (v : Value) : Fr := fun i => bif Nat.beq i d then v else φ i
def updo (φ : Fr) (d : Option Nat) (v : Value) : Fr := match d with | some d => upd φ d v | none => φ
def updl (φ : Fr) : List (Nat × Value) → Fr
  | [] => φ
  | (d, v) :: l => upd (updl φ l) d v
def Is (φ : Fr) : List (Nat × Value) → Prop
  | [] => True
  | (d, v) :: l => φ d = v ∧ Is φ l
def mk (n : Nat) (φ : Fr) : Act := ⟨((List.range n).map φ).toArray, []⟩
def ev (n : Nat) (φ : Fr) : Operand → Value
  | .tmp t => bif Nat.blt t n then φ t else undef
  | .const v => v
  | .global g => .pointer (some ⟨g, 0, none⟩)
  | .func f => .func (.func f) #[] #[]

omit [WB] in
theorem upd_eq (φ : Fr) (d : Nat) (v : Value) : upd φ d v d = v := by simp [upd]
omit [WB] in
theorem upd_ne (φ : Fr) (d : Nat) (v : Value) {i : Nat} (h : i ≠ d) : upd φ d v i = φ i := by
  have : Nat.beq i d = false := by
    cases hb : Nat.beq i d with
    | false => rfl
    | true => exact absurd (Nat.eq_of_beq_eq_true hb) h
  simp [upd, this]
omit [WB] in
theorem upd_self {φ : Fr} {d : Nat} {v : Value} (h : φ d = v) : upd φ d v = φ := by
  funext i
  by_cases hi : i = d
  · subst hi; rw [upd_eq, h]
  · rw [upd_ne _ _ _ hi]
omit [WB] in
theorem updl_self {φ : Fr} : ∀ {l : List (Nat × Value)}, Is φ l → updl φ l = φ
  | [], _ => rfl
  | (d, v) :: l, h => by
    simp only [updl]
    rw [updl_self h.2]
    exact upd_self h.1

omit [WB] in
theorem eval_mk (n : Nat) (φ : Fr) : (mk n φ).eval = ev n φ := by
  funext x
  cases x with
  | tmp t =>
    simp only [Act.eval, mk, ev]
    cases h : Nat.blt t n with
    | true =>
      have : t < n := Nat.le_of_ble_eq_true h
      simp [this]
    | false =>
      have : ¬ t < n := fun hl => by rw [show Nat.blt t n = true from Nat.ble_eq_true_of_le hl] at h; cases h
      simp [this]
  | _ => rfl

omit [WB] in
theorem put_mk (n : Nat) (φ : Fr) (d : Option Nat) (v : Value) : (mk n φ).put d v = mk n (updo φ d v) := by
  cases d with
  | none => rfl
  | some d =>
    simp only [Act.put, mk, updo]
    congr 1
    apply Array.ext
    · simp
    · intro i h1 h2
      simp only [Array.size_setIfInBounds, List.size_toArray, List.length_map, List.length_range] at h1
      by_cases hi : d = i
      · subst hi; simp [upd_eq]
      · simp [hi, upd_ne _ _ _ (Ne.symm hi)]

def fr0 (args : List Value) : Fr := fun i => (args[i]?).getD undef
omit [WB] in
theorem mk_fr0 (n : Nat) (args : List Value) (h : args.length ≤ n) : mk n (fr0 args) = ⟨args.toArray ++ Array.replicate (n - args.toArray.size) undef, []⟩ := by
  simp only [mk]
  congr 1
  apply Array.ext
  · simp; omega
  · intro i h1 h2
    simp only [List.size_toArray, List.length_map, List.length_range] at h1
    simp only [List.getElem_toArray, List.getElem_map, List.getElem_range, fr0]
    rw [Array.getElem_append]
    split
    · rename_i hl; simp at hl; simp [hl]
    · rename_i hl; simp at hl; simp [hl]

/-- Is operation number j's outcome the truth value t? (for guards) -/
def want (n : Nat) (φ : Fr) (ops : Array Oper) (o : Oper) : Bool :=
  match o.guard with
  | none => true
  | some (j, t) => match (ops[j]?).bind (·.dst) with
    | some d => (match (bif Nat.blt d n then φ d else undef) with | .bool b => (bif Nat.blt d n then b == t else false) | _ => false)
    | none => false

omit [WB] in
theorem wanted_mk (n : Nat) (φ : Fr) (ops : Array Oper) (o : Oper) : Region.wanted o (yielded ops (mk n φ).tmps) = want n φ ops o := by
  unfold Region.wanted want
  cases hg : o.guard with
  | none => rfl
  | some jt =>
    obtain ⟨j, t⟩ := jt
    simp only [yielded]
    cases hd : (ops[j]?).bind (·.dst) with
    | none => simp
    | some d =>
      simp only [Option.bind_some, mk]
      cases h : Nat.blt d n with
      | true =>
        have : d < n := Nat.le_of_ble_eq_true h
        simp only [List.getElem?_toArray, List.getElem?_map, List.getElem?_range this, Option.map_some, cond_true]
        cases φ d <;> simp
      | false =>
        have hn : ¬ d < n := fun hl => by rw [show Nat.blt d n = true from Nat.ble_eq_true_of_le hl] at h; cases h
        have : (List.range n)[d]? = none := List.getElem?_eq_none (by simpa using hn)
        simp [this, undef]

/-! ### Judgements -/
section
variable {P : Program} {n : Nat} {ops : Array Oper} {rest : List Oper} {o : Oper} {φ : Fr} {D : PH} {As : List Assert} {Q : Exit → Act → World → Prop}

/-- The code c, from the symbolic state (φ, D, As). -/
def SimC (P : Program) (n : Nat) (c : Code) (φ : Fr) (D : PH) (As : List Assert) (Q : Exit → Act → World → Prop) : Prop :=
  ∀ w : World, SInv D As w → c.wp P Q (mk n φ) w
/-- What stands behind, at an exit. -/
def End (n : Nat) (φ : Fr) (D : PH) (As : List Assert) (Q : Exit → Act → World → Prop) (e : Exit) : Prop :=
  ∀ w : World, SInv D As w → Q e (mk n φ) w
/-- The operations that are left of a region, in the order of the text. -/
def SimL (P : Program) (n : Nat) (ops : Array Oper) (l : List Oper) (φ : Fr) (D : PH) (As : List Assert) (Q : Exit → Act → World → Prop) : Prop :=
  ∀ w : World, SInv D As w → wpList P ops Q l (mk n φ) w
/-- One operation: whatever value it yields and state it leaves, K holds of them. -/
def OpW (P : Program) (n : Nat) (o : Oper) (φ : Fr) (D : PH) (As : List Assert) (K : Value → PH → List Assert → Prop) : Prop :=
  ∀ w : World, SInv D As w → ∀ Q : Exit → Act → World → Prop,
    Oper.upon P o (mk n φ) (fun a w' => ∃ v D' As', a = (mk n φ).put o.dst v ∧ K v D' As' ∧ SInv D' As' w') Q ((execOp (ev n φ) o).run P w)
/-- One operation that yields this value and leaves the state. -/
def QV (P : Program) (n : Nat) (o : Oper) (φ : Fr) (D : PH) (As : List Assert) (v : Value) : Prop :=
  ∀ w : World, SInv D As w → (execOp (ev n φ) o).run P w = .ok (.value v) w

theorem QV.opW {v : Value} {K : Value → PH → List Assert → Prop} (h : QV P n o φ D As v) (k : K v D As) : OpW P n o φ D As K := by
  intro w hw Q
  rw [h w hw]
  exact ⟨v, D, As, rfl, k, hw⟩

theorem c_seq {a b : Code} (h : SimC P n a φ D As (Exit.then (fun a w => b.wp P Q a w) Q)) : SimC P n (.seq a b) φ D As Q := fun w hw => wp_seq (h w hw)
theorem c_block {id : Nat} {c : Code} (h : SimC P n c φ D As (Exit.inBlock id Q)) : SimC P n (.block id c) φ D As Q := fun w hw => wp_block (h w hw)
theorem c_ret (h : End n φ D As Q .ret) : SimC P n .ret φ D As Q := fun w hw => wp_ret (h w hw)
theorem c_skip (h : End n φ D As Q .normal) : SimC P n .skip φ D As Q := fun w hw => wp_skip (h w hw)
theorem c_exit {id : Nat} (h : End n φ D As Q (.exit id)) : SimC P n (.exit id) φ D As Q := fun w hw => wp_exit (h w hw)
theorem c_cond {c : Operand} {x y : Code} (t : Bool) (hc : ev n φ c = .bool t) (ht : t = true → SimC P n x φ D As Q) (hf : t = false → SimC P n y φ D As Q) : SimC P n (.cond c x y) φ D As Q := fun w hw =>
  wp_cond_split (t := t) (by rw [eval_mk]; exact hc) (fun e => ht e w hw) (fun e => hf e w hw)
theorem e_then {b : Code} {Q' : Exit → Act → World → Prop} (h : SimC P n b φ D As Q) : End n φ D As (Exit.then (fun a w => b.wp P Q a w) Q') .normal := h
theorem e_then_ret {K : Act → World → Prop} (h : End n φ D As Q .ret) : End n φ D As (Exit.then K Q) .ret := h
theorem e_then_exit {K : Act → World → Prop} {id : Nat} (h : End n φ D As Q (.exit id)) : End n φ D As (Exit.then K Q) (.exit id) := h
theorem e_blk {id : Nat} (h : End n φ D As Q .normal) : End n φ D As (Exit.inBlock id Q) .normal := h
theorem e_blk_ret {id : Nat} (h : End n φ D As Q .ret) : End n φ D As (Exit.inBlock id Q) .ret := h
theorem e_blk_exit {id : Nat} (h : End n φ D As Q .normal) : End n φ D As (Exit.inBlock id Q) (.exit id) := fun w hw => by simp only [Exit.inBlock, if_true]; exact h w hw
theorem e_blk_other {id id' : Nat} (hne : id' ≠ id) (h : End n φ D As Q (.exit id')) : End n φ D As (Exit.inBlock id Q) (.exit id') := fun w hw => by simp only [Exit.inBlock, if_neg hne]; exact h w hw

/-- A cut: K tells the states in which the first part may end. -/
theorem c_cut {a b : Code} (K : Fr → PH → List Assert → Prop)
    (h1 : SimC P n a φ D As (Exit.then (fun a w => ∃ φ' D' As', a = mk n φ' ∧ K φ' D' As' ∧ SInv D' As' w) Q))
    (h2 : ∀ φ' D' As', K φ' D' As' → SimC P n b φ' D' As' Q) : SimC P n (.seq a b) φ D As Q := fun w hw =>
  wp_seq (Code.wp_mono (fun e a w h => by
    cases e <;> first | exact h | (obtain ⟨φ', D', As', rfl, hK, hS⟩ := h; exact h2 φ' D' As' hK w hS)) (h1 w hw))
/-- The same behind the last statement of a piece: what follows is asked of whatever state K tells. -/
theorem c_cut_end {a : Code} (K : Fr → PH → List Assert → Prop)
    (h1 : SimC P n a φ D As (Exit.then (fun a w => ∃ φ' D' As', a = mk n φ' ∧ K φ' D' As' ∧ SInv D' As' w) Q))
    (h2 : ∀ φ' D' As', K φ' D' As' → End n φ' D' As' Q .normal) : SimC P n a φ D As Q := fun w hw =>
  Code.wp_mono (fun e a w h => by
    cases e <;> first | exact h | (obtain ⟨φ', D', As', rfl, hK, hS⟩ := h; exact h2 φ' D' As' hK w hS)) (h1 w hw)
theorem e_cut {K : Fr → PH → List Assert → Prop} (h : K φ D As) : End n φ D As (Exit.then (fun a w => ∃ φ' D' As', a = mk n φ' ∧ K φ' D' As' ∧ SInv D' As' w) Q) .normal :=
  fun w hw => ⟨φ, D, As, rfl, h, hw⟩

theorem c_frame {c : Code} (l : List (Nat × Value)) (hl : Is φ l) (h : SimC P n c (updl φ l) D As Q) : SimC P n c φ D As Q := by rwa [updl_self hl] at h
theorem e_frame {e : Exit} (l : List (Nat × Value)) (hl : Is φ l) (h : End n (updl φ l) D As Q e) : End n φ D As Q e := by rwa [updl_self hl] at h
theorem c_perm {c : Code} {As' : List Assert} (hp : As.Perm As') (h : SimC P n c φ D As' Q) : SimC P n c φ D As Q := fun w hw => h w (hw.perm hp)
theorem e_perm {e : Exit} {As' : List Assert} (hp : As.Perm As') (h : End n φ D As' Q e) : End n φ D As Q e := fun w hw => h w (hw.perm hp)

/-- A loop: K k tells the states from which k rounds, at most, are left. -/
theorem c_loop {c : Code} (K : Nat → Fr → PH → List Assert → Prop) (h0 : ∃ k, K k φ D As)
    (hz : ∀ φ' D' As', ¬ K 0 φ' D' As')
    (round : ∀ k φ' D' As', K (k + 1) φ' D' As' → SimC P n c φ' D' As' (Exit.then (fun a w => ∃ φ'' D'' As'', a = mk n φ'' ∧ K k φ'' D'' As'' ∧ SInv D'' As'' w) Q)) : SimC P n (.loop c) φ D As Q := by
  intro w hw
  let M : Nat → Act → World → Prop := fun k a w => ∃ φ' D' As', a = mk n φ' ∧ K k φ' D' As' ∧ SInv D' As' w
  have least : ∀ (a : Act) (w : World), (∃ k, M k a w) → ∃ k, M k a w ∧ ∀ j, M j a w → k ≤ j := by
    intro a w ⟨k, hk⟩
    induction k using Nat.strongRecOn with
    | _ k ih =>
      by_cases hx : ∃ j, j < k ∧ M j a w
      · obtain ⟨j, hj, hm⟩ := hx; exact ih j hj hm
      · exact ⟨k, hk, fun j hj => Nat.le_of_not_lt fun hl => hx ⟨j, hl, hj⟩⟩
  open Classical in
  refine wp_loop (fun a w => ∃ k, M k a w) (fun a w => if h : ∃ k, M k a w then (least a w h).choose else 0) (by obtain ⟨k, hk⟩ := h0; exact ⟨k, φ, D, As, rfl, hk, hw⟩) ?_
  intro a w hI
  obtain ⟨hm, hle⟩ := (least a w hI).choose_spec
  have hdef : (if h : ∃ k, M k a w then (least a w h).choose else 0) = (least a w hI).choose := by rw [dif_pos hI]
  rw [hdef]
  generalize (least a w hI).choose = m at hm hle
  cases m with
  | zero => obtain ⟨φ', D', As', _, hK, _⟩ := hm; exact absurd hK (hz _ _ _)
  | succ m =>
    obtain ⟨φ', D', As', rfl, hK, hS⟩ := hm
    refine Code.wp_mono (fun e a' w' h => ?_) (round m φ' D' As' hK w hS)
    cases e <;> first | exact h | skip
    have hm' : M m a' w' := h
    have hex : ∃ k, M k a' w' := ⟨m, hm'⟩
    refine ⟨hex, ?_⟩
    rw [dif_pos hex]
    exact Nat.lt_succ_of_le ((least a' w' hex).choose_spec.2 m hm')

/-! ### Regions -/
theorem l_nil (h : End n φ D As Q .normal) : SimL P n ops [] φ D As Q := h
theorem l_op (hw : want n φ ops o = true) {K : Value → PH → List Assert → Prop} (h : OpW P n o φ D As K) (k : ∀ v D' As', K v D' As' → SimL P n ops rest (updo φ o.dst v) D' As' Q) : SimL P n ops (o :: rest) φ D As Q := by
  intro w hS
  unfold wpList
  rw [wanted_mk, hw, if_pos rfl]
  refine .inl ?_
  unfold Oper.wp
  rw [eval_mk]
  have h1 := h w hS Q
  generalize (execOp (ev n φ) o).run P w = r at h1
  have fin : ∀ a w', (∃ v D' As', a = (mk n φ).put o.dst v ∧ K v D' As' ∧ SInv D' As' w') → wpList P ops Q rest a w' := by
    rintro a w' ⟨v, D', As', rfl, hK, hS'⟩
    rw [put_mk]
    exact k v D' As' hK w' hS'
  cases r with
  | ok x w' =>
    cases x <;> simp only [Oper.upon] at h1 ⊢
    case value v => exact fin _ _ h1
    case skip => exact fin _ _ h1
    case defer d => exact fin _ _ h1
    case enter f args => exact h1.mono fun e w'' he => by cases e <;> first | exact fin _ _ he | exact he
    case row r args => exact Rows.mono h1 fun v w'' he => fin _ _ he
  | halt x w' => cases x <;> simp only [Oper.upon] at h1 ⊢ <;> exact h1
theorem l_skip (hw : want n φ ops o = false) (k : SimL P n ops rest (updo φ o.dst undef) D As Q) : SimL P n ops (o :: rest) φ D As Q := by
  intro w hS
  unfold wpList
  rw [wanted_mk, hw, if_neg (by simp), put_mk]
  exact k w hS
theorem c_region {id : Nat} {l : List Oper} (h : SimL P n l.toArray l φ D As Q) : SimC P n (.region id l.toArray false) φ D As Q := fun w hw => wp_region_lit (h w hw)

/-- Operations that only read, in the order of the text: K is asked of the frame behind them. -/
def QL (P : Program) (n : Nat) (ops : Array Oper) (D : PH) (As : List Assert) : List Oper → Fr → (Fr → Prop) → Prop
  | [], φ, K => K φ
  | o :: rest, φ, K => if want n φ ops o then ∃ v, (∀ w : World, SInv D As w → Oper.quietUpon P (fun w' => SInv D As w') w v ((execOp (ev n φ) o).run P w)) ∧ QL P n ops D As rest (updo φ o.dst v) K else QL P n ops D As rest (updo φ o.dst undef) K

theorem ql_nil {K : Fr → Prop} (h : K φ) : QL P n ops D As [] φ K := h
theorem ql_op {K : Fr → Prop} {v : Value} (hw : want n φ ops o = true) (h : QV P n o φ D As v) (k : QL P n ops D As rest (updo φ o.dst v) K) : QL P n ops D As (o :: rest) φ K := by
  unfold QL
  rw [if_pos hw]
  exact ⟨v, fun w hS => by rw [h w hS]; exact ⟨rfl, rfl⟩, k⟩
theorem ql_skip {K : Fr → Prop} (hw : want n φ ops o = false) (k : QL P n ops D As rest (updo φ o.dst undef) K) : QL P n ops D As (o :: rest) φ K := by
  unfold QL
  rw [if_neg (by simp [hw])]
  exact k
/-- A call that yields this value and leaves the symbolic state. -/
theorem ql_call {K : Fr → Prop} {v : Value} {f : FuncId} {args : Array Value} (hw : want n φ ops o = true) (he : ∀ w, (execOp (ev n φ) o).run P w = .ok (.enter f args) w)
    (hc : ∀ w : World, SInv D As w → Calls P f args w fun e w' => e = .returned v ∧ SInv D As w') (k : QL P n ops D As rest (updo φ o.dst v) K) : QL P n ops D As (o :: rest) φ K := by
  unfold QL
  rw [if_pos hw]
  exact ⟨v, fun w hS => by rw [he w]; exact ⟨rfl, hc w hS⟩, k⟩

theorem QL.wpQuiet : ∀ (l : List Oper) (φ : Fr) {K : Fr → Prop}, QL P n ops D As l φ K → wpQuiet P ops (fun w' => SInv D As w') (fun a => ∃ φ', a = mk n φ' ∧ K φ') l (mk n φ)
  | [], φ, K, h => ⟨φ, rfl, h⟩
  | o :: l, φ, K, h => by
    unfold QL at h
    unfold Go.wpQuiet
    rw [wanted_mk]
    split at h
    · rename_i hw
      rw [if_pos hw]
      obtain ⟨v, h1, h2⟩ := h
      refine ⟨v, fun w hS => ?_, ?_⟩
      · unfold Oper.quietAt
        rw [eval_mk]
        exact h1 w hS
      · rw [put_mk]; exact QL.wpQuiet l _ h2
    · rename_i hw
      rw [if_neg hw, put_mk]
      exact QL.wpQuiet l _ h

theorem QL.wpList : ∀ (l : List Oper) (φ : Fr) {K : Fr → Prop}, QL P n ops D As l φ K → (∀ φ', K φ' → End n φ' D As Q .normal) → SimL P n ops l φ D As Q
  | [], φ, K, h, hQ => hQ φ h
  | o :: l, φ, K, h, hQ => by
    unfold QL at h
    split at h
    · rename_i hw
      obtain ⟨v, h1, h2⟩ := h
      intro w hS
      unfold Go.wpList
      rw [wanted_mk, if_pos hw]
      refine .inl ?_
      unfold Oper.wp
      rw [eval_mk]
      have h3 := h1 w hS
      have ih := QL.wpList l _ h2 hQ
      generalize (execOp (ev n φ) o).run P w = r at h3
      cases r with
      | ok x w' =>
        cases x <;> simp only [Oper.quietUpon] at h3 <;> simp only [Oper.upon]
        case value u => obtain ⟨rfl, rfl⟩ := h3; rw [put_mk]; exact ih _ hS
        case skip => obtain ⟨rfl, rfl⟩ := h3; rw [put_mk]; exact ih _ hS
        case enter f args =>
          obtain ⟨rfl, hc⟩ := h3
          exact hc.mono fun e w'' ⟨he, hS'⟩ => by subst he; simp only []; rw [put_mk]; exact ih _ hS'
      | halt x w' => simp only [Oper.quietUpon] at h3
    · rename_i hw
      exact l_skip (by simpa using hw) (QL.wpList l _ h hQ)

theorem c_quiet {id : Nat} {l : List Oper} (h : QL P n l.toArray D As l φ (fun φ' => End n φ' D As Q .normal)) : SimC P n (.region id l.toArray false) φ D As Q :=
  c_region (QL.wpList l φ h fun _ h => h)
theorem c_quiet_draw {id : Nat} {l : List Oper} (hm : P.follows .mixedOrders = true) (hB : Region.lexB .any l.toArray = true) (h : QL P n l.toArray D As l φ (fun φ' => End n φ' D As Q .normal)) : SimC P n (.region id l.toArray true) φ D As Q := by
  intro w hS
  refine wp_region_quiet (C := fun w' => SInv D As w') hm hB hS ?_
  have h1 := QL.wpQuiet l φ h
  have h2 : ∀ (l' : List Oper) (a : Act), Go.wpQuiet P l.toArray (fun w' => SInv D As w') (fun a => ∃ φ', a = mk n φ' ∧ End n φ' D As Q .normal) l' a → Go.wpQuiet P l.toArray (fun w' => SInv D As w') (fun a' => ∀ w' : World, SInv D As w' → Q .normal a' w') l' a := by
    intro l'
    induction l' with
    | nil => rintro a ⟨φ', rfl, he⟩ w' hS'; exact he w' hS'
    | cons o l' ih =>
      intro a ha
      unfold Go.wpQuiet at ha ⊢
      split at ha
      · rename_i hw; rw [if_pos hw]; obtain ⟨v, g1, g2⟩ := ha; exact ⟨v, g1, ih _ g2⟩
      · rename_i hw; rw [if_neg hw]; exact ih _ ha
  simpa using h2 _ _ h1
/-- A truth value in a frame is known on each way. -/
theorem ql_case {K : Fr → Prop} {l : List Oper} (d : Nat) (b : Bool) (hv : φ d = .bool b) (ht : b = true → QL P n ops D As l (upd φ d (.bool true)) K) (hf : b = false → QL P n ops D As l (upd φ d (.bool false)) K) : QL P n ops D As l φ K := by
  cases b with
  | true => have := ht rfl; rwa [upd_self hv] at this
  | false => have := hf rfl; rwa [upd_self hv] at this
theorem l_case {l : List Oper} (d : Nat) (b : Bool) (hv : φ d = .bool b) (ht : b = true → SimL P n ops l (upd φ d (.bool true)) D As Q) (hf : b = false → SimL P n ops l (upd φ d (.bool false)) D As Q) : SimL P n ops l φ D As Q := by
  cases b with
  | true => have := ht rfl; rwa [upd_self hv] at this
  | false => have := hf rfl; rwa [upd_self hv] at this

/-! ### Functions -/
/-- How a function is entered and what is asked at its end. -/
def Post (R : Ending → World → Prop) (P : Program) (fn : Func) : Exit → Act → World → Prop := bodyPost P fn R
theorem call_intro {f : FuncId} {fn : Func} {c : Code} {args : List Value} {R : Ending → World → Prop} (hf : P.funcs[f]? = some fn) (hb : fn.body = some c) (hn : fn.ntmps = n) (hl : args.length ≤ n) {w : World} (hS : SInv D As w)
    (h : SimC P n c (fr0 args) D As (bodyPost P fn R)) : Calls P f args.toArray w R := by
  subst hn
  exact calls_of_wp hf hb (by have := h w hS; rwa [mk_fr0 _ _ hl] at this)

theorem post_tmp1 {fn : Func} {R : Ending → World → Prop} {t : Nat} {v : Value} {e : Exit} (hr : fn.results = #[.tmp t]) (hv : ev n φ (.tmp t) = v) (he : e = .ret ∨ e = .normal) (h : ∀ w : World, SInv D As w → R (.returned v) w) :
    End n φ D As (bodyPost P fn R) e := by
  intro w hS
  have hx : (results fn (mk n φ).tmps).run P w = .ok v w := by
    rw [results_tmp hr]
    have : (mk n φ).tmps.getD t undef = v := by rw [← hv, ← eval_mk]; rfl
    rw [this]
  rcases he with rfl | rfl <;> exact ⟨rfl, v, hx, h w hS⟩
theorem post_tmp0 {fn : Func} {R : Ending → World → Prop} {e : Exit} (hr : fn.results = #[]) (he : e = .ret ∨ e = .normal) (h : ∀ w : World, SInv D As w → R (.returned (.tuple #[])) w) :
    End n φ D As (bodyPost P fn R) e := by
  intro w hS
  have hx : (results fn (mk n φ).tmps).run P w = .ok (.tuple #[]) w := results_none hr _ _ _
  rcases he with rfl | rfl <;> exact ⟨rfl, _, hx, h w hS⟩
theorem post_tmp2 {fn : Func} {R : Ending → World → Prop} {t u : Nat} {v x : Value} {e : Exit} (hr : fn.results = #[.tmp t, .tmp u]) (hv : ev n φ (.tmp t) = v) (hu : ev n φ (.tmp u) = x) (he : e = .ret ∨ e = .normal) (h : ∀ w : World, SInv D As w → R (.returned (.tuple #[v, x])) w) :
    End n φ D As (bodyPost P fn R) e := by
  intro w hS
  have hx : (results fn (mk n φ).tmps).run P w = .ok (.tuple #[v, x]) w := by
    rw [results_tmp2 hr]
    have h1 : (mk n φ).tmps.getD t undef = v := by rw [← hv, ← eval_mk]; rfl
    have h2 : (mk n φ).tmps.getD u undef = x := by rw [← hu, ← eval_mk]; rfl
    rw [h1, h2]
  rcases he with rfl | rfl <;> exact ⟨rfl, _, hx, h w hS⟩
end
end Sx
