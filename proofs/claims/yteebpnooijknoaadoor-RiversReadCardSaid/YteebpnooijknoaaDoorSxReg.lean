/- Own library, seventh part: regions that draw their order and hold one operation after the other that changes memory; parts laid down for good; the order of the parts. -/
import Derived.Test.YteebpnooijknoaaDoorSxApp
namespace Sx
open Go
variable [WB]
set_option linter.all false

/-! ### Regions that draw their order -/
section
variable {P : Program} {n : Nat} {ops : Array Oper} {Q : Exit → Act → World → Prop} {md : Region.Mode}

/-- The classes of worlds that a region runs through: what is held (B, over D0) stays; the rest may change. -/
def Fam (D0 : PH) (B : List Assert) (C : World → Prop) : Prop := ∃ D R, PH.le D0 D ∧ C = fun w => SInv D (B ++ R) w
/-- Whatever order is picked from here on. -/
def anyF (P : Program) (md : Region.Mode) (ops : Array Oper) (Q : Exit → Act → World → Prop) (F : (World → Prop) → Prop) : Nat → Array Bool → Act → (World → Prop) → Prop
  | 0, listed, a, C => Region.ready md ops listed = [] ∧ ∀ w, C w → Q .normal a w
  | k + 1, listed, a, C => (Region.ready md ops listed = [] → ∀ w, C w → Q .normal a w) ∧
    ∀ i ∈ Region.ready md ops listed, ∀ w, C w → wpOp P ops Q i (fun a' w' => ∃ C', F C' ∧ C' w' ∧ anyF P md ops Q F k (listed.setIfInBounds i true) a' C') a w

omit [WB] in
theorem anyF_wpAny {F : (World → Prop) → Prop} : ∀ (k : Nat) (listed : Array Bool) (a : Act) (C : World → Prop) (w : World), C w → anyF P md ops Q F k listed a C → wpAny P md ops Q k listed a w
  | 0, _, _, _, w, hC, h => ⟨h.1, h.2 w hC⟩
  | k + 1, listed, a, C, w, hC, h => ⟨fun h0 => h.1 h0 w hC, fun i hi => wpOp_mono (fun a' w' ⟨C', _, hC', h'⟩ => anyF_wpAny k _ a' C' w' hC' h') (h.2 i hi w hC)⟩

/-- In state a, in every class, the operation yields v and stays in the class. -/
def YieldsF (P : Program) (ops : Array Oper) (F : (World → Prop) → Prop) (o : Oper) (v : Value) (a : Act) : Prop :=
  (Region.wanted o (yielded ops a.tmps) = true ∧ ∀ C, F C → ∀ w, C w → o.quietAt P a C w v) ∨ (Region.wanted o (yielded ops a.tmps) = false ∧ v = undef)
omit [WB] in
theorem YieldsF.of_same {F : (World → Prop) → Prop} {o : Oper} {v : Value} {a a' : Act} (hy : YieldsF P ops F o v a) (he : execOp a'.eval o = execOp a.eval o) (hw : Region.wanted o (yielded ops a'.tmps) = Region.wanted o (yielded ops a.tmps)) : YieldsF P ops F o v a' := by
  unfold YieldsF Oper.quietAt at *
  rw [he, hw]
  exact hy
omit [WB] in
theorem YieldsF.wpOp {F : (World → Prop) → Prop} {i : Nat} {o : Oper} {v : Value} {a : Act} (hi : ops[i]? = some o) (hy : YieldsF P ops F o v a) {K : Act → World → Prop} {C : World → Prop} (hF : F C) {w : World} (hC : C w) (h : ∀ w', C w' → K (a.put o.dst v) w') : wpOp P ops Q i K a w := by
  unfold Go.wpOp
  simp only [hi]
  rcases hy with ⟨hw, hv⟩ | ⟨hw, rfl⟩
  · simp only [hw, if_true]
    refine .inl ?_
    have h3 := hv C hF w hC
    unfold Oper.quietAt at h3
    unfold Oper.wp
    generalize (execOp a.eval o).run P w = r at *
    cases r with
    | ok x w' =>
      cases x <;> simp only [Oper.quietUpon] at h3 <;> simp only [Oper.upon]
      case value u => obtain ⟨rfl, rfl⟩ := h3; exact h _ hC
      case skip => obtain ⟨rfl, rfl⟩ := h3; exact h _ hC
      case enter f args =>
        obtain ⟨rfl, hc⟩ := h3
        exact hc.mono fun e w'' ⟨he, hw''⟩ => by subst he; exact h _ hw''
    | halt x w' => simp only [Oper.quietUpon] at h3
  · simp only [hw, Bool.false_eq_true, if_false]; exact h w hC

omit [WB] in
/-- An operation apart from another one does not mind whether that one's value is laid already. -/
theorem wpOp_putF {F : (World → Prop) → Prop} {j : Nat} {oi oj : Oper} {v : Value} (hj : ops[j]? = some oj) (hap : oi.apart ops oj = true) (hsi : ∀ cs b, oi.op ≠ .select cs b) (hsj : ∀ cs b, oj.op ≠ .select cs b)
    (hQ : ∀ c a w, Q (.panic c) (a.put oi.dst v) w → Q (.panic c) a w) {K : Act → World → Prop} {a : Act} {w : World} (hy : YieldsF P ops F oi v a) (h : wpOp P ops Q j K (a.put oi.dst v) w) :
    wpOp P ops Q j (fun a' w' => YieldsF P ops F oi v a' ∧ K (a'.put oi.dst v) w') a w := by
  obtain ⟨h1, h2, h3⟩ := Oper.apart_spec hap
  have keep : ∀ (a : Act), YieldsF P ops F oi v a → ∀ u, YieldsF P ops F oi v (a.put oj.dst u) := fun a hy u => hy.of_same (execOp_put oi hsi a oj.dst u h3) (wanted_put oi a oj.dst u h3)
  have keepD : ∀ d, YieldsF P ops F oi v { a with defers := d :: a.defers } := fun d => hy.of_same rfl rfl
  unfold wpOp at *
  simp only [hj] at *
  rw [wanted_put oj a oi.dst v h1] at h
  split
  · rename_i hw
    simp only [hw, if_true] at h
    rcases h with h | ⟨hasks, hlets⟩
    case inr => exact .inr ⟨by unfold Oper.asks at *; rw [execOp_put oj hsj a oi.dst v h1] at hasks; exact hasks, hlets⟩
    refine .inl ?_
    unfold Oper.wp at *
    rw [execOp_put oj hsj a oi.dst v h1] at h
    generalize (execOp a.eval oj).run P w = r at *
    cases r with
    | ok x w' =>
      cases x <;> simp only [Oper.upon] at h ⊢
      case value u => exact ⟨keep a hy u, by rw [← Act.put_comm a v u h2]; exact h⟩
      case skip => exact ⟨keep a hy _, by rw [← Act.put_comm a v undef h2]; exact h⟩
      case defer d =>
        refine ⟨keep _ (keepD d) _, ?_⟩
        rw [← Act.put_comm _ v undef h2, ← Act.put_defers]
        exact h
      case enter f args =>
        refine Calls.mono h fun e w'' he => ?_
        cases e with
        | returned u => exact ⟨keep a hy u, by rw [← Act.put_comm a v u h2]; exact he⟩
        | panicked c => exact hQ _ _ _ he
        | outgrown => exact he
      case row row args => exact Rows.mono h fun u w'' he => ⟨keep a hy u, by rw [← Act.put_comm a v u h2]; exact he⟩
    | halt x w' =>
      cases x <;> simp only [Oper.upon] at h ⊢
      case panic u => exact hQ _ _ _ h
  · rename_i hw
    simp only [hw] at h
    exact ⟨keep a hy _, by rw [← Act.put_comm a v undef h2]; exact h⟩

omit [WB] in
theorem anyF_first {F : (World → Prop) → Prop} {i : Nat} {oi : Oper} {v : Value} (hi : ops[i]? = some oi) (hsel : ∀ (j : Nat) (o : Oper) cs b, ops[j]? = some o → o.op ≠ .select cs b) (hQ : ∀ c a w, Q (.panic c) (a.put oi.dst v) w → Q (.panic c) a w) :
    ∀ (fuel : Nat) (listed : Array Bool) (a : Act) (C : World → Prop),
      (∀ j oj, ops[j]? = some oj → j ≠ i → listed.getD j true = false → (∀ e ∈ oj.after, Region.binds md e = true → e.on ≠ i) → oi.apart ops oj = true) →
      i ∈ Region.ready md ops listed → YieldsF P ops F oi v a → F C → anyF P md ops Q F fuel (listed.setIfInBounds i true) (a.put oi.dst v) C → anyF P md ops Q F (fuel + 1) listed a C := by
  intro fuel
  induction fuel with
  | zero =>
    intro listed a C _ hr hy hF H
    refine ⟨fun h => (by rw [h] at hr; cases hr), fun j hj w hC => ?_⟩
    by_cases hji : j = i
    · subst hji; exact hy.wpOp hi hF hC fun w' hw' => ⟨C, hF, hw', H⟩
    · have := ready_mono hj hji
      rw [H.1] at this
      cases this
  | succ fuel ih =>
    intro listed a C hfree hr hy hF H
    refine ⟨fun h => (by rw [h] at hr; cases hr), fun j hj w hC => ?_⟩
    by_cases hji : j = i
    · subst hji; exact hy.wpOp hi hF hC fun w' hw' => ⟨C, hF, hw', H⟩
    · have h1 := H.2 j (ready_mono hj hji) w hC
      obtain ⟨hjun, oj, hoj, hall⟩ := mem_ready.1 hj
      have hnot : ∀ e ∈ oj.after, Region.binds md e = true → e.on ≠ i := fun e he hb heq => by
        have h1 := hall e he hb
        have h0 := (mem_ready.1 hr).1
        rw [heq] at h1
        rcases Nat.lt_or_ge i listed.size with h' | h'
        · simp [h'] at h0 h1; rw [h0] at h1; cases h1
        · simp [Array.getElem?_eq_none h'] at h1
      have h2 := wpOp_putF hoj (hfree j oj hoj hji hjun hnot) (fun cs b => hsel i oi cs b hi) (fun cs b => hsel j oj cs b hoj) hQ hy h1
      have hfree' : ∀ k ok, ops[k]? = some ok → k ≠ i → (listed.setIfInBounds j true).getD k true = false → (∀ e ∈ ok.after, Region.binds md e = true → e.on ≠ i) → oi.apart ops ok = true := fun k ok hk hki hun hno => by
        refine hfree k ok hk hki ?_ hno
        by_cases hjk : j = k
        · subst hjk; exact hjun
        · rw [getD_set_ne true hjk] at hun; exact hun
      refine wpOp_mono (fun a' w' h3 => ?_) h2
      obtain ⟨hy', C', hF', hC', h4⟩ := h3
      refine ⟨C', hF', hC', ih (listed.setIfInBounds j true) a' C' hfree' (ready_mono hr (Ne.symm hji)) hy' hF' ?_⟩
      rw [Array.setIfInBounds_comm _ _ hji]
      exact h4

/-- The order of a walk: q: a step that only reads (it may be taken first); e: a step that changes memory (it must come up alone); f: several such steps come up at once, each with its own way on. -/
inductive OT where
  | nil
  | q (k : Nat) (t : OT)
  | e (k : Nat) (t : OT)
  | f (k : Nat) (t r : OT)
def OT.keys : OT → List Nat
  | .e k _ => [k]
  | .f k _ r => k :: r.keys
  | _ => []
def ordB (md : Region.Mode) (ops : Array Oper) : Bool → OT → Nat → Array Bool → Bool
  | false, .nil, 0, listed => (Region.ready md ops listed).isEmpty
  | false, .q k t, m + 1, listed => (Region.ready md ops listed).contains k && Region.free md ops listed k && ordB md ops false t m (listed.setIfInBounds k true)
  | alt, .e k t, m + 1, listed => (alt || (Region.ready md ops listed == [k])) && ordB md ops false t m (listed.setIfInBounds k true)
  | alt, .f k t r, m + 1, listed => (alt || (Region.ready md ops listed == k :: r.keys)) && ordB md ops false t m (listed.setIfInBounds k true) && ordB md ops true r (m + 1) listed
  | _, _, _, _ => false
def ordOK (md : Region.Mode) (ops : Array Oper) (t : OT) : Bool := Region.noSelect ops && ordB md ops false t ops.size (Array.replicate ops.size false)

/-- The walk of a region in such an order. B, over D0, is held all along; R is the rest. -/
def SimO (P : Program) (n : Nat) (ops : Array Oper) (Q : Exit → Act → World → Prop) (D0 : PH) (B : List Assert) : OT → Fr → PH → List Assert → Prop
  | .nil, φ, D, R => ∀ w : World, SInv D (B ++ R) w → Q .normal (mk n φ) w
  | .q k l, φ, D, R => ∃ o, ops[k]? = some o ∧ ((want n φ ops o = true ∧ ∃ v, (∀ D' R', PH.le D0 D' → ∀ w : World, SInv D' (B ++ R') w → Oper.quietUpon P (fun w' => SInv D' (B ++ R') w') w v ((execOp (ev n φ) o).run P w)) ∧ SimO P n ops Q D0 B l (updo φ o.dst v) D R) ∨
      (want n φ ops o = false ∧ SimO P n ops Q D0 B l (updo φ o.dst undef) D R))
  | .e k l, φ, D, R => ∃ o, ops[k]? = some o ∧ ((want n φ ops o = true ∧ OpW P n o φ D (B ++ R) (fun v D' As' => ∃ R', As' = B ++ R' ∧ PH.le D0 D' ∧ SimO P n ops Q D0 B l (updo φ o.dst v) D' R')) ∨
      (want n φ ops o = false ∧ SimO P n ops Q D0 B l (updo φ o.dst undef) D R))
  | .f k l r, φ, D, R => (∃ o, ops[k]? = some o ∧ ((want n φ ops o = true ∧ OpW P n o φ D (B ++ R) (fun v D' As' => ∃ R', As' = B ++ R' ∧ PH.le D0 D' ∧ SimO P n ops Q D0 B l (updo φ o.dst v) D' R')) ∨
      (want n φ ops o = false ∧ SimO P n ops Q D0 B l (updo φ o.dst undef) D R))) ∧ SimO P n ops Q D0 B r φ D R
theorem o_f {D0 : PH} {B : List Assert} {k : Nat} {l r : OT} {φ : Fr} {D : PH} {R : List Assert} (h1 : SimO P n ops Q D0 B (.e k l) φ D R) (h2 : SimO P n ops Q D0 B r φ D R) : SimO P n ops Q D0 B (.f k l r) φ D R := ⟨h1, h2⟩

theorem SimO.step {D0 : PH} {B : List Assert} {k m : Nat} {l : OT} {listed : Array Bool} {φ : Fr} {D : PH} {R : List Assert} (hD : PH.le D0 D)
    (ih : ∀ φ D R, PH.le D0 D → SimO P n ops Q D0 B l φ D R → anyF P md ops Q (Fam D0 B) m (listed.setIfInBounds k true) (mk n φ) (fun w => SInv D (B ++ R) w)) (h : SimO P n ops Q D0 B (.e k l) φ D R) (w : World) (hC : SInv D (B ++ R) w) :
    wpOp P ops Q k (fun a' w' => ∃ C', Fam D0 B C' ∧ C' w' ∧ anyF P md ops Q (Fam D0 B) m (listed.setIfInBounds k true) a' C') (mk n φ) w := by
  obtain ⟨o, ho, h⟩ := h
  unfold Go.wpOp
  simp only [ho]
  rcases h with ⟨hw, h⟩ | ⟨hw, h⟩
  · rw [wanted_mk, hw, if_pos rfl]
    refine .inl ?_
    unfold Oper.wp
    rw [eval_mk]
    have h1 := h w hC Q
    generalize (execOp (ev n φ) o).run P w = r at h1
    have fin : ∀ a w', (∃ v D' As', a = (mk n φ).put o.dst v ∧ (∃ R', As' = B ++ R' ∧ PH.le D0 D' ∧ SimO P n ops Q D0 B l (updo φ o.dst v) D' R') ∧ SInv D' As' w') → ∃ C', Fam D0 B C' ∧ C' w' ∧ Sx.anyF P md ops Q (Fam D0 B) m (listed.setIfInBounds k true) a C' := by
      rintro a w' ⟨v, D', As', rfl, ⟨R', rfl, hD', hS⟩, hS'⟩
      refine ⟨_, ⟨D', R', hD', rfl⟩, hS', ?_⟩
      rw [put_mk]
      exact ih _ D' R' hD' hS
    cases r with
    | ok x w' =>
      cases x <;> simp only [Oper.upon] at h1 ⊢
      case value v => exact fin _ _ h1
      case skip => exact fin _ _ h1
      case defer d => exact fin _ _ h1
      case enter f args => exact h1.mono fun e w'' he => by cases e <;> first | exact fin _ _ he | exact he
      case row r args => exact Rows.mono h1 fun v w'' he => fin _ _ he
    | halt x w' => cases x <;> simp only [Oper.upon] at h1 ⊢ <;> exact h1
  · rw [wanted_mk, hw, if_neg (by simp)]
    refine ⟨_, ⟨D, R, hD, rfl⟩, hC, ?_⟩
    rw [put_mk]
    exact ih _ D R hD h

theorem SimO.anyF {D0 : PH} {B : List Assert} (hsel : Region.noSelect ops = true) (hQ : ∀ c (a : Act) (d : Option Tmp) (v : Value) w, Q (.panic c) (a.put d v) w → Q (.panic c) a w) :
    ∀ (l : OT), (∀ (m : Nat) (listed : Array Bool) (φ : Fr) (D : PH) (R : List Assert), PH.le D0 D → ordB md ops false l m listed = true → SimO P n ops Q D0 B l φ D R → anyF P md ops Q (Fam D0 B) m listed (mk n φ) (fun w => SInv D (B ++ R) w)) ∧
      (∀ (m : Nat) (listed : Array Bool) (φ : Fr) (D : PH) (R : List Assert), PH.le D0 D → ordB md ops true l (m + 1) listed = true → SimO P n ops Q D0 B l φ D R → ∀ i ∈ l.keys, ∀ w : World, SInv D (B ++ R) w → wpOp P ops Q i (fun a' w' => ∃ C', Fam D0 B C' ∧ C' w' ∧ Sx.anyF P md ops Q (Fam D0 B) m (listed.setIfInBounds i true) a' C') (mk n φ) w)
  | .nil => by
    refine ⟨fun m listed φ D R hD hB h => ?_, fun m listed φ D R hD hB h => ?_⟩
    · cases m with
      | zero => exact ⟨by simpa [ordB] using hB, h⟩
      | succ m => simp [ordB] at hB
    · simp [ordB] at hB
  | .q k l => by
    refine ⟨fun m listed φ D R hD hB h => ?_, fun m listed φ D R hD hB h => ?_⟩
    · cases m with
      | zero => simp [ordB] at hB
      | succ m =>
        simp only [ordB, Bool.and_eq_true] at hB
        obtain ⟨⟨hr, hf⟩, hB'⟩ := hB
        obtain ⟨o, ho, h⟩ := h
        have go : ∀ v, YieldsF P ops (Fam D0 B) o v (mk n φ) → SimO P n ops Q D0 B l (updo φ o.dst v) D R → Sx.anyF P md ops Q (Fam D0 B) (m + 1) listed (mk n φ) (fun w => SInv D (B ++ R) w) := by
          intro v hy hS
          refine anyF_first ho (Region.noSelect_spec hsel) (fun c a w => hQ c a o.dst v w) m listed _ _ (Region.free_spec ho hf) (by simpa using hr) hy ⟨D, R, hD, rfl⟩ ?_
          rw [put_mk]
          exact (SimO.anyF hsel hQ l).1 m _ _ D R hD hB' hS
        rcases h with ⟨hw, v, h1, h2⟩ | ⟨hw, h2⟩
        · refine go v (.inl ⟨by rw [wanted_mk]; exact hw, ?_⟩) h2
          rintro C ⟨D', R', hD', rfl⟩ w hC
          unfold Oper.quietAt
          rw [eval_mk]
          exact h1 D' R' hD' w hC
        · exact go undef (.inr ⟨by rw [wanted_mk]; exact hw, rfl⟩) h2
    · simp [ordB] at hB
  | .e k l => by
    have two : ∀ (m : Nat) (listed : Array Bool) (φ : Fr) (D : PH) (R : List Assert), PH.le D0 D → ordB md ops true (.e k l) (m + 1) listed = true → SimO P n ops Q D0 B (.e k l) φ D R → ∀ i ∈ (OT.e k l).keys, ∀ w : World, SInv D (B ++ R) w → wpOp P ops Q i (fun a' w' => ∃ C', Fam D0 B C' ∧ C' w' ∧ Sx.anyF P md ops Q (Fam D0 B) m (listed.setIfInBounds i true) a' C') (mk n φ) w := by
      intro m listed φ D R hD hB h i hi w hC
      obtain rfl : i = k := by simpa [OT.keys] using hi
      simp only [ordB, Bool.true_or, Bool.true_and] at hB
      exact SimO.step hD (fun φ D R hD h => (SimO.anyF hsel hQ l).1 m _ φ D R hD hB h) h w hC
    refine ⟨fun m listed φ D R hD hB h => ?_, two⟩
    cases m with
    | zero => simp [ordB] at hB
    | succ m =>
      simp only [ordB, Bool.false_or, Bool.and_eq_true] at hB
      have hr : Region.ready md ops listed = [k] := by simpa using hB.1
      refine ⟨fun h0 => (by rw [hr] at h0; cases h0), fun i hi w hC => ?_⟩
      rw [hr] at hi
      exact two m listed φ D R hD (by simp only [ordB, Bool.true_or, Bool.true_and]; exact hB.2) h i (by simpa [OT.keys] using hi) w hC
  | .f k l r => by
    have two : ∀ (m : Nat) (listed : Array Bool) (φ : Fr) (D : PH) (R : List Assert), PH.le D0 D → ordB md ops true (.f k l r) (m + 1) listed = true → SimO P n ops Q D0 B (.f k l r) φ D R → ∀ i ∈ (OT.f k l r).keys, ∀ w : World, SInv D (B ++ R) w → wpOp P ops Q i (fun a' w' => ∃ C', Fam D0 B C' ∧ C' w' ∧ Sx.anyF P md ops Q (Fam D0 B) m (listed.setIfInBounds i true) a' C') (mk n φ) w := by
      intro m listed φ D R hD hB h i hi w hC
      simp only [ordB, Bool.true_or, Bool.true_and, Bool.and_eq_true] at hB
      rcases List.mem_cons.1 (by simpa only [OT.keys] using hi) with rfl | hi
      · exact SimO.step hD (fun φ D R hD h => (SimO.anyF hsel hQ l).1 m _ φ D R hD hB.1 h) h.1 w hC
      · exact (SimO.anyF hsel hQ r).2 m listed φ D R hD hB.2 h.2 i hi w hC
    refine ⟨fun m listed φ D R hD hB h => ?_, two⟩
    cases m with
    | zero => simp [ordB] at hB
    | succ m =>
      simp only [ordB, Bool.false_or, Bool.and_eq_true] at hB
      have hr : Region.ready md ops listed = k :: r.keys := by simpa using hB.1.1
      refine ⟨fun h0 => (by rw [hr] at h0; cases h0), fun i hi w hC => ?_⟩
      rw [hr] at hi
      exact two m listed φ D R hD (by simp only [ordB, Bool.true_or, Bool.true_and, Bool.and_eq_true]; exact ⟨hB.1.2, hB.2⟩) h i hi w hC

/-- An exit that asks nothing of the frame when the code panics. -/
def NoPanic (Q : Exit → Act → World → Prop) : Prop := ∀ c (a : Act) (d : Option Tmp) (v : Value) w, Q (.panic c) (a.put d v) w → Q (.panic c) a w
omit [WB] in
theorem NoPanic.then {K : Act → World → Prop} (h : NoPanic Q) : NoPanic (Exit.then K Q) := fun c a d v w hq => h c a d v w hq
omit [WB] in
theorem NoPanic.blk {id : Nat} (h : NoPanic Q) : NoPanic (Exit.inBlock id Q) := fun c a d v w hq => h c a d v w hq
omit [WB] in
theorem NoPanic.post {fn : Func} {R : Ending → World → Prop} : NoPanic (bodyPost P fn R) := fun c a d v w hq => by
  cases d <;> exact hq

theorem c_order {id : Nat} {l : List Oper} {φ : Fr} {D : PH} {B R : List Assert} (ord : OT) (hm : P.follows .mixedOrders = true) (hord : ordOK .any l.toArray ord = true) (hQ : NoPanic Q) (h : SimO P n l.toArray Q D B ord φ D R) : SimC P n (.region id l.toArray true) φ D (B ++ R) Q := by
  intro w hS
  simp only [ordOK, Bool.and_eq_true] at hord
  obtain ⟨h1, h3⟩ := hord
  refine wp_region_any hm (anyF_wpAny (F := Fam D B) _ _ _ (fun w => SInv D (B ++ R) w) _ hS ?_)
  exact (SimO.anyF (P := P) (n := n) (md := .any) h1 hQ ord).1 _ _ φ D R (PH.le_refl D) h3 h

section
variable {φ : Fr} {D0 D : PH} {B R : List Assert} {l : OT}
theorem o_s {k : Nat} {d : Nat} {op : Op} {t : TypeId} {pos : String} {aft : Array Edge} {g : Option (Nat × Bool)} (v : Value) (hk : ops[k]? = some ⟨some d, op, t, pos, aft, g⟩) (h : sval P n ops φ ⟨some d, op, t, pos, aft, g⟩ = some v)
    (kk : SimO P n ops Q D0 B l (upd φ d v) D R) : SimO P n ops Q D0 B (.q k l) φ D R := by
  unfold sval at h
  refine ⟨_, hk, ?_⟩
  cases hw : want n φ ops ⟨some d, op, t, pos, aft, g⟩ with
  | true => rw [hw] at h; exact .inl ⟨rfl, v, fun D' R' _ w _ => by rw [scal_sound h w]; exact ⟨rfl, rfl⟩, kk⟩
  | false => rw [hw] at h; obtain rfl := Option.some.inj h; exact .inr ⟨rfl, kk⟩
theorem o_q {k : Nat} {o : Oper} {v : Value} (hk : ops[k]? = some o) (hw : want n φ ops o = true) (h : ∀ As D', PH.le D0 D' → QV P n o φ D' (B ++ As) v) (kk : SimO P n ops Q D0 B l (updo φ o.dst v) D R) : SimO P n ops Q D0 B (.q k l) φ D R :=
  ⟨o, hk, .inl ⟨hw, v, fun D' R' hD w hS => by rw [h R' D' hD w hS]; exact ⟨rfl, rfl⟩, kk⟩⟩
theorem o_call {k : Nat} {o : Oper} {v : Value} {f : FuncId} {args : Array Value} (hk : ops[k]? = some o) (hw : want n φ ops o = true) (he : ∀ w, (execOp (ev n φ) o).run P w = .ok (.enter f args) w)
    (hc : ∀ D' R', PH.le D0 D' → ∀ w : World, SInv D' (B ++ R') w → Calls P f args w fun e w' => e = .returned v ∧ SInv D' (B ++ R') w') (kk : SimO P n ops Q D0 B l (updo φ o.dst v) D R) : SimO P n ops Q D0 B (.q k l) φ D R :=
  ⟨o, hk, .inl ⟨hw, v, fun D' R' hD w hS => by rw [he w]; exact ⟨rfl, hc D' R' hD w hS⟩, kk⟩⟩
theorem o_w {k : Nat} {o : Oper} (hk : ops[k]? = some o) (hw : want n φ ops o = true) (h : OpW P n o φ D (B ++ R) (fun v D' As' => ∃ R', As' = B ++ R' ∧ PH.le D0 D' ∧ SimO P n ops Q D0 B l (updo φ o.dst v) D' R')) : SimO P n ops Q D0 B (.e k l) φ D R := ⟨o, hk, .inl ⟨hw, h⟩⟩
theorem o_nil (h : End n φ D (B ++ R) Q .normal) : SimO P n ops Q D0 B .nil φ D R := h
theorem o_case (d : Nat) (b : Bool) (hv : φ d = .bool b) (ht : b = true → SimO P n ops Q D0 B l (upd φ d (.bool true)) D R) (hf : b = false → SimO P n ops Q D0 B l (upd φ d (.bool false)) D R) : SimO P n ops Q D0 B l φ D R := by
  cases b with
  | true => have := ht rfl; rwa [upd_self hv] at this
  | false => have := hf rfl; rwa [upd_self hv] at this
end
end

/-! ### The parts -/
section
variable {P : Program} {n : Nat} {ops : Array Oper} {φ : Fr} {D : PH} {As : List Assert} {Q : Exit → Act → World → Prop}
theorem SInv.lay {α : Type} {e : Enc α} {D0 : PH} {E : TypeId} {b cap : Nat} {xs : List α} {H : World} (hD : PH.le D0 D) (h : SInv D (OwnA D0 e E b cap xs :: As) H) : ∃ D', PH.le D D' ∧ RO e D' (.slice (some ⟨b, 0, none⟩) xs.length cap) xs ∧ SInv D' As H := by
  obtain ⟨k, ⟨cs, rfl, hl, hc, hb, hr⟩, h1, h2, h3⟩ := h.freeze
  refine ⟨_, h1, ⟨_, cap, rfl, hc, hb, fun _ => ⟨b, 0, _, E, (0, 0), rfl, h2 _ _ (one_self b _), fun i x hx => ?_⟩⟩, h3⟩
  rw [Nat.zero_add]
  exact e.mono (PH.le_trans hD h1) (hr i x hx)
theorem SInv.layS {α : Type} {e : Enc α} {D0 : PH} {E : TypeId} {v : Value} {xs : List α} {H : World} (hD : PH.le D0 D) (h : SInv D (OwnS D0 e E v xs :: As) H) : ∃ D', PH.le D D' ∧ RO e D' v xs ∧ SInv D' As H := by
  obtain ⟨q, hq, _, _⟩ := h.head
  rcases hq with ⟨rfl, rfl, _⟩ | ⟨b, cap, rfl, hq⟩
  · exact ⟨D, PH.le_refl D, RO.nil e D, h.tail⟩
  · refine (SInv.imp (B := OwnA D0 e E b cap xs) (fun k hk => ?_) h).lay hD
    rcases hk with ⟨h1, _, _⟩ | ⟨b', cap', h1, hk⟩
    · cases h1
    · injection h1 with h1 h2 h3
      injection h1 with h1
      injection h1 with h1
      subst h1; subst h3
      exact hk

theorem c_layS {α : Type} {e : Enc α} {D0 : PH} {E : TypeId} {v : Value} {xs : List α} {c : Code} (hD : PH.le D0 D) (h : ∀ D', PH.le D D' → RO e D' v xs → SimC P n c φ D' As Q) : SimC P n c φ D (OwnS D0 e E v xs :: As) Q := fun w hS =>
  let ⟨D', h1, h2, h3⟩ := hS.layS hD; h D' h1 h2 w h3
theorem e_layS {α : Type} {e : Enc α} {D0 : PH} {E : TypeId} {v : Value} {xs : List α} {x : Exit} (hD : PH.le D0 D) (h : ∀ D', PH.le D D' → RO e D' v xs → End n φ D' As Q x) : End n φ D (OwnS D0 e E v xs :: As) Q x := fun w hS =>
  let ⟨D', h1, h2, h3⟩ := hS.layS hD; h D' h1 h2 w h3
theorem l_layS {α : Type} {e : Enc α} {D0 : PH} {E : TypeId} {v : Value} {xs : List α} {l : List Oper} (hD : PH.le D0 D) (h : ∀ D', PH.le D D' → RO e D' v xs → SimL P n ops l φ D' As Q) : SimL P n ops l φ D (OwnS D0 e E v xs :: As) Q := fun w hS =>
  let ⟨D', h1, h2, h3⟩ := hS.layS hD; h D' h1 h2 w h3
theorem c_imp {A B : Assert} {c : Code} (hi : ∀ k, A k → B k) (h : SimC P n c φ D (B :: As) Q) : SimC P n c φ D (A :: As) Q := fun w hS => h w (hS.imp hi)
theorem e_imp {A B : Assert} {x : Exit} (hi : ∀ k, A k → B k) (h : End n φ D (B :: As) Q x) : End n φ D (A :: As) Q x := fun w hS => h w (hS.imp hi)
theorem l_imp {A B : Assert} {l : List Oper} (hi : ∀ k, A k → B k) (h : SimL P n ops l φ D (B :: As) Q) : SimL P n ops l φ D (A :: As) Q := fun w hS => h w (hS.imp hi)
theorem c_drop {A : Assert} {c : Code} (h : SimC P n c φ D As Q) : SimC P n c φ D (A :: As) Q := fun w hS => h w hS.tail
theorem e_drop {A : Assert} {x : Exit} (h : End n φ D As Q x) : End n φ D (A :: As) Q x := fun w hS => h w hS.tail
theorem l_drop {A : Assert} {l : List Oper} (h : SimL P n ops l φ D As Q) : SimL P n ops l φ D (A :: As) Q := fun w hS => h w hS.tail
/-- A slice of the code's own that is not empty is an array. -/
theorem SInv.openS {α : Type} {e : Enc α} {D0 : PH} {E : TypeId} {v : Value} {xs : List α} {H : World} (hne : xs ≠ []) (h : SInv D (OwnS D0 e E v xs :: As) H) : ∃ b cap, v = .slice (some ⟨b, 0, none⟩) xs.length cap ∧ SInv D (OwnA D0 e E b cap xs :: As) H := by
  obtain ⟨q, hq, _, _⟩ := h.head
  rcases hq with ⟨_, hx, _⟩ | ⟨b, cap, rfl, hq⟩
  · exact absurd hx hne
  · refine ⟨b, cap, rfl, SInv.imp (fun k hk => ?_) h⟩
    rcases hk with ⟨h1, _, _⟩ | ⟨b', cap', h1, hk⟩
    · cases h1
    · injection h1 with h1 h2 h3
      injection h1 with h1
      injection h1 with h1
      subst h1; subst h3
      exact hk
theorem c_openS {α : Type} {e : Enc α} {D0 : PH} {E : TypeId} {v : Value} {xs : List α} {c : Code} (hne : xs ≠ []) (h : ∀ b cap, v = .slice (some ⟨b, 0, none⟩) xs.length cap → SimC P n c φ D (OwnA D0 e E b cap xs :: As) Q) : SimC P n c φ D (OwnS D0 e E v xs :: As) Q := fun w hS =>
  let ⟨b, cap, h1, h2⟩ := hS.openS hne; h b cap h1 w h2
/-- The form of a slice of the code's own (for len). -/
theorem SInv.formS {α : Type} {e : Enc α} {D0 : PH} {E : TypeId} {v : Value} {xs : List α} {H : World} (h : SInv D (OwnS D0 e E v xs :: As) H) : ∃ a cap, v = .slice a xs.length cap ∧ xs.length ≤ 2 ^ 62 := by
  obtain ⟨q, hq, _, _⟩ := h.head
  rcases hq with ⟨rfl, rfl, _⟩ | ⟨b, cap, rfl, cs, _, _, _, hb, _⟩
  · exact ⟨none, 0, rfl, by simp⟩
  · exact ⟨_, cap, rfl, hb⟩
theorem c_formS {α : Type} {e : Enc α} {D0 : PH} {E : TypeId} {v : Value} {xs : List α} {c : Code} (h : ∀ a cap, v = .slice a xs.length cap → xs.length ≤ 2 ^ 62 → SimC P n c φ D (OwnS D0 e E v xs :: As) Q) : SimC P n c φ D (OwnS D0 e E v xs :: As) Q := fun w hS =>
  let ⟨a, cap, h1, h2⟩ := hS.formS; h a cap h1 h2 w hS
theorem l_perm {l : List Oper} {As' : List Assert} (hp : As.Perm As') (h : SimL P n ops l φ D As' Q) : SimL P n ops l φ D As Q := fun w hw => h w (hw.perm hp)
end
/-- The part number k comes first. -/
def fr1 {α : Type} (k : Nat) (l : List α) : List α := match l[k]? with | some a => a :: l.eraseIdx k | none => l
omit [WB] in
theorem fr1_perm {α : Type} (k : Nat) (l : List α) : l.Perm (fr1 k l) := by
  unfold fr1
  cases h : l[k]? with
  | none => exact .refl _
  | some a => exact perm_front h
end Sx
