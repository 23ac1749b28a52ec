/- Own library, first part: a symbolic heap. A world's memory is told by a map D of blocks that nobody changes any more and by a list of owned parts that lie apart. No program in sight. -/
import Derived.Deep.Quiet
import Derived.Tactics
namespace Sx
set_option linter.all false
open Go

/-- Blocks by number. -/
abbrev PH := Nat → Option Obj
def PH.le (D D' : PH) : Prop := ∀ b o, D b = some o → D' b = some o
theorem PH.le_refl (D : PH) : PH.le D D := fun _ _ h => h
theorem PH.le_trans {D D' D'' : PH} (h : PH.le D D') (h' : PH.le D' D'') : PH.le D D'' := fun b o e => h' b o (h b o e)
def PH.apart (h k : PH) : Prop := ∀ b, h b = none ∨ k b = none
theorem PH.apart_symm {h k : PH} (a : PH.apart h k) : PH.apart k h := fun b => (a b).symm
def PH.inHeap (h : PH) (H : Array Obj) : Prop := ∀ b o, h b = some o → H[b]? = some o
def PH.one (b : Nat) (o : Obj) : PH := fun i => if i = b then some o else none
def PH.join (h k : PH) : PH := fun b => match h b with | some o => some o | none => k b
def PH.nil : PH := fun _ => none

abbrev Assert := PH → Prop

/-- The memory H holds D, and beside it, apart from it and from each other, the parts of As. -/
def SInvH (D : PH) (As : List Assert) (H : Array Obj) : Prop :=
  D.inHeap H ∧ ∃ hs : List (Assert × PH), hs.map Prod.fst = As ∧ (∀ p ∈ hs, p.1 p.2 ∧ p.2.inHeap H ∧ PH.apart D p.2) ∧ hs.Pairwise (fun p q => PH.apart p.2 q.2)

theorem perm_lift {α β : Type} {f : α → β} {k m : List β} (h : k.Perm m) : ∀ {l : List α}, l.map f = k → ∃ l', l.Perm l' ∧ l'.map f = m := by
  induction h with
  | nil => intro l hl; exact ⟨l, .refl _, hl⟩
  | cons x h ih =>
    intro l hl
    cases l with
    | nil => simp at hl
    | cons a l =>
      simp only [List.map_cons, List.cons.injEq] at hl
      obtain ⟨l', p, e⟩ := ih hl.2
      exact ⟨a :: l', p.cons a, by simp [hl.1, e]⟩
  | swap x y r =>
    intro l hl
    cases l with
    | nil => simp at hl
    | cons a l =>
      cases l with
      | nil => simp at hl
      | cons b l =>
        simp only [List.map_cons, List.cons.injEq] at hl
        exact ⟨b :: a :: l, .swap _ _ _, by simp [hl.1, hl.2.1, hl.2.2]⟩
  | trans h1 h2 ih1 ih2 =>
    intro l hl
    obtain ⟨l1, p1, e1⟩ := ih1 hl
    obtain ⟨l2, p2, e2⟩ := ih2 e1
    exact ⟨l2, p1.trans p2, e2⟩

theorem SInvH.perm {D : PH} {As As' : List Assert} {H : Array Obj} (h : SInvH D As H) (p : As.Perm As') : SInvH D As' H := by
  obtain ⟨hD, hs, e, hp, hw⟩ := h
  obtain ⟨hs', p', e'⟩ := perm_lift p e
  exact ⟨hD, hs', e', fun x hx => hp x (p'.mem_iff.2 hx), (p'.pairwise_iff (fun h => PH.apart_symm h)).1 hw⟩

theorem perm_front {α : Type} : ∀ {l : List α} {k : Nat} {a : α}, l[k]? = some a → l.Perm (a :: l.eraseIdx k)
  | [], k, a, h => by simp at h
  | x :: l, 0, a, h => by simp at h; subst h; exact .refl _
  | x :: l, k + 1, a, h => by
    simp only [List.getElem?_cons_succ] at h
    exact ((perm_front h).cons x).trans (.swap _ _ _)

theorem SInvH.front {D : PH} {As : List Assert} {H : Array Obj} (h : SInvH D As H) (k : Nat) {A : Assert} (hk : As[k]? = some A) : SInvH D (A :: As.eraseIdx k) H := h.perm (perm_front hk)
theorem SInvH.back {D : PH} {As : List Assert} {H : Array Obj} (k : Nat) {A : Assert} (hk : As[k]? = some A) (h : SInvH D (A :: As.eraseIdx k) H) : SInvH D As H := h.perm (perm_front hk).symm

theorem SInvH.tail {D : PH} {A : Assert} {As : List Assert} {H : Array Obj} (h : SInvH D (A :: As) H) : SInvH D As H := by
  obtain ⟨hD, hs, e, hp, hw⟩ := h
  cases hs with
  | nil => simp at e
  | cons x hs =>
    simp only [List.map_cons, List.cons.injEq] at e
    exact ⟨hD, hs, e.2, fun y hy => hp y (List.mem_cons_of_mem _ hy), (List.pairwise_cons.1 hw).2⟩

theorem SInvH.right {D : PH} {Bs As : List Assert} {H : Array Obj} (h : SInvH D (Bs ++ As) H) : SInvH D As H := by
  induction Bs with
  | nil => exact h
  | cons B Bs ih => exact ih h.tail
theorem SInvH.left {D : PH} {As Bs : List Assert} {H : Array Obj} (h : SInvH D (As ++ Bs) H) : SInvH D As H := (h.perm List.perm_append_comm).right

theorem SInvH.lower {D D' : PH} {As : List Assert} {H : Array Obj} (hle : PH.le D D') (h : SInvH D' As H) : SInvH D As H := by
  obtain ⟨hD, hs, e, hp, hw⟩ := h
  refine ⟨fun b o hb => hD b o (hle b o hb), hs, e, fun x hx => ?_, hw⟩
  obtain ⟨h1, h2, h3⟩ := hp x hx
  refine ⟨h1, h2, fun b => ?_⟩
  cases hb : D b with
  | none => exact .inl rfl
  | some o => exact .inr ((h3 b).resolve_left (by rw [hle b o hb]; simp))

/-- What the first part holds, lies in memory. -/
theorem SInvH.head {D : PH} {A : Assert} {As : List Assert} {H : Array Obj} (h : SInvH D (A :: As) H) : ∃ k : PH, A k ∧ k.inHeap H ∧ PH.apart D k := by
  obtain ⟨_, hs, e, hp, _⟩ := h
  cases hs with
  | nil => simp at e
  | cons x hs =>
    simp only [List.map_cons, List.cons.injEq] at e
    obtain ⟨h1, h2, h3⟩ := hp x (List.mem_cons_self ..)
    exact ⟨x.2, by rw [← e.1]; exact h1, h2, h3⟩

theorem SInvH.imp {D : PH} {A B : Assert} {As : List Assert} {H : Array Obj} (hAB : ∀ k, A k → B k) (h : SInvH D (A :: As) H) : SInvH D (B :: As) H := by
  obtain ⟨hD, hs, e, hp, hw⟩ := h
  cases hs with
  | nil => simp at e
  | cons x hs =>
    simp only [List.map_cons, List.cons.injEq] at e
    refine ⟨hD, (B, x.2) :: hs, by simp [e.2], fun y hy => ?_, ?_⟩
    · rcases List.mem_cons.1 hy with rfl | hy
      · obtain ⟨h1, h2, h3⟩ := hp x (List.mem_cons_self ..)
        exact ⟨hAB _ (by rw [← e.1]; exact h1), h2, h3⟩
      · exact hp y (List.mem_cons_of_mem _ hy)
    · rw [List.pairwise_cons] at hw ⊢
      exact ⟨fun y hy => hw.1 y hy, hw.2⟩

/-- The one general step: the first part's blocks are changed (k to k'), new blocks may come, all other blocks stay. -/
theorem SInvH.change {D : PH} {A B : Assert} {As : List Assert} {H H' : Array Obj}
    (hstep : ∀ k, A k → k.inHeap H → PH.apart D k → ∃ k', B k' ∧ k'.inHeap H' ∧ (∀ b, (k' b).isSome = true → (k b).isSome = true ∨ H[b]? = none) ∧ (∀ b o, k b = none → H[b]? = some o → H'[b]? = some o))
    (h : SInvH D (A :: As) H) : SInvH D (B :: As) H' := by
  obtain ⟨hD, hs, e, hp, hw⟩ := h
  cases hs with
  | nil => simp at e
  | cons x hs =>
    simp only [List.map_cons, List.cons.injEq] at e
    obtain ⟨h1, h2, h3⟩ := hp x (List.mem_cons_self ..)
    rw [e.1] at h1
    obtain ⟨k', hB, hin, hnew, hkeep⟩ := hstep x.2 h1 h2 h3
    have hw' := List.pairwise_cons.1 hw
    have hDk : ∀ b o, D b = some o → x.2 b = none := fun b o hb => (h3 b).resolve_left (by rw [hb]; simp)
    have sep : ∀ q : PH, (∀ b o, q b = some o → H[b]? = some o) → PH.apart x.2 q → PH.apart k' q := fun q hq hxq b => by
      cases hb : k' b with
      | none => exact .inl rfl
      | some o =>
        rcases hnew b (by rw [hb]; rfl) with hx | hx
        · refine .inr ((hxq b).resolve_left ?_)
          cases hxb : x.2 b with
          | none => rw [hxb] at hx; cases hx
          | some _ => simp
        · cases hqb : q b with
          | none => exact .inr rfl
          | some o' => rw [hq b o' hqb] at hx; cases hx
    refine ⟨fun b o hb => hkeep b o (hDk b o hb) (hD b o hb), (B, k') :: hs, by simp [e.2], fun y hy => ?_, ?_⟩
    · rcases List.mem_cons.1 hy with rfl | hy
      · exact ⟨hB, hin, PH.apart_symm (sep D hD (PH.apart_symm h3))⟩
      · obtain ⟨g1, g2, g3⟩ := hp y (List.mem_cons_of_mem _ hy)
        refine ⟨g1, fun b o hb => hkeep b o ?_ (g2 b o hb), g3⟩
        exact (hw'.1 y hy b).resolve_right (by rw [hb]; simp)
    · rw [List.pairwise_cons]
      exact ⟨fun y hy => sep y.2 (hp y (List.mem_cons_of_mem _ hy)).2.1 (hw'.1 y hy), hw'.2⟩

theorem SInvH.cons_nil {D : PH} {As : List Assert} {H : Array Obj} (h : SInvH D As H) : SInvH D ((fun k => k = PH.nil) :: As) H := by
  obtain ⟨hD, hs, e, hp, hw⟩ := h
  refine ⟨hD, ((fun k => k = PH.nil), PH.nil) :: hs, by simp [e], fun y hy => ?_, ?_⟩
  · rcases List.mem_cons.1 hy with rfl | hy
    · exact ⟨rfl, fun b o hb => (by cases hb), fun b => .inr rfl⟩
    · exact hp y hy
  · rw [List.pairwise_cons]; exact ⟨fun y _ b => .inl rfl, hw⟩

/-- A part is laid among what nobody changes any more. -/
theorem SInvH.freeze {D : PH} {A : Assert} {As : List Assert} {H : Array Obj} (h : SInvH D (A :: As) H) : ∃ k, A k ∧ PH.le D (D.join k) ∧ PH.le k (D.join k) ∧ SInvH (D.join k) As H := by
  obtain ⟨hD, hs, e, hp, hw⟩ := h
  cases hs with
  | nil => simp at e
  | cons x hs =>
    simp only [List.map_cons, List.cons.injEq] at e
    obtain ⟨h1, h2, h3⟩ := hp x (List.mem_cons_self ..)
    rw [e.1] at h1
    have hw' := List.pairwise_cons.1 hw
    refine ⟨x.2, h1, fun b o hb => by simp [PH.join, hb], fun b o hb => ?_, ?_, hs, e.2, fun y hy => ?_, hw'.2⟩
    · have : D b = none := (h3 b).resolve_right (by rw [hb]; simp)
      simp [PH.join, this, hb]
    · intro b o hb
      simp only [PH.join] at hb
      cases hDb : D b with
      | none => rw [hDb] at hb; exact h2 b o hb
      | some o' => rw [hDb] at hb; exact hD b o (by rw [hDb]; exact hb)
    · obtain ⟨g1, g2, g3⟩ := hp y (List.mem_cons_of_mem _ hy)
      refine ⟨g1, g2, fun b => ?_⟩
      rcases g3 b with hb | hb
      · rcases hw'.1 y hy b with hx | hx
        · exact .inl (by simp [PH.join, hb, hx])
        · exact .inr hx
      · exact .inr hb

/-! ### Blocks of cells -/

def pt (b : Nat) (cs : List Value) (E : TypeId) : Assert := fun k => k = PH.one b (.cells cs.toArray E (0, 0))

theorem one_self (b : Nat) (o : Obj) : PH.one b o b = some o := by simp [PH.one]
theorem one_some {b i : Nat} {o o' : Obj} (h : PH.one b o i = some o') : i = b ∧ o' = o := by
  unfold PH.one at h
  split at h
  · rename_i e; exact ⟨e, by simpa using h.symm⟩
  · cases h

theorem SInvH.pt_heap {D : PH} {As : List Assert} {H : Array Obj} {k b : Nat} {cs : List Value} {E : TypeId} (h : SInvH D As H) (hk : As[k]? = some (pt b cs E)) : H[b]? = some (.cells cs.toArray E (0, 0)) := by
  obtain ⟨q, hq, hin, _⟩ := (h.front k hk).head
  unfold pt at hq
  subst hq
  exact hin b _ (one_self b _)

theorem SInvH.D_heap {D : PH} {As : List Assert} {H : Array Obj} {b : Nat} {o : Obj} (h : SInvH D As H) (hb : D b = some o) : H[b]? = some o := h.1 b o hb

theorem set_front {α : Type} : ∀ {l : List α} {k : Nat} {a b : α}, l[k]? = some a → (b :: l.eraseIdx k).Perm (l.set k b)
  | [], k, a, b, h => by simp at h
  | x :: l, 0, a, b, h => by simp
  | x :: l, k + 1, a, b, h => by
    simp only [List.getElem?_cons_succ] at h
    exact (List.Perm.swap _ _ _).trans ((set_front h).cons x)

/-- A block of cells that is owned is written. -/
theorem SInvH.pt_set {D : PH} {As : List Assert} {H H' : Array Obj} {k b : Nat} {cs cs' : List Value} {E : TypeId} (h : SInvH D As H) (hk : As[k]? = some (pt b cs E))
    (hb : H'[b]? = some (.cells cs'.toArray E (0, 0))) (ho : ∀ i o, i ≠ b → H[i]? = some o → H'[i]? = some o) : SInvH D (As.set k (pt b cs' E)) H' := by
  refine SInvH.perm (SInvH.change (B := pt b cs' E) ?_ (h.front k hk)) (set_front hk)
  intro q hq hin _
  unfold pt at hq
  subst hq
  refine ⟨_, rfl, fun i o hi => ?_, fun i hi => ?_, fun i o hi hH => ?_⟩
  · obtain ⟨rfl, rfl⟩ := one_some hi; exact hb
  · left
    cases hx : PH.one b (Obj.cells cs'.toArray E (0, 0)) i with
    | none => rw [hx] at hi; cases hi
    | some o => obtain ⟨rfl, _⟩ := one_some hx; simp [one_self]
  · refine ho i o (fun e => ?_) hH
    subst e
    simp [one_self] at hi

/-- A new block. -/
theorem SInvH.alloc {D : PH} {As : List Assert} {H : Array Obj} (o : Obj) (h : SInvH D As H) : SInvH D ((fun k => k = PH.one H.size o) :: As) (H.push o) := by
  refine SInvH.change ?_ h.cons_nil
  intro q hq _ _
  subst hq
  refine ⟨_, rfl, fun i o' hi => ?_, fun i hi => ?_, fun i o' _ hH => ?_⟩
  · obtain ⟨rfl, rfl⟩ := one_some hi; simp
  · right
    cases hx : PH.one H.size o i with
    | none => rw [hx] at hi; cases hi
    | some o' => obtain ⟨rfl, _⟩ := one_some hx; simp
  · have hlt : i < H.size := by
      rcases Nat.lt_or_ge i H.size with hl | hl
      · exact hl
      · rw [Array.getElem?_eq_none hl] at hH; cases hH
    rw [Array.getElem?_push_lt hlt, ← hH, Array.getElem?_eq_getElem hlt]

theorem SInvH.alloc_pt {D : PH} {As : List Assert} {H : Array Obj} (cs : List Value) (E : TypeId) (h : SInvH D As H) : SInvH D (pt H.size cs E :: As) (H.push (.cells cs.toArray E (0, 0))) := h.alloc _

/-! ### Worlds: memory, what the system and the streams hold, and the package's variables, which no code here changes -/
class WB where
  os : Os
  out : Array (Nat × ByteArray)
  gl : PH
section
variable [WB]
def SInv (D : PH) (As : List Assert) (w : World) : Prop := (∃ G, PH.le D G ∧ PH.le WB.gl G ∧ SInvH G As w.heap) ∧ w.os = WB.os ∧ w.output = WB.out
variable {D D' : PH} {A B : Assert} {As As' Bs : List Assert} {w w' : World}
/-- The system and the streams are as they were. -/
def Calm (w w' : World) : Prop := w'.os = w.os ∧ w'.output = w.output
omit [WB] in
theorem Calm.refl (w : World) : Calm w w := ⟨rfl, rfl⟩
omit [WB] in
theorem Calm.trans {a b c : World} (h : Calm a b) (h' : Calm b c) : Calm a c := ⟨h'.1.trans h.1, h'.2.trans h.2⟩
theorem SInv.step (h : SInv D As w) (hc : Calm w w') (hs : ∀ G, SInvH G As w.heap → SInvH G As' w'.heap) : SInv D As' w' := by
  obtain ⟨⟨G, h1, h2, h3⟩, h4⟩ := h
  exact ⟨⟨G, h1, h2, hs G h3⟩, hc.1.trans h4.1, hc.2.trans h4.2⟩
theorem SInv.perm (h : SInv D As w) (p : As.Perm As') : SInv D As' w := h.step (Calm.refl w) fun _ h => h.perm p
theorem SInv.front (h : SInv D As w) (k : Nat) {A : Assert} (hk : As[k]? = some A) : SInv D (A :: As.eraseIdx k) w := h.step (Calm.refl w) fun _ h => h.front k hk
theorem SInv.back (k : Nat) {A : Assert} (hk : As[k]? = some A) (h : SInv D (A :: As.eraseIdx k) w) : SInv D As w := h.step (Calm.refl w) fun _ h => SInvH.back k hk h
theorem SInv.tail (h : SInv D (A :: As) w) : SInv D As w := h.step (Calm.refl w) fun _ h => h.tail
theorem SInv.right (h : SInv D (Bs ++ As) w) : SInv D As w := h.step (Calm.refl w) fun _ h => h.right
theorem SInv.left (h : SInv D (As ++ Bs) w) : SInv D As w := h.step (Calm.refl w) fun _ h => h.left
theorem SInv.lower (hle : PH.le D D') (h : SInv D' As w) : SInv D As w := by
  obtain ⟨⟨G, h1, h2, h3⟩, h4⟩ := h
  exact ⟨⟨G, PH.le_trans hle h1, h2, h3⟩, h4⟩
theorem SInv.head (h : SInv D (A :: As) w) : ∃ k : PH, A k ∧ k.inHeap w.heap ∧ PH.apart D k := by
  obtain ⟨⟨G, h1, h2, h3⟩, h4⟩ := h
  obtain ⟨k, g1, g2, g3⟩ := h3.head
  refine ⟨k, g1, g2, fun b => ?_⟩
  cases hb : D b with
  | none => exact .inl rfl
  | some o => exact .inr ((g3 b).resolve_left (by rw [h1 b o hb]; simp))
theorem SInv.imp (hAB : ∀ k, A k → B k) (h : SInv D (A :: As) w) : SInv D (B :: As) w := h.step (Calm.refl w) fun _ h => h.imp hAB
theorem SInv.change (hstep : ∀ k, A k → k.inHeap w.heap → PH.apart D k → ∃ k', B k' ∧ k'.inHeap w'.heap ∧ (∀ b, (k' b).isSome = true → (k b).isSome = true ∨ w.heap[b]? = none) ∧ (∀ b o, k b = none → w.heap[b]? = some o → w'.heap[b]? = some o))
    (hc : Calm w w') (h : SInv D (A :: As) w) : SInv D (B :: As) w' := by
  obtain ⟨⟨G, h1, h2, h3⟩, h4⟩ := h
  refine ⟨⟨G, h1, h2, SInvH.change (fun k g1 g2 g3 => hstep k g1 g2 fun b => ?_) h3⟩, hc.1.trans h4.1, hc.2.trans h4.2⟩
  cases hb : D b with
  | none => exact .inl rfl
  | some o => exact .inr ((g3 b).resolve_left (by rw [h1 b o hb]; simp))
theorem SInv.cons_nil (h : SInv D As w) : SInv D ((fun k => k = PH.nil) :: As) w := h.step (Calm.refl w) fun _ h => h.cons_nil
theorem SInv.freeze (h : SInv D (A :: As) w) : ∃ k, A k ∧ PH.le D (D.join k) ∧ PH.le k (D.join k) ∧ SInv (D.join k) As w := by
  obtain ⟨⟨G, h1, h2, h3⟩, h4⟩ := h
  have hh := h3.head
  obtain ⟨hD, hs, e, hp, hw⟩ := h3
  cases hs with
  | nil => simp at e
  | cons x hs =>
    simp only [List.map_cons, List.cons.injEq] at e
    obtain ⟨g1, g2, g3⟩ := hp x (List.mem_cons_self ..)
    rw [e.1] at g1
    have hw' := List.pairwise_cons.1 hw
    have ap : ∀ b o, G b = some o → x.2 b = none := fun b o hb => (g3 b).resolve_left (by rw [hb]; simp)
    refine ⟨x.2, g1, fun b o hb => by simp [PH.join, hb], fun b o hb => ?_, ⟨G.join x.2, fun b o hb => ?_, fun b o hb => by simp [PH.join, h2 b o hb], ⟨?_, hs, e.2, fun y hy => ?_, hw'.2⟩⟩, h4⟩
    · have : D b = none := by
        cases hd : D b with
        | none => rfl
        | some o' => rw [ap b o' (h1 b o' hd)] at hb; cases hb
      simp [PH.join, this, hb]
    · simp only [PH.join] at hb ⊢
      cases hd : D b with
      | some o' => rw [hd] at hb; rw [h1 b o' hd]; exact hb
      | none =>
        rw [hd] at hb
        have hb' : x.2 b = some o := hb
        have : G b = none := (g3 b).resolve_right (by rw [hb']; simp)
        rw [this]; exact hb'
    · intro b o hb
      simp only [PH.join] at hb
      cases hDb : G b with
      | none => rw [hDb] at hb; exact g2 b o hb
      | some o' => rw [hDb] at hb; exact hD b o (by rw [hDb]; exact hb)
    · obtain ⟨q1, q2, q3⟩ := hp y (List.mem_cons_of_mem _ hy)
      refine ⟨q1, q2, fun b => ?_⟩
      rcases q3 b with hb | hb
      · rcases hw'.1 y hy b with hx | hx
        · exact .inl (by simp [PH.join, hb, hx])
        · exact .inr hx
      · exact .inr hb
theorem SInv.pt_heap {k b : Nat} {cs : List Value} {E : TypeId} (h : SInv D As w) (hk : As[k]? = some (pt b cs E)) : w.heap[b]? = some (.cells cs.toArray E (0, 0)) := by
  obtain ⟨⟨G, h1, h2, h3⟩, h4⟩ := h
  exact h3.pt_heap hk
theorem SInv.D_heap {b : Nat} {o : Obj} (h : SInv D As w) (hb : D b = some o) : w.heap[b]? = some o := by
  obtain ⟨⟨G, h1, h2, h3⟩, h4⟩ := h
  exact h3.D_heap (h1 b o hb)
/-- A package's variable holds what it held. -/
theorem SInv.gl_heap {b : Nat} {o : Obj} (h : SInv D As w) (hb : WB.gl b = some o) : w.heap[b]? = some o := by
  obtain ⟨⟨G, h1, h2, h3⟩, h4⟩ := h
  exact h3.D_heap (h2 b o hb)
theorem SInv.pt_set {k b : Nat} {cs cs' : List Value} {E : TypeId} (h : SInv D As w) (hk : As[k]? = some (pt b cs E))
    (hb : w'.heap[b]? = some (.cells cs'.toArray E (0, 0))) (ho : ∀ i o, i ≠ b → w.heap[i]? = some o → w'.heap[i]? = some o) (hc : Calm w w') : SInv D (As.set k (pt b cs' E)) w' := h.step hc fun _ h => h.pt_set hk hb ho
theorem SInv.alloc (o : Obj) (h : SInv D As w) : SInv D ((fun k => k = PH.one w.heap.size o) :: As) { w with heap := w.heap.push o } := h.step ⟨rfl, rfl⟩ fun _ h => h.alloc o
theorem SInv.alloc_pt (cs : List Value) (E : TypeId) (h : SInv D As w) : SInv D (pt w.heap.size cs E :: As) { w with heap := w.heap.push (.cells cs.toArray E (0, 0)) } := h.alloc _
/-- A call that leaves all old blocks as they were (it may lay new ones). -/
theorem SInv.grown (h : SInv D As w) (hc : Calm w w') (hb : ∀ b, b < w.heap.size → w'.heap[b]? = w.heap[b]?) : SInv D As w' := h.step hc fun G hG => by
  have key : ∀ b o, w.heap[b]? = some o → w'.heap[b]? = some o := fun b o ho => by
    have hl : b < w.heap.size := by
      rcases Nat.lt_or_ge b w.heap.size with hl | hl
      · exact hl
      · rw [Array.getElem?_eq_none hl] at ho; cases ho
    rw [hb b hl]; exact ho
  obtain ⟨hD, hs, e, hp, hw⟩ := hG
  exact ⟨fun b o ho => key b o (hD b o ho), hs, e, fun x hx => ⟨(hp x hx).1, fun b o ho => key b o ((hp x hx).2.1 b o ho), (hp x hx).2.2⟩, hw⟩
end

end Sx
