/- Own library, fifteenth part: from a row's statement to a contract: arguments that are read as data lie in memory as the encoders say; a call that leaves memory as it was meets the row. -/
import Derived.Test.YteebpnooijknoaaDoorSxStr
import Derived.ProofKit
import Derived.SizedLaws
import Derived.OpenShut
namespace Sx
open Go Go.ChangeShapes Go.WideShapes Go.RowKit
set_option linter.all false

def HD (w : World) : PH := fun b => w.heap[b]?
def rB : Nat := 0x7ffffffff000
theorem rB_eq : reachBytes = rB := rfl

/-- Cells that are read as data lie as the encoder says; W tells what the numbers are like. -/
def Opn {α : Type} (P : Program) (t : TypeId) (e : Enc α) (W : α → Prop) : Prop :=
  ∀ (H : Type) (enc : TypeId × Value → H) (w : World) (base : Nat) (spare : Nat → Bool) (held : Bool) (fuel : Nat) (cs : List Value) (x : DataW H × List MemPlace),
    DataW.trod enc P w base spare held fuel t cs = some x → (∀ n ∈ x.1.weights P t, n ≤ rB) → ∃ y, e.rep (HD w) cs y ∧ W y

def InK (k : IntKind) (n : Int) : Prop := k.min ≤ n ∧ n ≤ k.max
def InF (k : FloatKind) (b : Nat) : Prop := b < 2 ^ k.format.width
def InL {α : Type} (W : α → Prop) (sz : Nat) (xs : List α) : Prop := (∀ x ∈ xs, W x) ∧ xs.length * sz ≤ rB

variable {P : Program}
theorem opn_int {t : TypeId} {k : IntKind} (ht : P.underlying t = some (.int k)) : Opn P t (encI k) (InK k) := by
  intro H enc w base spare held fuel cs x h _
  obtain ⟨n, rfl, _, hw⟩ := DataW.trod_int ht h
  refine ⟨n, rfl, ?_⟩
  simpa [Lit.wf, InK] using hw
theorem opn_bool {t : TypeId} (ht : P.underlying t = some .bool) : Opn P t encB (fun _ => True) := by
  intro H enc w base spare held fuel cs x h _
  obtain ⟨n, rfl, _⟩ := DataW.trod_bool ht h
  exact ⟨n, rfl, trivial⟩
theorem opn_float {t : TypeId} {k : FloatKind} (ht : P.underlying t = some (.float k)) : Opn P t (encF k) (InF k) := by
  intro H enc w base spare held fuel cs x h _
  cases fuel with
  | zero => simp [DataW.trod] at h
  | succ n =>
    unfold DataW.trod at h
    rw [ht] at h
    cases cs with
    | nil => simp at h
    | cons c cs =>
      cases cs with
      | cons c2 cs => cases c <;> simp at h
      | nil =>
        cases c with
        | float k' b =>
          simp only at h
          split at h
          · rename_i hk
            obtain ⟨rfl, hw⟩ := hk
            refine ⟨b, rfl, ?_⟩
            cases k' <;> simpa [Lit.wf, InF, FloatKind.format, Ieee.Format.width, Ieee.single, Ieee.double] using hw
          · cases h
        | _ => simp at h

def InStr (s : ByteArray) : Prop := s.size ≤ rB
theorem opn_string {t : TypeId} (ht : P.underlying t = some .string) : Opn P t encStr InStr := by
  intro H enc w base spare held fuel cs x h hw
  obtain ⟨s, rfl, rfl, hs⟩ := DataW.trod_string ht h
  refine ⟨s, rfl, ?_⟩
  have := hw s.data.toList.length (by simp [DataW.weights])
  simpa [InStr] using this

theorem cells_block {w : World} {base n : Nat} {a : Addr} {cs : List Value} (hn : 0 < n) (h : w.cells? base a n = some cs) :
    a.spot = none ∧ ∃ c E fr, w.heap[a.block]? = some (.cells c E fr) ∧ (c.toList.drop a.off).take n = cs := by
  obtain ⟨_, hl, hc⟩ := World.cells?_some h
  have h0 := hc 0 hn
  have hx : cs[0]? = some cs[0] := List.getElem?_eq_getElem (by omega)
  rw [hx] at h0
  simp only [Addr.add, if_true] at h0
  unfold World.cell? at h0
  cases hb : w.heap[a.block]? with
  | none => rw [hb] at h0; cases h0
  | some o =>
    cases o <;> rw [hb] at h0 <;> (try (cases h0; done))
    rename_i c E fr
    simp only at h0
    cases hs : a.spot with
    | some s => rw [hs] at h0; simp at h0
    | none =>
      refine ⟨rfl, c, E, fr, rfl, ?_⟩
      apply List.ext_getElem?
      intro i
      by_cases hi : i < n
      · rw [List.getElem?_take_of_lt hi, List.getElem?_drop, ← hc i hi]
        have hblk : (a.add i).block = a.block := block_add a i
        have hoff : (a.add i).off = a.off + i := by unfold Addr.add; split <;> simp_all
        have hsp : (a.add i).spot = none := by unfold Addr.add; split <;> simp_all
        unfold World.cell?
        rw [hblk, hb]
        simp [hsp, hoff]
      · rw [List.getElem?_eq_none (by simp; omega), List.getElem?_eq_none (by omega)]

theorem choose_list {α : Type} (Q : Nat → α → Prop) : ∀ n : Nat, (∀ i, i < n → ∃ x, Q i x) → ∃ xs : List α, xs.length = n ∧ ∀ i x, xs[i]? = some x → Q i x
  | 0, _ => ⟨[], rfl, fun i x h => by simp at h⟩
  | n + 1, h => by
    obtain ⟨xs, hl, hx⟩ := choose_list Q n fun i hi => h i (by omega)
    obtain ⟨x, hq⟩ := h n (by omega)
    refine ⟨xs ++ [x], by simp [hl], fun i y hy => ?_⟩
    rcases Nat.lt_or_ge i n with hi | hi
    · rw [List.getElem?_append_left (by omega)] at hy; exact hx i y hy
    · rw [List.getElem?_append_right (by omega)] at hy
      have : i - xs.length = 0 := by
        rcases Nat.eq_zero_or_pos (i - xs.length) with h0 | h0
        · exact h0
        · rw [List.getElem?_eq_none (by simp; omega)] at hy; cases hy
      rw [this] at hy
      obtain rfl : x = y := by simpa using hy
      have : i = n := by omega
      subst this; exact hq

theorem mem_weightsAll {H : Type} {e : TypeId} {d : DataW H} {n : Nat} : ∀ {l : List (DataW H)}, d ∈ l → n ∈ d.weights P e → n ∈ DataW.weightsAll P e l
  | x :: l, hd, hn => by
    unfold DataW.weightsAll
    rcases List.mem_cons.1 hd with rfl | hd
    · exact List.mem_append_left _ hn
    · exact List.mem_append_right _ (mem_weightsAll hd hn)

theorem opn_slice {α : Type} {t E : TypeId} {e : Enc α} {W : α → Prop} {sz : Nat} (ht : P.underlying t = some (.slice E)) (hc : P.cellsOf E = e.sz) (hb : P.bytesOf E = sz) (hp : 0 < sz) (h : Opn P E e W) : Opn P t (encS e) (InL W sz) := by
  intro H enc w base spare held fuel cs x hx hw
  rcases DataW.trod_slice ht hx with ⟨rfl, _⟩ | ⟨a, len, cap, elems, rest, n, _, rfl, rfl, hba, hl, hm, hlen, hel, _, _⟩
  · exact ⟨[], ⟨_, rfl, RO.nil _ _⟩, fun _ h => (by cases h), by simp⟩
  · simp only [DataW.weights, ht] at hw
    have hlb : (elems.length + rest.length) * sz ≤ rB := by
      have := hw ((elems.length + rest.length) * P.bytesOf E) (by simp)
      rwa [hb] at this
    have hlen' : len * sz ≤ rB := Nat.le_trans (Nat.mul_le_mul_right _ (by omega)) hlb
    have hll : len ≤ rB := Nat.le_trans (Nat.le_mul_of_pos_right _ hp) hlen'
    have hex : ∀ i, i < len → ∃ y, (∃ ds, w.cells? base (a.add (i * e.sz)) e.sz = some ds ∧ e.rep (HD w) ds y) ∧ W y := by
      intro i hi
      have h1 := hel i hi
      rw [List.getElem?_eq_getElem (by omega), Option.bind_eq_some_iff] at h1
      obtain ⟨ds, h2, h3⟩ := h1
      have hwt : ∀ m ∈ (elems[i]'(by omega)).1.weights P E, m ≤ rB := by
        intro m hm'
        apply hw
        refine List.mem_cons_of_mem _ (List.mem_append_left _ (mem_weightsAll (d := (elems[i]'(by omega)).1) ?_ hm'))
        exact List.mem_map.2 ⟨_, List.getElem_mem _, rfl⟩
      obtain ⟨y, h4, h5⟩ := h H enc w base spare held n ds _ h3 hwt
      rw [hc] at h2
      exact ⟨y, ⟨ds, h2, h4⟩, h5⟩
    obtain ⟨xs, hxl, hxs⟩ := choose_list _ len hex
    refine ⟨xs, ⟨_, rfl, some a, cap, by rw [hxl], by omega, ?_, fun hne => ?_⟩, fun x hx => ?_, by rw [hxl]; exact hlen'⟩
    · have : rB ≤ 2 ^ 62 := by decide
      omega
    · have h0 : 0 < len := by rw [← hxl]; exact List.length_pos_iff.2 hne
      obtain ⟨⟨ds, h1, h2⟩, _⟩ := hxs 0 xs[0] (List.getElem?_eq_getElem (by omega))
      rw [Nat.zero_mul] at h1
      simp only [Addr.add, if_true] at h1
      obtain ⟨hs, c, E', fr, hbk, _⟩ := cells_block e.pos h1
      refine ⟨a.block, a.off, c, E', fr, by cases a; simp_all, hbk, fun i x hx => ?_⟩
      obtain ⟨⟨ds, h3, h4⟩, _⟩ := hxs i x hx
      obtain ⟨_, c2, E2, fr2, hbk2, ht2⟩ := cells_block e.pos h3
      rw [block_add, hbk] at hbk2
      injection hbk2 with hbk2
      injection hbk2 with e1 e2 e3
      subst e1
      have hoff : (a.add (i * e.sz)).off = a.off + i * e.sz := by unfold Addr.add; split <;> simp_all
      rw [hoff] at ht2
      rw [ht2]; exact h4
    · obtain ⟨i, hi, rfl⟩ := List.mem_iff_getElem.1 hx
      exact (hxs i _ (List.getElem?_eq_getElem hi)).2

/-- A struct's reading, field by field. -/
theorem opn_struct {H : Type} {enc : TypeId × Value → H} {w : World} {base : Nat} {spare : Nat → Bool} {held : Bool} {fuel : Nat} {t : TypeId} {cs : List Value} {x : DataW H × List MemPlace} {fs : Array Field} (ht : P.underlying t = some (.struct fs))
    (h : DataW.trod enc P w base spare held fuel t cs = some x) (hw : ∀ n ∈ x.1.weights P t, n ≤ rB) :
    cs.length = P.cellsOf t ∧ ∀ (i : Nat) (f : Field), fs[i]? = some f → ∃ m y, DataW.trod enc P w base spare held m f.type ((cs.drop f.offset).take (P.cellsOf f.type)) = some y ∧ ∀ n ∈ y.1.weights P f.type, n ≤ rB := by
  obtain ⟨xs, m, rfl, rfl, hl, hxl, hx⟩ := DataW.trod_struct ht h
  refine ⟨hl, fun i f hf => ?_⟩
  have hi : i < fs.size := by
    rcases Nat.lt_or_ge i fs.size with h | h
    · exact h
    · rw [Array.getElem?_eq_none h] at hf; cases hf
  refine ⟨m, xs[i], by rw [hx i f hf, List.getElem?_eq_getElem (by omega)], fun n hn => hw n ?_⟩
  simp only [DataW.weights, ht]
  have key : ∀ (ts : List TypeId) (ds : List (DataW H)) (i : Nat) (t : TypeId) (d : DataW H), ts[i]? = some t → ds[i]? = some d → n ∈ d.weights P t → n ∈ DataW.weightsEach P ts ds := by
    intro ts
    induction ts with
    | nil => intro ds i t d h1; simp at h1
    | cons u ts ih =>
      intro ds i t d h1 h2 h3
      cases ds with
      | nil => simp at h2
      | cons c ds =>
        unfold DataW.weightsEach
        cases i with
        | zero => simp at h1 h2; subst h1; subst h2; exact List.mem_append_left _ h3
        | succ i => simp at h1 h2; exact List.mem_append_right _ (ih ds i t d h1 h2 h3)
  refine key _ _ i f.type xs[i].1 ?_ ?_ hn
  · rw [List.getElem?_map, Array.getElem?_toList, hf]; rfl
  · rw [List.getElem?_map, List.getElem?_eq_getElem (by omega)]; rfl

/-- Field i's type and cells. -/
def fldS (P : Program) (fs : Array Field) (cs : List Value) (i : Nat) : Option (TypeId × List Value) := fs[i]?.map fun f => (f.type, (cs.drop f.offset).take (P.cellsOf f.type))
theorem opn_field {α : Type} {u : TypeId} {e : Enc α} {W : α → Prop} (o : Opn P u e W) {H : Type} {enc : TypeId × Value → H} {w : World} {base : Nat} {spare : Nat → Bool} {held : Bool} {cs : List Value} {fs : Array Field}
    (hf : ∀ (i : Nat) (f : Field), fs[i]? = some f → ∃ m y, DataW.trod enc P w base spare held m f.type ((cs.drop f.offset).take (P.cellsOf f.type)) = some y ∧ ∀ n ∈ y.1.weights P f.type, n ≤ rB)
    (i : Nat) (cs' : List Value) (hi : fldS P fs cs i = some (u, cs')) : ∃ y, e.rep (HD w) cs' y ∧ W y := by
  unfold fldS at hi
  rw [Option.map_eq_some_iff] at hi
  obtain ⟨f, h1, h2⟩ := hi
  injection h2 with h2 h3
  subst h2; subst h3
  obtain ⟨m, y, h4, h5⟩ := hf i f h1
  exact o H enc w base spare held m _ _ h4 h5
theorem len1 {cs : List Value} (h : cs.length = 1) : ∃ a, cs = [a] := by match cs, h with | [a], _ => exact ⟨a, rfl⟩
theorem len2 {cs : List Value} {n : Nat} (h : cs.length = n + 1) : ∃ a r, cs = a :: r ∧ r.length = n := by match cs, h with | a :: r, h => exact ⟨a, r, rfl, by simpa using h⟩

/-! ### Arguments -/
/-- An argument's value and what it stands for. -/
theorem open_arg {α : Type} {t : TypeId} {e : Enc α} {W : α → Prop} (o : Opn P t e W) {H : Type} {enc : TypeId × Value → H} {w : World} {base : Nat} {spare : Nat → Bool} {held : Bool} {v : Value} {d : DataW H} {ps : List MemPlace}
    (h : DataW.Trod enc P w base spare held t v d ps) (hw : ∀ n ∈ d.weights P t, n ≤ rB) : ∃ y, e.rep (HD w) v.cells.toList y ∧ W y := by
  obtain ⟨fuel, h⟩ := h
  exact o H enc w base spare held fuel _ _ h hw

theorem okw_float {P : Program} {w : World} {r : Reach} {base : Nat} {t : TypeId} {v : Value} {k : FloatKind} (ht : P.underlying t = some (.float k)) (h : Value.okWide P w r base t v) : ∃ b, v = .float k b := by
  simp only [Value.okWide, ht, Cell.okWide] at h
  cases v <;> simp_all [Cell.ok]
theorem sx_start [wb : WB] (W : World) (gl : PH) (h : wb = ⟨W.os, W.output, gl⟩) (hg : PH.le gl (HD W)) : SInv (HD W) [] W := by
  subst h
  exact ⟨⟨HD W, PH.le_refl _, hg, fun b o h => h, [], rfl, fun p h => (by cases h), List.Pairwise.nil⟩, rfl, rfl⟩

/-- The row's last step: the call returned true, and memory is as it was. -/
theorem said_post {H : Type} {enc : TypeId × Value → H} {W W' : World} {f : Func} {s : ChangeSpec} {args : Array Value} {ds gs : List (DataW H)} {before : List MemPlace} {t : TypeId} {apart fresh handsOn again : Bool}
    (hl : laidOutB P = true) (hr : ∀ u ∈ f.params.toList, P.readableRec u = true ∧ u < P.types.size) (hrt : f.resultTypes = #[t]) (ht : P.underlying t = some .bool)
    (hW : DataW.Whole enc P f.params.toList s.vars apart W args.toList ds gs before) (hv : s.vars = []) (hres : (s.fn H (ds ++ gs)).results = [.lit (.bool true)]) (hargs : (s.fn H (ds ++ gs)).args = ds) (hvars : (s.fn H (ds ++ gs)).vars = [])
    {gl : PH} (hS : @SInv ⟨W.os, W.output, gl⟩ (HD W) [] W') : s.post enc P f apart fresh handsOn again W args (.bool true) W' := by
  have hb : ∀ i : Nat, i < W.heap.size → W'.heap[i]? = W.heap[i]? := fun i hi => by
    have := @SInv.D_heap ⟨W.os, W.output, gl⟩ _ _ _ i W.heap[i] hS (by unfold HD; exact Array.getElem?_eq_getElem hi)
    rw [this, Array.getElem?_eq_getElem hi]
  have hlt := hW.lt
  have hW0 := hW
  obtain ⟨p, q, hA, hV, hpq, hz, hn⟩ := hW
  rw [hv] at hV
  obtain ⟨rfl, rfl⟩ := trodVars_none hV
  have stays : ∀ (ts : List TypeId) (vs : List Value) (ds : List (DataW H)) (ps : List MemPlace), (∀ u ∈ ts, P.readableRec u = true ∧ u < P.types.size) → (∀ x ∈ ps, x.block < W.heap.size) → DataW.TrodAll enc P W 0 (fun _ => true) true ts vs ds ps →
      ∀ sp : Nat → Bool, (∀ x ∈ ps, sp x.block = true) → DataW.TrodAll enc P W' 0 sp true ts vs ds ps := by
    intro ts
    induction ts with
    | nil => intro vs ds ps _ _ h sp _; cases vs <;> cases ds <;> simp_all [DataW.TrodAll]
    | cons t ts ih =>
      intro vs ds ps hr hps h sp hsp
      cases vs with
      | nil => simp [DataW.TrodAll] at h
      | cons v vs =>
        cases ds with
        | nil => simp [DataW.TrodAll] at h
        | cons d ds =>
          obtain ⟨p1, q1, h1, h2, rfl⟩ := h
          refine ⟨p1, q1, ?_, ih vs ds q1 (fun u hu => hr u (List.mem_cons_of_mem _ hu)) (fun x hx => hps x (List.mem_append_right _ hx)) h2 sp (fun x hx => hsp x (List.mem_append_right _ hx)), rfl⟩
          refine WideElems.Trod_stays hl (hr t (List.mem_cons_self ..)).1 (hr t (List.mem_cons_self ..)).2 h1 (fun x hx => ?_) (fun x hx => hsp x (List.mem_append_left _ hx))
          have hxl := hps x (List.mem_append_left _ hx)
          cases x with
          | cell b o => exact World.cell?_of_block (w := W) (hb b hxl)
          | map b => exact hb b hxl
  have hk : W.keptBut W' (· ∈ before) := by
    refine ⟨hS.2.1, hS.2.2, fun i hi => ?_⟩
    rw [hb i hi]
    split <;> simp_all
  have hvs : ∀ sp : Nat → Bool, DataW.TrodVars enc P W' sp s.vars (s.fn H (ds ++ [])).vars [] := by
    intro sp; rw [hvars, hv]; rfl
  have hbp : before = p := by rw [hpq]; simp
  subst hbp
  have hag : ∀ sp : Nat → Bool, (∀ x ∈ before, sp x.block = true) → DataW.TrodAll enc P W' 0 sp true f.params.toList args.toList (s.fn H (ds ++ [])).args before := by
    intro sp hsp; rw [hargs]; exact stays _ _ _ _ hr hlt hA sp hsp
  have hrs : ∀ (b : Nat) (sp : Nat → Bool) (hd : Bool), DataW.TrodAll enc P W' b sp hd f.resultTypes.toList ((Value.bool true).resultList f.resultTypes.size) (s.fn H (ds ++ [])).results [] := by
    intro b sp hd; rw [hres, hrt]; exact trodAll_mk1 (shut_bool ht true)
  have hok : ∀ (j : Nat) (t' : TypeId) (r : Value), f.resultTypes[j]? = some t' → ((Value.bool true).resultList f.resultTypes.size)[j]? = some r → Value.okWide P W' .any 0 t' r := ok_one hrt rfl (okWide_bool_mk ht true)
  have hold : ∀ x ∈ before, (fun b => decide (b < W.heap.size)) x.block = true := fun x hx => by simpa using hlt x hx
  refine ⟨ds, [], before, [], before, [], hW0, hrs _ _ _, hag _ hold, hvs _, World.keptBut_mono (fun x hx => ⟨hx, .inr (.inl hx)⟩) hk, fun _ => ?_⟩
  refine ⟨hok, _, _, before, ⟨before, [], trodAll_append (hag _ fun _ _ => rfl) (hrs _ _ _), hvs _, by simp, ?_, hn⟩, fun x hx _ => hx⟩
  intro b off hx
  have hfz : W'.frozen? ⟨b, off, none⟩ = W.frozen? ⟨b, off, none⟩ := World.frozen?_of_block (w := W) (hb b (hlt _ hx))
  rw [hfz]; exact hz b off hx
end Sx
