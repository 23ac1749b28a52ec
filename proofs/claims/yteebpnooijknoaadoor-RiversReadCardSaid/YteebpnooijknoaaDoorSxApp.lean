/- Own library, sixth part: append, make, reslicing, copy; parts laid down for good; the order of the parts. -/
import Derived.Test.YteebpnooijknoaaDoorSxEff
namespace Sx
open Go
variable [WB]
set_option linter.all false

/-- Lists that fit into memory, by far. -/
def cap40 : Nat := 2 ^ 39
/-- append, and make, of lists that fit. -/
def app {α : Type} (xs ys : List α) : Option (List α) := if xs.length + ys.length ≤ cap40 then some (xs ++ ys) else none
def mkP {α : Type} (z : α) (n : Int) : Option (List α) := if 0 ≤ n ∧ n ≤ cap40 then some (List.replicate n.toNat z) else none
omit [WB] in
theorem app_some {α : Type} {xs ys zs : List α} (h : app xs ys = some zs) : xs.length + ys.length ≤ cap40 ∧ zs = xs ++ ys := by
  unfold app at h; split at h
  · rename_i hc; exact ⟨hc, by simpa using h.symm⟩
  · cases h
omit [WB] in
theorem mkP_some {α : Type} {z : α} {n : Int} {zs : List α} (h : mkP z n = some zs) : 0 ≤ n ∧ n ≤ cap40 ∧ zs = List.replicate n.toNat z := by
  unfold mkP at h; split at h
  · rename_i hc; exact ⟨hc.1, hc.2, by simpa using h.symm⟩
  · cases h

section
variable {P : Program} {n : Nat} {ops : Array Oper} {rest : List Oper} {φ : Fr} {D : PH} {As : List Assert} {Q : Exit → Act → World → Prop}
variable {d : Option Tmp} {t ty : TypeId} {x y : Operand} {pos : String} {aft : Array Edge} {g : Option (Nat × Bool)} {K : Value → PH → List Assert → Prop}

/-! ### make -/
omit [WB] in
theorem flat_drop (zs : List Value) : ∀ (m i : Nat), i < m → (((List.replicate m zs).flatten).drop (i * zs.length)).take zs.length = zs
  | 0, i, h => absurd h (Nat.not_lt_zero _)
  | m + 1, 0, h => by rw [List.replicate_succ, List.flatten_cons]; simp
  | m + 1, i + 1, h => by
    rw [List.replicate_succ, List.flatten_cons, show (i + 1) * zs.length = zs.length + i * zs.length by rw [Nat.add_mul]; omega, ← List.drop_drop, List.drop_left]
    exact flat_drop zs m i (by omega)

structure Elem {α : Type} (P : Program) (t : TypeId) (E : TypeId) (e : Enc α) : Prop where
  slice : P.underlying t = some (.slice E)
  fits : Fits P E e
  small : P.bytesOf E ≤ 128
  pos : 0 < P.bytesOf E
  zero : ∃ zs, zeroCs P E = some zs ∧ zs.length = e.sz

theorem run_makeSlice {α : Type} {e : Enc α} {E : TypeId} (he : Elem P t E e) {zs : List Value} (hz : zeroCs P E = some zs) (hzl : zs.length = e.sz) {l c : Int} (h0 : 0 ≤ l) (hlc : l ≤ c) (hc : c ≤ cap40) (w : World) :
    (Instr.makeSlice t (.int .i64 l) (.int .i64 c)).run P w = .ok (.slice (some ⟨w.heap.size, 0, none⟩) l.toNat c.toNat) { w with heap := w.heap.push (.cells ((List.replicate c.toNat zs).flatten).toArray E (0, 0)) } := by
  obtain ⟨hu, hf, hb, hp, _⟩ := he
  have hc' : c ≤ 549755813888 := hc
  have w1 : IntKind.wrap .i64 l = l := by unfold IntKind.wrap; simp [IntKind.bits, IntKind.signed]; omega
  have w2 : IntKind.wrap .i64 c = c := by unfold IntKind.wrap; simp [IntKind.bits, IntKind.signed]; omega
  obtain ⟨i, hi⟩ := Option.isSome_iff_exists.1 hf.info
  have hbytes : i.bytes = P.bytesOf E := by simp [Program.bytesOf, hi]
  have tl : ∀ m : Int, 0 ≤ m → m ≤ c → (decide (m < 0) || decide ((i.bytes : Int) * m > 2 ^ 48)) = false := by
    intro m hm0 hmc
    rw [hbytes]
    have h1 : (P.bytesOf E : Int) * m ≤ 128 * m := Int.mul_le_mul_of_nonneg_right (by omega) hm0
    have h2 : ¬ m < 0 := by omega
    have h3 : ¬ ((P.bytesOf E : Int) * m > 2 ^ 48) := by
      have : (2 : Int) ^ 48 = 281474976710656 := by decide
      omega
    simp only [decide_eq_false h2, decide_eq_false h3, Bool.or_false]
  unfold Instr.makeSlice
  rw [run_bind_ok (run_underlying hu w)]
  simp only
  rw [run_bind_ok (a := l) (w' := w) rfl, run_bind_ok (a := c) (w' := w) rfl, run_bind_ok (run_typeInfo hi w)]
  simp only [w1, w2]
  rw [tl c (by omega) (Int.le_refl _)]
  have hl0 : ¬ l < 0 := by omega
  have hlc' : ¬ l > c := by omega
  simp only [hl0, hlc', decide_false, Bool.or_false, Bool.false_eq_true, if_false]
  rw [run_bind_ok (a := ()) (w' := w) (by
    unfold askRoom; split <;> rfl)]
  rw [run_bind_ok (run_sizeOf hf.info w)]
  rw [hf.size]
  obtain ⟨z, hz1, hz2⟩ := run_zeroValue hz w
  have hpos := e.pos
  by_cases hn : c.toNat * e.sz = 0
  · have hc0 : c.toNat = 0 := by
      rcases Nat.mul_eq_zero.1 hn with h | h
      · exact h
      · omega
    rw [if_pos hn, run_bind_ok (run_pure _ w), run_bind_ok (run_newRow _ _ w), run_pure]
    have e1 : (Array.range (c.toNat * e.sz)).map (fun x => (#[] : Array Value)[x % (#[] : Array Value).size]!) = ((List.replicate c.toNat zs).flatten).toArray := by simp [hc0]
    exact congrArg (fun A => Result.ok (Value.slice (some ⟨w.heap.size, 0, none⟩) l.toNat c.toNat) { w with heap := w.heap.push (.cells A E (0, 0)) }) e1
  · rw [if_neg hn, run_bind_ok hz2, run_bind_ok (run_pure _ w)]
    rw [run_bind_ok (run_newRow _ _ w), run_pure]
    have e1 := range_map_const zs c.toNat (by omega)
    rw [hzl] at e1
    subst hz1
    rw [Array.toArray_toList] at e1
    exact congrArg (fun A => Result.ok (Value.slice (some ⟨w.heap.size, 0, none⟩) l.toNat c.toNat) { w with heap := w.heap.push (.cells A E (0, 0)) }) (Array.ext' (by simpa using e1))

/-- make of a slice whose elements are all zero. -/
theorem ow_make {α : Type} {e : Enc α} {E : TypeId} (he : Elem P t E e) {zs : List Value} (hz : zeroCs P E = some zs) (z : α) (hr : e.rep D zs z) {l c : Int} (hx : ev n φ x = .int .i64 l) (hy : ev n φ y = .int .i64 c) (h0 : 0 ≤ l) (hlc : l ≤ c) (hc : c ≤ cap40)
    (h : ∀ b, K (.slice (some ⟨b, 0, none⟩) l.toNat c.toNat) D (OwnA D e E b c.toNat (List.replicate l.toNat z) :: As)) : OpW P n ⟨d, .makeSlice t x y, ty, pos, aft, g⟩ φ D As K := by
  refine opW_of fun w hS => ?_
  have hzl := e.len hr
  refine ⟨_, { w with heap := w.heap.push (.cells ((List.replicate c.toNat zs).flatten).toArray E (0, 0)) }, D, _, run_val ?_, h w.heap.size, ?_⟩
  · rw [hx, hy]; exact run_makeSlice he hz hzl h0 hlc hc w
  · refine SInv.imp (fun k hk => ?_) (hS.alloc_pt ((List.replicate c.toNat zs).flatten) E)
    refine ⟨_, hk, ?_, by simp; omega, ?_, fun i u hu => ?_⟩
    · have := congrArg List.length (range_map_const zs c.toNat (by have := e.pos; omega))
      rw [← this]; simp [hzl]
    · have : cap40 = 549755813888 := rfl
      simp; omega
    · have hil : i < l.toNat := by
        rcases Nat.lt_or_ge i l.toNat with h | h
        · exact h
        · rw [List.getElem?_eq_none (by simpa using h)] at hu; cases hu
      rw [List.getElem?_replicate, if_pos hil] at hu
      obtain rfl := Option.some.inj hu
      rw [← hzl, flat_drop zs _ _ (by omega)]
      exact hr

/-! ### append -/
/-- The value v is a slice whose elements are ys, in whatever memory the symbolic state tells. -/
def Src {α : Type} (P : Program) (D : PH) (As : List Assert) (e : Enc α) (D0 : PH) (v : Value) (ys : List α) : Prop :=
  (∃ a c, v = .slice a ys.length c) ∧ ∀ w : World, SInv D As w → ∃ cs : List Value, (Builtin.firstCells e.sz ys.length v).run P w = .ok cs.toArray w ∧ cs.length = ys.length * e.sz ∧ ∀ i x, ys[i]? = some x → e.rep D0 ((cs.drop (i * e.sz)).take e.sz) x
omit [WB] in
theorem take_take_drop {cs : List Value} {k o m : Nat} (h : o + m ≤ k) : ((cs.take k).drop o).take m = (cs.drop o).take m := by
  rw [List.drop_take, List.take_take]
  congr 1
  omega
omit [WB] in
theorem in_bounds {i m s : Nat} (h : i < m) : i * s + s ≤ m * s := by
  have : (i + 1) * s ≤ m * s := Nat.mul_le_mul_right _ h
  rwa [Nat.add_mul, Nat.one_mul] at this
theorem RO.src {α : Type} {e : Enc α} {v : Value} {ys : List α} (h : RO e D v ys) : Src P D As e D v ys := by
  obtain ⟨a, cap, rfl, hc, hb, h⟩ := h
  refine ⟨⟨a, cap, rfl⟩, fun w hS => ?_⟩
  cases hy : ys with
  | nil =>
    refine ⟨[], ?_, by simp, fun i x hx => by simp at hx⟩
    cases a <;> simp [Builtin.firstCells, loadCells, loadCellsFrom] <;> rfl
  | cons y0 ys0 =>
    obtain ⟨b, off, c, E, fr, rfl, hD, hr⟩ := h (by rw [hy]; simp)
    have hlen : off + ys.length * e.sz ≤ c.size := by
      have hlast : ys[ys.length - 1]? = some (ys[ys.length - 1]'(by rw [hy]; simp)) := List.getElem?_eq_getElem _
      have := e.len (hr _ _ hlast)
      simp only [List.length_take, List.length_drop, Array.length_toList] at this
      have h1 := in_bounds (s := e.sz) (show ys.length - 1 < ys.length by rw [hy]; simp)
      have h2 : ys.length * e.sz = (ys.length - 1) * e.sz + e.sz := by
        rw [show ys.length * e.sz = (ys.length - 1 + 1) * e.sz by rw [Nat.sub_add_cancel (by rw [hy]; simp)], Nat.add_mul, Nat.one_mul]
      have := e.pos
      omega
    rw [← hy]
    refine ⟨(c.toList.drop off).take (ys.length * e.sz), ?_, by simp; omega, fun i x hx => ?_⟩
    · exact run_loadCells (hS.D_heap hD) hlen
    · have hi : i < ys.length := by
        rcases Nat.lt_or_ge i ys.length with h | h
        · exact h
        · rw [List.getElem?_eq_none h] at hx; cases hx
      rw [take_take_drop (in_bounds hi), List.drop_drop]
      exact hr i x hx
theorem OwnA.src {α : Type} {e : Enc α} {D0 : PH} {E : TypeId} {b cap cap' : Nat} {ys : List α} (k : Nat) (hk : As[k]? = some (OwnA D0 e E b cap ys)) : Src P D As e D0 (.slice (some ⟨b, 0, none⟩) ys.length cap') ys := by
  refine ⟨⟨_, _, rfl⟩, fun w hS => ?_⟩
  obtain ⟨q, ⟨cs, rfl, hl, hc, hb, hr⟩, hin, _⟩ := (hS.front k hk).head
  have hle : ys.length * e.sz ≤ cs.length := by rw [hl]; exact Nat.mul_le_mul_right _ hc
  refine ⟨cs.take (ys.length * e.sz), ?_, by simp; omega, fun i x hx => ?_⟩
  · have := run_loadCells (P := P) (off := 0) (m := ys.length * e.sz) (hin b _ (one_self b _)) (by simpa using hle)
    simpa [Builtin.firstCells] using this
  · have hi : i < ys.length := by
      rcases Nat.lt_or_ge i ys.length with h | h
      · exact h
      · rw [List.getElem?_eq_none h] at hx; cases hx
    rw [take_take_drop (in_bounds hi)]
    exact hr i x hx

omit [WB] in
theorem growBy_le (m : Nat) : ∀ (r c : Nat), c ≤ 2 * m + 192 → Builtin.growBy m r c ≤ 2 * m + 192
  | 0, c, h => h
  | r + 1, c, h => by
    unfold Builtin.growBy
    split
    · exact h
    · exact growBy_le m r _ (by omega)
omit [WB] in
theorem next_le {need old : Nat} (h : old < need) : Builtin.nextslicecap need old ≤ 2 * need + 192 := by
  unfold Builtin.nextslicecap
  split
  · omega
  · split
    · omega
    · exact growBy_le _ _ _ (by omega)

omit [WB] in
theorem rep_append {α : Type} {e : Enc α} {D0 : PH} {xs ys : List α} {cs0 cs1 cs2 : List Value} (h0 : cs0.length = xs.length * e.sz) (h1 : cs1.length = ys.length * e.sz) (hx : ∀ i x, xs[i]? = some x → e.rep D0 ((cs0.drop (i * e.sz)).take e.sz) x) (hy : ∀ i x, ys[i]? = some x → e.rep D0 ((cs1.drop (i * e.sz)).take e.sz) x) :
    ∀ i x, (xs ++ ys)[i]? = some x → e.rep D0 (((cs0 ++ cs1 ++ cs2).drop (i * e.sz)).take e.sz) x := by
  intro i x hix
  rcases Nat.lt_or_ge i xs.length with hlt | hge
  · rw [List.getElem?_append_left hlt] at hix
    have hb := in_bounds (s := e.sz) hlt
    rw [List.append_assoc, List.drop_append_of_le_length (by omega), List.take_append_of_le_length (by simp; omega)]
    exact hx i x hix
  · rw [List.getElem?_append_right hge] at hix
    have hlt : i - xs.length < ys.length := by
      rcases Nat.lt_or_ge (i - xs.length) ys.length with h | h
      · exact h
      · rw [List.getElem?_eq_none h] at hix; cases hix
    have hb := in_bounds (s := e.sz) hlt
    have hi : i * e.sz = cs0.length + (i - xs.length) * e.sz := by rw [h0, ← Nat.add_mul]; congr 1; omega
    rw [hi, List.append_assoc, ← List.drop_drop, List.drop_left, List.drop_append_of_le_length (by omega), List.take_append_of_le_length (by simp; omega)]
    exact hy _ x hix

omit [WB] in
theorem run_zeroValue' {zs : List Value} (h : zeroCs P t = some zs) : ∃ z : Value, z.cells.toList = zs ∧ ∀ w, (zeroValue t).run P w = .ok z w := by
  unfold zeroCs at h
  simp only [Option.map_eq_some_iff, Option.bind_eq_some_iff] at h
  obtain ⟨z, ⟨i, hi, hz⟩, hc⟩ := h
  refine ⟨z, hc, fun w => ?_⟩
  unfold zeroValue
  rw [run_bind_ok (run_typeInfo hi w), hz]; rfl

/-- What append yields, for a slice of the code's own (the first of the parts). -/
theorem run_append {α : Type} {e : Enc α} {E tx : TypeId} (he : Elem P t E e) {ux : TypeDesc} (hux : P.underlying tx = some ux) (hnx : (match ux with | .int _ => false | _ => true) = true) {D0 : PH} {sv xv : Value} {xs ys : List α} (hs : Src P D (OwnS D0 e E sv xs :: As) e D0 xv ys) (hle : xs.length + ys.length ≤ cap40) (w : World)
    (hS : SInv D (OwnS D0 e E sv xs :: As) w) : ∃ v' w', (Builtin.append_ #[t, tx] ty #[sv, xv]).run P w = .ok v' w' ∧ SInv D (OwnS D0 e E v' (xs ++ ys) :: As) w' := by
  obtain ⟨⟨xa, xc, rfl⟩, hs⟩ := hs
  obtain ⟨hu, hf, hb, hp, zs, hz, hzl⟩ := he
  have hcap : cap40 = 549755813888 := rfl
  obtain ⟨i, hi⟩ := Option.isSome_iff_exists.1 hf.info
  have hbytes : i.bytes = P.bytesOf E := by simp [Program.bytesOf, hi]
  obtain ⟨z, hz1, hz2⟩ := run_zeroValue' hz
  -- the slice's own form
  obtain ⟨q, hq, hin, hap⟩ := hS.head
  have hform : ∃ a cap, sv = .slice a xs.length cap ∧ xs.length ≤ cap := by
    rcases hq with ⟨rfl, rfl, _⟩ | ⟨b, cap, rfl, cs, _, _, hc, _⟩
    · exact ⟨none, 0, rfl, Nat.le_refl _⟩
    · exact ⟨_, cap, rfl, hc⟩
  obtain ⟨sa, sc, rfl, hsc⟩ := hform
  unfold Builtin.append_
  simp only [List.getElem?_toArray, List.getElem?_cons_zero, List.getElem?_cons_succ]
  rw [run_bind_ok (run_underlying hu w)]
  simp only
  rw [run_bind_ok (run_sizeOf hf.info w)]
  rw [run_bind_ok (run_underlying hux w)]
  have hfalse : (match ux with | .int _ => true | _ => false) = false := by cases ux <;> first | rfl | cases hnx
  simp only [hf.size]
  rw [run_bind_ok (a := false) (w' := w) (by cases ux <;> first | rfl | cases hnx)]
  simp only [Bool.false_eq_true, if_false, Builtin.lenOf]
  rw [run_bind_ok (run_pure ys.length w)]
  by_cases hroom : xs.length + ys.length ≤ sc
  · rw [if_pos hroom]
    obtain ⟨ccs, hfc, hcl, hcr⟩ := hs w hS
    simp only [Bool.not_false, if_true]
    rw [run_bind_ok hfc]
    rcases hq with ⟨h1, rfl, rfl⟩ | ⟨b, cap, h1, cs, rfl, hcl0, hcc, hcb, hcr0⟩
    · -- nil, and nothing comes
      injection h1 with h1 h2 h3
      subst h1; subst h3
      simp only [List.length_nil, Nat.zero_add, Nat.le_zero] at hroom
      have : ys = [] := List.eq_nil_of_length_eq_zero hroom
      subst this
      exact ⟨_, w, rfl, by simpa using hS⟩
    · injection h1 with h1 h2 h3
      subst h1; subst h3
      simp only
      rw [add_adr, Nat.zero_add]
      have hroom' : xs.length * e.sz + ccs.length ≤ cs.length := by
        rw [hcl, hcl0, ← Nat.add_mul]; exact Nat.mul_le_mul_right _ hroom
      have hoc : ∀ v ∈ ccs, oc v = true := by
        intro v hv
        obtain ⟨j, hj, rfl⟩ := List.getElem_of_mem hv
        have hpos := e.pos
        have hj' : j / e.sz < ys.length := by
          rw [Nat.div_lt_iff_lt_mul hpos]; omega
        have hrj := hcr (j / e.sz) _ (List.getElem?_eq_getElem hj')
        have := e.ocs hrj
        rw [List.all_eq_true] at this
        apply this
        have hmod := Nat.mod_lt j hpos
        have hdm := Nat.div_add_mod' j e.sz
        have hb2 := in_bounds (s := e.sz) hj'
        rw [List.mem_iff_getElem]
        refine ⟨j % e.sz, by simp; omega, ?_⟩
        simp only [List.getElem_take, List.getElem_drop]
        congr 1
      obtain ⟨w', g1, g2, g3, g4⟩ := run_storeCells (P := P) (b := b) (E := E) ccs (xs.length * e.sz) 0 cs w (hin b _ (one_self b _)) (by omega) hoc
      rw [run_bind_ok g1]
      refine ⟨_, w', rfl, ?_⟩
      refine SInv.change (fun k hk hkin _ => ?_) g4 hS
      rcases hk with ⟨h1, _, _⟩ | ⟨b2, cap2, h1, cs2, rfl, hcl2, hcc2, hcb2, hcr2⟩
      · cases h1
      injection h1 with h1 h2 h3
      injection h1 with h1
      injection h1 with h1
      subst h1; subst h3
      have heq : cs2 = cs := by
        have e1 := hkin b _ (one_self b _)
        have e2 := hin b _ (one_self b _)
        rw [e1] at e2
        injection e2 with e2
        injection e2 with e2
        simpa using e2
      subst heq
      refine ⟨PH.one b (.cells (putc cs2 (xs.length * e.sz) ccs).toArray E (0, 0)), .inr ⟨b, sc, by simp, _, rfl, by rw [putc_length hroom', hcl0], by simpa using hroom, by simp; omega, ?_⟩, fun j o hj => ?_, fun j hj => ?_, fun j o hj hjo => ?_⟩
      · unfold putc
        have hxl : xs.length * e.sz ≤ cs2.length := by omega
        refine rep_append (by simp; omega) hcl (fun i x hx => ?_) hcr
        have hi : i < xs.length := by
          rcases Nat.lt_or_ge i xs.length with h | h
          · exact h
          · rw [List.getElem?_eq_none h] at hx; cases hx
        rw [take_take_drop (in_bounds hi)]
        exact hcr0 i x hx
      · obtain ⟨rfl, rfl⟩ := one_some hj; simpa using g2
      · left
        cases hjj : PH.one b (Obj.cells (putc cs2 (xs.length * e.sz) ccs).toArray E (0, 0)) j with
        | none => rw [hjj] at hj; cases hj
        | some o => obtain ⟨rfl, _⟩ := one_some hjj; simp [one_self]
      · refine g3 j o (fun e => ?_) hjo
        subst e
        simp [one_self] at hj
  · rw [if_neg hroom]
    have hlt : sc < xs.length + ys.length := by omega
    rw [run_bind_ok (run_typeInfo hi w)]
    simp only [false_or]
    have h1 : ¬ (((xs.length + ys.length : Nat) : Int) > IntKind.i64.max ∧ i.bytes = 0) := by rw [hbytes]; omega
    rw [if_neg h1]
    rw [run_bind_ok (run_typeInfo hi w)]
    have h2 : ¬ (Builtin.nextslicecap (xs.length + ys.length) sc * i.bytes > 2 ^ 48) := by
      have hn := next_le hlt
      have : Builtin.nextslicecap (xs.length + ys.length) sc * i.bytes ≤ (2 * (xs.length + ys.length) + 192) * 128 := Nat.mul_le_mul hn (by rw [hbytes]; exact hb)
      have h48 : (2 : Nat) ^ 48 = 281474976710656 := by decide
      omega
    rw [if_neg h2]
    let nc := (xs.length + ys.length) + w.tape w.drawn (.appendCap (xs.length + ys.length) sc E) % (2 ^ 63 - (xs.length + ys.length))
    have hnc : xs.length + ys.length ≤ nc := Nat.le_add_right _ _
    have hch : (choose (.appendCap (xs.length + ys.length) sc E)).run P w = .ok nc { w with drawn := w.drawn + 1 } := by
      simp [choose, Sem.run, Question.forced, Question.cut, nc]
    rw [run_bind_ok hch, run_bind_ok (run_typeInfo hi _)]
    have hS1 : SInv D (OwnS D0 e E (.slice sa xs.length sc) xs :: As) ({ w with drawn := w.drawn + 1 } : World) := hS
    rw [run_bind_ok (a := ()) (w' := { w with drawn := w.drawn + 1 }) (by unfold askRoom; split <;> rfl)]
    obtain ⟨ccs, hfc, hcl, hcr⟩ := hs _ hS1
    have hold : ∃ ocs : List Value, (Builtin.firstCells e.sz xs.length (.slice sa xs.length sc)).run P { w with drawn := w.drawn + 1 } = .ok ocs.toArray { w with drawn := w.drawn + 1 } ∧ ocs.length = xs.length * e.sz ∧ ∀ i x, xs[i]? = some x → e.rep D0 ((ocs.drop (i * e.sz)).take e.sz) x := by
      rcases hq with ⟨h1, rfl, rfl⟩ | ⟨b, cap, h1, cs, rfl, hcl0, hcc, hcb, hcr0⟩
      · injection h1 with h1 h2 h3
        subst h1
        exact ⟨[], rfl, by simp, fun i x hx => by simp at hx⟩
      · injection h1 with h1 h2 h3
        subst h1; subst h3
        have hle0 : xs.length * e.sz ≤ cs.length := by rw [hcl0]; exact Nat.mul_le_mul_right _ hcc
        refine ⟨cs.take (xs.length * e.sz), ?_, by simp; omega, fun i x hx => ?_⟩
        · have := run_loadCells (P := P) (w := { w with drawn := w.drawn + 1 }) (off := 0) (m := xs.length * e.sz) (hin b _ (one_self b _)) (by simpa using hle0)
          simpa [Builtin.firstCells] using this
        · have hi : i < xs.length := by
            rcases Nat.lt_or_ge i xs.length with h | h
            · exact h
            · rw [List.getElem?_eq_none h] at hx; cases hx
          rw [take_take_drop (in_bounds hi)]
          exact hcr0 i x hx
    obtain ⟨ocs, hfo, hol, hor⟩ := hold
    rw [run_bind_ok hfo]
    simp only [Bool.not_false, if_true]
    rw [run_bind_ok hfc, run_bind_ok (hz2 _)]
    rw [run_bind_ok (run_newRow _ _ _)]
    refine ⟨_, _, rfl, ?_⟩
    have hzc : (Builtin.zeroCells z.cells (nc - (xs.length + ys.length))).size = (nc - (xs.length + ys.length)) * e.sz := by
      unfold Builtin.zeroCells
      have : z.cells.size = e.sz := by rw [← hzl, ← hz1]; simp
      simp [this]
    refine SInv.change (w := { w with drawn := w.drawn + 1 }) (fun k hk hkin _ => ?_) ⟨rfl, rfl⟩ hS1
    refine ⟨PH.one w.heap.size (.cells (ocs.toArray ++ ccs.toArray ++ Builtin.zeroCells z.cells (nc - (xs.length + ys.length))).toList.toArray E (0, 0)), .inr ⟨w.heap.size, nc, by simp, _, rfl, ?_, by simpa using hnc, by simp; omega, ?_⟩, fun j o hj => ?_, fun j hj => ?_, fun j o hj hjo => ?_⟩
    · simp only [Array.length_toList, Array.size_append, List.size_toArray, hol, hcl, hzc, ← Nat.add_mul]
      congr 1
      omega
    · rw [Array.toList_append, Array.toList_append]
      exact rep_append hol hcl hor hcr
    · obtain ⟨rfl, rfl⟩ := one_some hj
      simp
    · right
      cases hjj : PH.one w.heap.size (Obj.cells (ocs.toArray ++ ccs.toArray ++ Builtin.zeroCells z.cells (nc - (xs.length + ys.length))).toList.toArray E (0, 0)) j with
      | none => rw [hjj] at hj; cases hj
      | some o => obtain ⟨rfl, _⟩ := one_some hjj; simp
    · have hlt : j < w.heap.size := by
        rcases Nat.lt_or_ge j w.heap.size with hl | hl
        · exact hl
        · rw [Array.getElem?_eq_none hl] at hjo; cases hjo
      simp only
      rw [Array.getElem?_push_lt hlt, ← hjo, Array.getElem?_eq_getElem hlt]

theorem ow_append {α : Type} {e : Enc α} {E tx : TypeId} (he : Elem P t E e) {ux : TypeDesc} (hux : P.underlying tx = some ux) (hnx : (match ux with | .int _ => false | _ => true) = true) {D0 : PH} {sv xv : Value} {xs ys : List α} (hx : ev n φ x = sv) (hy : ev n φ y = xv) (hs : Src P D (OwnS D0 e E sv xs :: As) e D0 xv ys) (hle : xs.length + ys.length ≤ cap40)
    (h : ∀ v', K v' D (OwnS D0 e E v' (xs ++ ys) :: As)) : OpW P n ⟨d, .call ⟨.builtin .append, #[x, y], #[t, tx]⟩, ty, pos, aft, g⟩ φ D (OwnS D0 e E sv xs :: As) K := by
  refine opW_of fun w hS => ?_
  obtain ⟨v', w', hr, hS'⟩ := run_append (ty := ty) he hux hnx hs hle w hS
  refine ⟨v', w', D, _, ?_, h v', hS'⟩
  simp only [execOp]
  have hcs : ∃ cs, (resolve (ev n φ) ⟨.builtin .append, #[x, y], #[t, tx]⟩ ty).run P w = .ok { target := .builtin .append #[t, tx] ty cs, args := #[sv, xv] } w := ⟨_, by simp only [resolve]; rw [show (#[x, y] : Array Operand).map (ev n φ) = #[sv, xv] by simp [hx, hy]]; rfl⟩
  obtain ⟨cs, hcs⟩ := hcs
  rw [run_bind_ok hcs]
  simp only [invoke, builtin]
  exact run_val hr
end
end Sx
