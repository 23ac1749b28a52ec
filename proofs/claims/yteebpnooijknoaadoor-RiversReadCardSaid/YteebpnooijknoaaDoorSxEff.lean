/- Own library, fifth part: operations that make and write memory; calls. -/
import Derived.Test.YteebpnooijknoaaDoorSxMem
namespace Sx
open Go
variable [WB]
set_option linter.all false

section
variable {P : Program} {n : Nat} {ops : Array Oper} {rest : List Oper} {φ : Fr} {D : PH} {As : List Assert} {Q : Exit → Act → World → Prop}
variable {d : Option Tmp} {t ty : TypeId} {x y : Operand} {pos : String} {aft : Array Edge} {g : Option (Nat × Bool)} {K : Value → PH → List Assert → Prop}

/-- What an operation that changes memory must show. -/
theorem opW_of {o : Oper} (h : ∀ w : World, SInv D As w → ∃ v w' D' As', (execOp (ev n φ) o).run P w = .ok (.value v) w' ∧ K v D' As' ∧ SInv D' As' w') : OpW P n o φ D As K := by
  intro w hS Q
  obtain ⟨v, w', D', As', hr, hK, hS'⟩ := h w hS
  rw [hr]
  exact ⟨v, D', As', rfl, hK, hS'⟩
theorem opW_skip {o : Oper} (h : ∀ w : World, SInv D As w → ∃ w' D' As', (execOp (ev n φ) o).run P w = .ok .skip w' ∧ K undef D' As' ∧ SInv D' As' w') : OpW P n o φ D As K := by
  intro w hS Q
  obtain ⟨w', D', As', hr, hK, hS'⟩ := h w hS
  rw [hr]
  exact ⟨undef, D', As', rfl, hK, hS'⟩

omit [WB] in
theorem run_newRow (E : TypeId) (cs : Array Value) (w : World) : (newRow E cs).run P w = .ok ⟨w.heap.size, 0, none⟩ { w with heap := w.heap.push (.cells cs E (0, 0)) } := rfl

theorem ow_alloc {E : TypeId} {zs : List Value} (hz : zeroCs P E = some zs) (h : ∀ b, K (.pointer (some ⟨b, 0, none⟩)) D (pt b zs E :: As)) : OpW P n ⟨d, .alloc E, ty, pos, aft, g⟩ φ D As K := by
  refine opW_of fun w hS => ?_
  obtain ⟨z, hc, hr⟩ := run_zeroValue hz w
  refine ⟨_, { w with heap := w.heap.push (.cells zs.toArray E (0, 0)) }, _, _, run_val ?_, h w.heap.size, hS.alloc_pt zs E⟩
  unfold Instr.alloc
  rw [run_bind_ok hr]
  simp only
  rw [← hc, Array.toArray_toList]
  rfl
theorem ow_box {E : TypeId} {cs : List Value} (hc : (ev n φ x).cells.toList = cs) (h : ∀ b, K (.pointer (some ⟨b, 0, none⟩)) D (pt b cs E :: As)) : OpW P n ⟨d, .box E x, ty, pos, aft, g⟩ φ D As K := by
  refine opW_of fun w hS => ?_
  refine ⟨_, { w with heap := w.heap.push (.cells cs.toArray E (0, 0)) }, _, _, run_val ?_, h w.heap.size, hS.alloc_pt cs E⟩
  unfold Instr.box
  rw [← hc, Array.toArray_toList]
  rfl

/-! ### Stores -/
omit [WB] in
theorem run_storeCells {b : Nat} {E : TypeId} : ∀ (vs : List Value) (off i : Nat) (cs : List Value) (w : World), w.heap[b]? = some (.cells cs.toArray E (0, 0)) → off + i + vs.length ≤ cs.length → (∀ v ∈ vs, oc v = true) →
    ∃ w', (storeCells ⟨b, off, none⟩ vs i).run P w = .ok () w' ∧ w'.heap[b]? = some (.cells (putc cs (off + i) vs).toArray E (0, 0)) ∧ (∀ j o, j ≠ b → w.heap[j]? = some o → w'.heap[j]? = some o) ∧ Calm w w'
  | [], off, i, cs, w, hb, hl, ho => ⟨w, rfl, by rw [putc_nil]; exact hb, fun _ _ _ h => h, Calm.refl w⟩
  | v :: vs, off, i, cs, w, hb, hl, ho => by
    simp only [List.length_cons] at hl
    have hlt : off + i < cs.length := by omega
    have hcell : w.cell? ⟨b, off + i, none⟩ = some cs[off + i] := by simp [World.cell?, hb, hlt]
    have hfr : w.frozen? ⟨b, off + i, none⟩ = false := by simp [World.frozen?, hb]
    have hset : (w.setCell ⟨b, off + i, none⟩ v).heap[b]? = some (.cells (cs.set (off + i) v).toArray E (0, 0)) := by
      have hbl : b < w.heap.size := by
        rcases Nat.lt_or_ge b w.heap.size with h | h
        · exact h
        · rw [Array.getElem?_eq_none h] at hb; cases hb
      have hb' : w.heap[b] = .cells cs.toArray E (0, 0) := by rw [Array.getElem?_eq_getElem hbl] at hb; exact Option.some.inj hb
      simp only [World.setCell]
      rw [Array.getElem?_eq_getElem (by simpa using hbl)]
      simp [Array.getElem_modify, hb']
    have hoth : ∀ j o, j ≠ b → w.heap[j]? = some o → (w.setCell ⟨b, off + i, none⟩ v).heap[j]? = some o := by
      intro j o hj hjo
      simp only [World.setCell]
      rw [Array.getElem?_modify, if_neg (Ne.symm hj)]
      exact hjo
    have hrun : (store ⟨b, off + i, none⟩ v).run P w = .ok () (w.setCell ⟨b, off + i, none⟩ v) := by
      have hv := ho v (List.mem_cons_self ..)
      unfold store
      cases v <;> first | (cases hv; done) | simp [Sem.run, hcell, hfr]
    obtain ⟨w', h1, h2, h3, h4⟩ := run_storeCells vs off (i + 1) (cs.set (off + i) v) _ hset (by simp; omega) (fun u hu => ho u (List.mem_cons_of_mem _ hu))
    refine ⟨w', ?_, ?_, fun j o hj hjo => h3 j o hj (hoth j o hj hjo), h4⟩
    · unfold storeCells
      rw [add_adr, run_bind_ok hrun]
      exact h1
    · rw [h2, putc_cons hlt, Nat.add_assoc]

theorem run_storeAt {b off : Nat} {E : TypeId} {cs vs : List Value} {v : Value} {w : World} (hi : (P.info? t).isSome = true) (hs : P.cellsOf t = vs.length) (hv : v.cells.toList = vs) (hb : w.heap[b]? = some (.cells cs.toArray E (0, 0))) (hl : off + vs.length ≤ cs.length) (ho : ∀ u ∈ vs, oc u = true) :
    ∃ w', (Instr.storeAt t (.pointer (some ⟨b, off, none⟩)) v).run P w = .ok () w' ∧ w'.heap[b]? = some (.cells (putc cs off vs).toArray E (0, 0)) ∧ (∀ j o, j ≠ b → w.heap[j]? = some o → w'.heap[j]? = some o) ∧ Calm w w' := by
  obtain ⟨w', h1, h2, h3⟩ := run_storeCells (P := P) vs off 0 cs w hb (by omega) ho
  refine ⟨w', ?_, by simpa using h2, h3⟩
  unfold Instr.storeAt
  rw [run_bind_ok (a := ⟨b, off, none⟩) (w' := w) rfl]
  unfold storeVar
  rw [run_bind_ok (run_sizeOf hi w)]
  have : ¬ v.cells.size ≠ P.cellsOf t := by rw [hs, ← hv]; simp
  rw [if_neg this, hv]
  exact h1

/-- A store into a block that is owned (the first of the parts). -/
theorem ow_storept {b off : Nat} {E : TypeId} {cs vs : List Value} (hi : (P.info? t).isSome = true) (hs : P.cellsOf t = vs.length) (hx : ev n φ x = .pointer (some ⟨b, off, none⟩)) (hv : (ev n φ y).cells.toList = vs) (hl : off + vs.length ≤ cs.length) (ho : vs.all oc = true) {cs' : List Value} (hc : putc cs off vs = cs')
    (h : K undef D (pt b cs' E :: As)) : OpW P n ⟨d, .store t x y, ty, pos, aft, g⟩ φ D (pt b cs E :: As) K := by
  refine opW_skip fun w hS => ?_
  obtain ⟨w', h1, h2, h3, h4⟩ := run_storeAt (P := P) (off := off) hi hs hv (hS.pt_heap (k := 0) rfl) hl (by simpa using ho)
  refine ⟨w', _, _, ?_, h, hc ▸ hS.pt_set (k := 0) rfl h2 h3 h4⟩
  simp only [execOp]
  rw [hx, run_bind_ok h1]; rfl

omit [WB] in
theorem take_drop_put_same {cs vs : List Value} {off : Nat} (hl : off + vs.length ≤ cs.length) : ((putc cs off vs).drop off).take vs.length = vs := by
  simp only [putc]
  rw [List.append_assoc, List.drop_append_of_le_length (by simp; omega)]
  simp
omit [WB] in
theorem take_drop_put_other {cs vs : List Value} {off o m : Nat} (hl : off + vs.length ≤ cs.length) (h : o + m ≤ off ∨ off + vs.length ≤ o) : ((putc cs off vs).drop o).take m = (cs.drop o).take m := by
  apply List.ext_getElem?
  intro i
  simp only [List.getElem?_take, List.getElem?_drop, putc]
  split
  · rename_i him
    rcases h with h | h
    · rw [List.getElem?_append_left (by simp; omega), List.getElem?_append_left (by simp; omega)]
      simp [show o + i < off by omega]
    · rw [List.getElem?_append_right (by simp; omega)]
      simp only [List.length_append, List.length_take, List.getElem?_drop]
      congr 1
      omega
  · rfl

omit [WB] in
theorem OwnA.set {α : Type} {e : Enc α} {D0 : PH} {E : TypeId} {b cap i : Nat} {xs : List α} {z : α} {cs vs : List Value} (hl : cs.length = cap * e.sz) (hc : xs.length ≤ cap) (hb : xs.length ≤ 2 ^ 62)
    (hr : ∀ i x, xs[i]? = some x → e.rep D0 ((cs.drop (i * e.sz)).take e.sz) x) (hi : i < xs.length) (hz : e.rep D0 vs z) : OwnA D0 e E b cap (xs.set i z) (PH.one b (.cells (putc cs (i * e.sz) vs).toArray E (0, 0))) := by
  have hvl := e.len hz
  have hle : i * e.sz + vs.length ≤ cs.length := by
    rw [hvl, hl]
    have : (i + 1) * e.sz ≤ cap * e.sz := Nat.mul_le_mul_right _ (by omega)
    rw [Nat.add_mul] at this
    omega
  refine ⟨_, rfl, by rw [putc_length hle, hl], by simpa using hc, by simpa using hb, fun j u hju => ?_⟩
  · by_cases hij : i = j
    · subst hij
      rw [List.getElem?_set_self hi] at hju
      obtain rfl := Option.some.inj hju
      have hsame := take_drop_put_same hle
      rw [hvl] at hsame
      rw [hsame]; exact hz
    · rw [List.getElem?_set_ne hij] at hju
      rw [take_drop_put_other hle ?_]
      · exact hr j u hju
      · rw [hvl]
        rcases Nat.lt_or_ge i j with hlt | hge
        · right
          have : (i + 1) * e.sz ≤ j * e.sz := Nat.mul_le_mul_right _ hlt
          rw [Nat.add_mul] at this; omega
        · left
          have : (j + 1) * e.sz ≤ i * e.sz := Nat.mul_le_mul_right _ (by omega)
          rw [Nat.add_mul] at this; omega

/-- A store into an array of the code's own (the first of the parts). -/
theorem ow_storeA {α : Type} {e : Enc α} {D0 : PH} {E : TypeId} {b cap i off : Nat} {xs : List α} {z : α} {vs : List Value} (hf : Fits P t e) (hx : ev n φ x = .pointer (some ⟨b, off, none⟩)) (hoff : off = i * e.sz) (hv : (ev n φ y).cells.toList = vs) (hz : e.rep D0 vs z) (hi : i < xs.length)
    (h : K undef D (OwnA D0 e E b cap (xs.set i z) :: As)) : OpW P n ⟨d, .store t x y, ty, pos, aft, g⟩ φ D (OwnA D0 e E b cap xs :: As) K := by
  refine opW_skip fun w hS => ?_
  obtain ⟨q, ⟨cs, rfl, hl, hc, hb, hr⟩, hin, _⟩ := hS.head
  have ho := e.ocs hz
  have hvl := e.len hz
  have hle : i * e.sz + vs.length ≤ cs.length := by
    rw [hvl, hl]
    have : (i + 1) * e.sz ≤ cap * e.sz := Nat.mul_le_mul_right _ (by omega)
    rw [Nat.add_mul] at this
    omega
  obtain ⟨w', g1, g2, g3, g4⟩ := run_storeAt (P := P) (t := t) (off := i * e.sz) hf.info (by rw [hf.size, hvl]) hv (hin b _ (one_self b _)) hle (by simpa using ho)
  refine ⟨w', _, _, ?_, h, ?_⟩
  · simp only [execOp]
    rw [hx, hoff, run_bind_ok g1]; rfl
  · refine SInv.change (fun k hk hkin _ => ?_) g4 hS
    obtain ⟨cs2, rfl, hl2, hc2, hb2, hr2⟩ := hk
    have heq : cs2 = cs := by
      have e1 := hkin b _ (one_self b _)
      have e2 := hin b _ (one_self b _)
      rw [e1] at e2
      injection e2 with e2
      injection e2 with e2
      simpa using e2
    subst heq
    refine ⟨_, OwnA.set hl hc hb hr hi hz, fun j o hj => ?_, fun j hj => ?_, fun j o hj hjo => ?_⟩
    · obtain ⟨rfl, rfl⟩ := one_some hj; exact g2
    · left
      cases hjj : PH.one b (Obj.cells (putc cs2 (i * e.sz) vs).toArray E (0, 0)) j with
      | none => rw [hjj] at hj; cases hj
      | some o => obtain ⟨rfl, _⟩ := one_some hjj; simp [one_self]
    · refine g3 j o (fun e => ?_) hjo
      subst e
      simp [one_self] at hj

/-! ### Slices that are made -/
/-- A literal's cells. -/
def bsl (P : Program) (t : TypeId) (len : Nat) (parts : List (Nat × Value)) : Option (TypeId × List Value) :=
  match P.underlying t with
  | some (.slice E) => (match zeroCs P E with
    | some zero => if (P.info? E).isSome ∧ ¬ (len * P.cellsOf E > 2 ^ 24) ∧ P.cellsOf E = zero.length ∧ 0 < zero.length then (fillL (fun i => some (i * P.cellsOf E, P.cellsOf E)) (List.replicate len zero).flatten parts).map fun cs => (E, cs) else none
    | none => none)
  | _ => none
omit [WB] in
theorem range_map_const (zs : List Value) (m : Nat) (hz : 0 < zs.length) : ((Array.range (m * zs.length)).map (zs.toArray[· % zs.toArray.size]!)).toList = (List.replicate m zs).flatten := by
  induction m with
  | zero => simp
  | succ m ih =>
    rw [List.replicate_succ', List.flatten_append, ← ih]
    simp only [Array.toList_map, Array.toList_range]
    rw [show (m + 1) * zs.length = m * zs.length + zs.length by rw [Nat.add_mul]; omega, List.range_add, List.map_append]
    congr 1
    simp only [List.map_map, List.flatten_cons, List.flatten_nil, List.append_nil]
    apply List.ext_getElem
    · simp
    · intro i h1 h2
      simp only [List.length_map, List.length_range] at h1
      simp only [List.getElem_map, List.getElem_range, Function.comp_apply, List.size_toArray]
      rw [Nat.add_comm (m * zs.length), Nat.add_mul_mod_self_right, Nat.mod_eq_of_lt h1]
      simp [h1]
theorem ow_buildSlice {len : Nat} {parts : Array (Nat × Operand)} {E : TypeId} {cs : List Value} (hb : bsl P t len (parts.toList.map fun x => (x.1, ev n φ x.2)) = some (E, cs))
    (h : ∀ b, K (.slice (some ⟨b, 0, none⟩) len len) D (pt b cs E :: As)) : OpW P n ⟨d, .buildSlice t len parts, ty, pos, aft, g⟩ φ D As K := by
  refine opW_of fun w hS => ?_
  unfold bsl at hb
  split at hb
  · rename_i E' hu
    split at hb
    · rename_i zero hzero
      split at hb
      · rename_i hc
        obtain ⟨hc1, hc2, hc3, hc4⟩ := hc
        simp only [Option.map_eq_some_iff, Prod.mk.injEq] at hb
        obtain ⟨cs0, hfill, rfl, rfl⟩ := hb
        refine ⟨_, { w with heap := w.heap.push (.cells cs0.toArray E' (0, 0)) }, _, _, run_val ?_, h w.heap.size, hS.alloc_pt cs0 E'⟩
        have hpt : (parts.map fun (i, x) => (i, ev n φ x)).toList = parts.toList.map fun x => (x.1, ev n φ x.2) := by simp
        unfold Instr.buildSlice
        rw [run_bind_ok (run_underlying hu w)]
        simp only
        rw [run_bind_ok (run_sizeOf hc1 w), if_neg hc2]
        obtain ⟨z, hz1, hz2⟩ := run_zeroValue hzero w
        have hfl := fill_fillL (fun i => some (i * P.cellsOf E', P.cellsOf E')) (parts.toList.map fun x => (x.1, ev n φ x.2)) (List.replicate len zero).flatten
        rw [hfill] at hfl
        by_cases h0 : len * P.cellsOf E' = 0
        · have hl0 : len = 0 := by
            rcases Nat.mul_eq_zero.1 h0 with h | h
            · exact h
            · omega
          subst hl0
          simp only [Nat.zero_mul, if_true]
          rw [run_bind_ok (run_pure _ w), hpt]
          simp only [List.replicate_zero, List.flatten_nil] at hfl
          rw [show ((Array.range 0).map fun x => (#[] : Array Value)[x % (#[] : Array Value).size]!) = ([] : List Value).toArray by simp, hfl]
          simp only [Option.map_some]
          rw [run_bind_ok (run_newRow _ _ w)]
          rfl
        · simp only [h0, if_false]
          rw [run_bind_ok hz2, run_bind_ok (run_pure _ w), hpt]
          subst hz1
          have e1 := range_map_const z.cells.toList len hc4
          rw [← hc3, Array.toArray_toList] at e1
          rw [show (Array.range (len * P.cellsOf E')).map (fun x => z.cells[x % z.cells.size]!) = (List.replicate len z.cells.toList).flatten.toArray from Array.ext' (by simpa using e1), hfl]
          simp only [Option.map_some]
          rw [run_bind_ok (run_newRow _ _ w)]
          rfl
      · cases hb
    · cases hb
  · cases hb

/-- Some cells that tell a list, one element after the other. -/
def RepL {α : Type} (e : Enc α) (D : PH) : List Value → List α → Prop
  | cs, [] => True
  | cs, x :: xs => e.rep D (cs.take e.sz) x ∧ RepL e D (cs.drop e.sz) xs
omit [WB] in
theorem RepL.at {α : Type} {e : Enc α} {D : PH} : ∀ {xs : List α} {cs : List Value}, RepL e D cs xs → ∀ i x, xs[i]? = some x → e.rep D ((cs.drop (i * e.sz)).take e.sz) x
  | [], _, _, i, x, hx => by simp at hx
  | y :: xs, cs, h, 0, x, hx => by simp at hx; subst hx; simpa using h.1
  | y :: xs, cs, h, i + 1, x, hx => by
    simp only [List.getElem?_cons_succ] at hx
    have := RepL.at h.2 i x hx
    rw [List.drop_drop] at this
    rwa [show (i + 1) * e.sz = e.sz + i * e.sz by rw [Nat.add_mul]; omega]
omit [WB] in
theorem pt_ownA {α : Type} {e : Enc α} {b : Nat} {E : TypeId} {cs : List Value} {xs : List α} (cap : Nat) (hl : cs.length = cap * e.sz) (hc : xs.length ≤ cap) (hb : cap ≤ 2 ^ 62) (hr : RepL e D cs xs) (h : PH) (a : pt b cs E h) : OwnA D e E b cap xs h :=
  ⟨cs, a, hl, hc, by omega, hr.at⟩

/-! ### Calls -/
theorem ow_call {f : FuncId} {args : Array Operand} {ats : Array TypeId} {F : Operand} {cap : Array Value} {vs : List Value} (hF : ev n φ F = .func (.func f) #[] cap) (hrun : ∀ (as : Array Value) (w : World), (callFunc f as).run P w = .ok (.enter f as) w) (hv : args.toList.map (ev n φ) ++ cap.toList = vs)
    (h : ∀ w : World, SInv D As w → Calls P f vs.toArray w (fun e w' => ∃ v D' As', e = .returned v ∧ K v D' As' ∧ SInv D' As' w')) : OpW P n ⟨d, .call ⟨.value F, args, ats⟩, ty, pos, aft, g⟩ φ D As K := by
  intro w hS Q
  have he : (execOp (ev n φ) ⟨d, .call ⟨.value F, args, ats⟩, ty, pos, aft, g⟩).run P w = .ok (.enter f vs.toArray) w := by
    simp only [execOp]
    rw [run_bind_ok (a := { target := .fn (.func f) cap, args := args.map (ev n φ) }) (w' := w) (by simp [resolve, hF, Deferred.ofValue])]
    simp only [invoke]
    rw [hrun, ← hv]
    congr 2
    apply Array.ext'
    simp
  rw [he]
  refine (h w hS).mono fun e w' hx => ?_
  obtain ⟨v, D', As', rfl, hK, hS'⟩ := hx
  exact ⟨v, D', As', rfl, hK, hS'⟩
omit [WB] in
theorem run_call {f : FuncId} {args : Array Operand} {ats : Array TypeId} {F : Operand} {cap : Array Value} {vs : List Value} (hF : ev n φ F = .func (.func f) #[] cap) (hrun : ∀ (as : Array Value) (w : World), (callFunc f as).run P w = .ok (.enter f as) w) (hv : args.toList.map (ev n φ) ++ cap.toList = vs) (w : World) :
    (execOp (ev n φ) ⟨d, .call ⟨.value F, args, ats⟩, ty, pos, aft, g⟩).run P w = .ok (.enter f vs.toArray) w := by
  simp only [execOp]
  rw [run_bind_ok (a := { target := .fn (.func f) cap, args := args.map (ev n φ) }) (w' := w) (by simp [resolve, hF, Deferred.ofValue])]
  simp only [invoke]
  rw [hrun, ← hv]
  congr 2
  apply Array.ext'
  simp
end
end Sx
