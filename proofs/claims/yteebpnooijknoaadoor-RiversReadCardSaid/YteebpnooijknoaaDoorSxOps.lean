/- Own library, third part: what single operations yield, from a symbolic state. -/
import Derived.Test.YteebpnooijknoaaDoorSxSim
import Derived.Test.YteebpnooijknoaaDoorSxPure
namespace Sx
open Go
variable [WB]
set_option linter.all false

/-! ### Some cells laid over others -/
def putc (cs : List Value) (off : Nat) (vs : List Value) : List Value := cs.take off ++ vs ++ cs.drop (off + vs.length)
omit [WB] in
theorem putc_nil (cs : List Value) (off : Nat) : putc cs off [] = cs := by simp [putc]
omit [WB] in
theorem putc_length {cs vs : List Value} {off : Nat} (h : off + vs.length ≤ cs.length) : (putc cs off vs).length = cs.length := by simp [putc]; omega
omit [WB] in
theorem putc_cons {cs vs : List Value} {v : Value} {off : Nat} (h : off < cs.length) : putc cs off (v :: vs) = putc (cs.set off v) (off + 1) vs := by
  simp only [putc, List.length_cons]
  rw [show (cs.set off v).take (off + 1) = cs.take off ++ [v] from by
    rw [List.take_add_one, List.take_set, List.set_eq_of_length_le (by simp; omega)]
    simp [h]]
  rw [show (cs.set off v).drop (off + 1 + vs.length) = cs.drop (off + (vs.length + 1)) from by
    rw [List.drop_set_of_lt (by omega)]; congr 1; omega]
  simp

def fillL (place : Nat → Option (Nat × Nat)) (cells : List Value) : List (Nat × Value) → Option (List Value)
  | [] => some cells
  | (i, v) :: rest => match place i with
    | none => none
    | some (off, size) => if v.cells.toList.length ≠ size ∨ off + size > cells.length then none else fillL place (putc cells off v.cells.toList) rest
omit [WB] in
theorem fill_inner (off : Nat) : ∀ (l : List Value) (k : Nat) (A : Array Value), off + k + l.length ≤ A.size → (l.zipIdx k).foldl (fun cs (x : Value × Nat) => cs.setIfInBounds (off + x.2) x.1) A = (putc A.toList (off + k) l).toArray
  | [], k, A, h => by simp [putc_nil]
  | v :: l, k, A, h => by
    simp only [List.length_cons] at h
    simp only [List.zipIdx_cons, List.foldl_cons]
    rw [fill_inner off l (k + 1) _ (by simp; omega)]
    rw [putc_cons (by simp; omega)]
    simp [Nat.add_assoc]
omit [WB] in
theorem fill_fillL (place : Nat → Option (Nat × Nat)) : ∀ (parts : List (Nat × Value)) (cells : List Value), Instr.fill place cells.toArray parts = (fillL place cells parts).map List.toArray
  | [], cells => rfl
  | (i, v) :: rest, cells => by
    unfold Instr.fill fillL
    cases place i with
    | none => rfl
    | some os =>
      obtain ⟨off, size⟩ := os
      simp only
      by_cases hc : v.cells.toList.length ≠ size ∨ off + size > cells.length
      · rw [if_pos hc]
        have : (decide (v.cells.size ≠ size) || decide (off + v.cells.size > cells.toArray.size)) = true := by
          simp only [Array.length_toList] at hc
          simp only [List.size_toArray, Bool.or_eq_true, decide_eq_true_eq]
          omega
        rw [if_pos this]; rfl
      · rw [if_neg hc]
        have : ¬ (decide (v.cells.size ≠ size) || decide (off + v.cells.size > cells.toArray.size)) = true := by
          simp only [Array.length_toList] at hc
          simp only [List.size_toArray, Bool.or_eq_true, decide_eq_true_eq]
          omega
        rw [if_neg this]
        have hin := fill_inner off v.cells.toList 0 cells.toArray (by simp only [Array.length_toList] at hc ⊢; simp; omega)
        have e1 : v.cells.zipIdx.foldl (fun cs (x : Value × Nat) => cs.setIfInBounds (off + x.2) x.1) cells.toArray = (putc cells off v.cells.toList).toArray := by
          rw [← Array.foldl_toList, Array.toList_zipIdx]
          simpa using hin
        rw [← fill_fillL place rest (putc cells off v.cells.toList)]
        exact congrArg (fun A => Instr.fill place A rest) e1

/-! ### Operations that only reckon -/
def partOf (P : Program) (t : TypeId) (cs : List Value) (off : Nat) : Option Value :=
  match P.underlying t with
  | some (.struct _) | some (.array _ _) => some (.agg ((cs.drop off).take (P.cellsOf t)).toArray)
  | some _ => cs[off]?
  | none => none
def zeroCs (P : Program) (t : TypeId) : Option (List Value) := ((P.info? t).bind (·.zero)).map (·.cells.toList)
def sbin (P : Program) (op : BinOp) (t : TypeId) (x y : Value) : Option Value :=
  match op, x, y with
  | .add, .int k a, .int k' b => if k = k' then some (.int k (k.wrap (a + b))) else none
  | .sub, .int k a, .int k' b => if k = k' then some (.int k (k.wrap (a - b))) else none
  | .mul, .int k a, .int k' b => if k = k' then some (.int k (k.wrap (a * b))) else none
  | .eql, .int k a, .int k' b => if k = k' then some (.bool (a == b)) else none
  | .neq, .int k a, .int k' b => if k = k' then some (.bool (a != b)) else none
  | .lss, .int k a, .int k' b => if k = k' then some (.bool (decide (a < b))) else none
  | .leq, .int k a, .int k' b => if k = k' then some (.bool (decide (a ≤ b))) else none
  | .gtr, .int k a, .int k' b => if k = k' then some (.bool (decide (a > b))) else none
  | .geq, .int k a, .int k' b => if k = k' then some (.bool (decide (a ≥ b))) else none
  | .eql, .float k a, .float k' b => if k = k' then some (.bool (feq k a b)) else none
  | .neq, .float k a, .float k' b => if k = k' then some (.bool (fne k a b)) else none
  | .lss, .float k a, .float k' b => if k = k' then some (.bool (flt k a b)) else none
  | .leq, .float k a, .float k' b => if k = k' then some (.bool (fle k a b)) else none
  | .gtr, .float k a, .float k' b => if k = k' then some (.bool (fgt k a b)) else none
  | .geq, .float k a, .float k' b => if k = k' then some (.bool (fge k a b)) else none
  | .eql, .bool a, .bool b => match P.underlying t with | some .bool => some (.bool (a == b)) | _ => none
  | .neq, .bool a, .bool b => match P.underlying t with | some .bool => some (.bool (!(a == b))) | _ => none
  | _, _, _ => none
def sun (op : UnOp) (x : Value) : Option Value :=
  match op, x with
  | .neg, .int k n => some (.int k (k.wrap (0 - n)))
  | .neg, .float k b => some (.float k (fneg k b))
  | .not, .bool b => some (.bool (!b))
  | _, _ => none
def sconv (P : Program) (dst : TypeId) (x : Value) : Option Value :=
  match P.underlying dst, x with
  | some (.int k), .int _ n => some (.int k (k.wrap n))
  | some (.float k), .int _ n => some (.float k (fofI k n))
  | some .string, .string s => some (.string s)
  | _, _ => none
def slen (P : Program) (t : TypeId) (x : Value) : Option Value :=
  match P.underlying t, x with
  | some (.slice _), .slice _ n _ => some (.int .i64 n)
  | some .string, .string s => some (.int .i64 s.size)
  | _, _ => none
/-- The value that an operation yields that only reckons. -/
def scal (P : Program) (o : Oper) (ρ : Operand → Value) : Option Value :=
  match o.op with
  | .move x | .assign x => some (ρ x)
  | .pick c a b => match ρ c with | .bool t => some (if t then ρ a else ρ b) | _ => none
  | .nilCheck x => match ρ x with | .pointer (some a) => some (.pointer (some a)) | _ => none
  | .binOp op t x y _ => sbin P op t (ρ x) (ρ y)
  | .unOp op _ x => sun op (ρ x)
  | .convert s d x => match P.underlying s with | some _ => sconv P d (ρ x) | none => none
  | .fieldAddr s x f => match P.underlying s, ρ x with
    | some (.struct fs), .pointer (some a) => (match fs[f]? with | some fd => if (P.info? fd.type).isSome ∧ P.cellsOf fd.type ≠ 0 then some (.pointer (some (a.add fd.offset))) else none | none => none)
    | _, _ => none
  | .field s x f => match P.underlying s, ρ x with
    | some (.struct fs), .agg cs => (match fs[f]? with | some fd => if (P.info? fd.type).isSome then partOf P fd.type cs.toList fd.offset else none | none => none)
    | _, _ => none
  | .extract t i => match ρ t with | .tuple vs => vs.toList[i]? | _ => none
  | .makeFunc fn first cap => some (.func fn (first.toList.map ρ).toArray (cap.toList.map ρ).toArray)
  | .build t parts => match zeroCs P t with
    | some zs => (match P.underlying t with
      | some (.struct fs) => if h : (∀ f ∈ fs.toList, (P.info? f.type).isSome = true) then (match fillL (fun i => (fs.toList.map fun f => (f.offset, P.cellsOf f.type))[i]?) zs (parts.toList.map fun x => (x.1, ρ x.2)) with | some cs => some (.agg cs.toArray) | none => none) else none
      | _ => none)
    | none => none
  | .call { callee := .builtin .len, args, argTypes } => match args.toList, argTypes.toList with
    | [x], [t] => slen P t (ρ x)
    | _, _ => none
  | _ => none

/-- Is it a struct's or an array's type? -/
def isAggD : TypeDesc → Bool | .struct _ | .array _ _ => true | _ => false
section
variable {P : Program}
omit [WB] in
theorem run_pure {α : Type} (a : α) (w : World) : (pure a : Sem α).run P w = .ok a w := rfl
omit [WB] in
theorem run_bind {α β : Type} (m : Sem α) (f : α → Sem β) (w : World) : (m >>= f).run P w = match m.run P w with | .ok a w' => (f a).run P w' | .halt h w' => .halt h w' := by
  show (m.bind f).run P w = _
  induction m generalizing w with
  | pure a => rfl
  | load m a k ih =>
    simp only [Sem.bind, Sem.run]
    (repeat' split) <;> simp_all
  | store m a v k ih =>
    cases v <;> simp only [Sem.bind, Sem.run] <;> (repeat' split) <;> simp_all
  | new o k ih => simp [Sem.bind, Sem.run, ih]
  | shape r k ih => simp [Sem.bind, Sem.run, ih]
  | freeze a n k ih => simp [Sem.bind, Sem.run, ih]
  | frozen a k ih => simp [Sem.bind, Sem.run, ih]
  | getObj r k ih => simp only [Sem.bind, Sem.run]; (repeat' split) <;> simp_all
  | setObj r o k ih => simp only [Sem.bind, Sem.run]; (repeat' split) <;> simp_all
  | choose q k ih => simp only [Sem.bind, Sem.run]; (repeat' split) <;> simp_all
  | sys c k ih => simp [Sem.bind, Sem.run, ih]
  | program k ih => simp [Sem.bind, Sem.run, ih]
  | mark m k ih => simp [Sem.bind, Sem.run, ih]
  | halt h => rfl
omit [WB] in
theorem run_bind_ok {α β : Type} {m : Sem α} {f : α → Sem β} {w w' : World} {a : α} (h : m.run P w = .ok a w') : (m >>= f).run P w = (f a).run P w' := by rw [run_bind, h]
omit [WB] in
theorem run_val {s : Sem Value} {w w' : World} {v : Value} (h : s.run P w = .ok v w') : (do pure (Next.value (← s)) : Sem Next).run P w = .ok (.value v) w' := by rw [run_bind_ok h]; rfl
omit [WB] in
theorem run_program (w : World) : (program).run P w = .ok P w := rfl
omit [WB] in
theorem run_underlying {t : TypeId} {d : TypeDesc} (h : P.underlying t = some d) (w : World) : (underlying t).run P w = .ok d w := by
  unfold underlying
  rw [run_bind_ok (run_program w), h]; rfl
omit [WB] in
theorem run_typeInfo {t : TypeId} {i : TypeInfo} (h : P.info? t = some i) (w : World) : (typeInfo t).run P w = .ok i w := by
  unfold typeInfo
  rw [run_bind_ok (run_program w), h]; rfl
omit [WB] in
theorem run_sizeOf {t : TypeId} (h : (P.info? t).isSome = true) (w : World) : (Go.sizeOf t).run P w = .ok (P.cellsOf t) w := by
  obtain ⟨i, hi⟩ := Option.isSome_iff_exists.1 h
  unfold Go.sizeOf
  rw [run_bind_ok (run_typeInfo hi w)]
  simp [Program.cellsOf, hi]
omit [WB] in
theorem run_isAgg {t : TypeId} {d : TypeDesc} (h : P.underlying t = some d) (w : World) : (isAgg t).run P w = .ok (isAggD d) w := by
  unfold isAgg
  rw [run_bind_ok (run_underlying h w)]
  cases d <;> rfl
omit [WB] in
theorem extract_toList (a : Array Value) (i j : Nat) : a.extract i (i + j) = ((a.toList.drop i).take j).toArray := by
  apply Array.ext'
  simp [List.take_drop]
theorem run_part {t : TypeId} {cs : Array Value} {off : Nat} {v : Value} (hi : (P.info? t).isSome = true) (h : partOf P t cs.toList off = some v) (w : World) : (part t cs off).run P w = .ok v w := by
  unfold partOf at h
  cases hd : P.underlying t with
  | none => rw [hd] at h; cases h
  | some d =>
    unfold part
    rw [run_bind_ok (run_isAgg hd w)]
    rw [hd] at h
    cases d <;> simp only [isAggD, Bool.false_eq_true, if_false, if_true] at h ⊢ <;> first
      | (rw [run_bind_ok (run_sizeOf hi w), extract_toList]; simp only [Option.some.injEq] at h; rw [← h]; rfl)
      | (rw [Array.getElem?_toList] at h; rw [h]; rfl)

omit [WB] in
theorem run_zeroValue {t : TypeId} {zs : List Value} (h : zeroCs P t = some zs) (w : World) : ∃ z, z.cells.toList = zs ∧ (zeroValue t).run P w = .ok z w := by
  unfold zeroCs at h
  simp only [Option.map_eq_some_iff, Option.bind_eq_some_iff] at h
  obtain ⟨z, ⟨i, hi, hz⟩, hc⟩ := h
  refine ⟨z, hc, ?_⟩
  unfold zeroValue
  rw [run_bind_ok (run_typeInfo hi w), hz]; rfl
omit [WB] in
theorem eqGuard_quiet (op : BinOp) (t : TypeId) (x y : Operand) (a b : Value) (h : match a, b with | .nilIface, .nilIface | .agg _, .agg _ => False | _, _ => True) (w : World) : (eqGuard op t x y a b).run P w = .ok () w := by
  unfold eqGuard
  cases op <;> (try rfl) <;> simp only [Bool.not_true, Bool.false_eq_true, if_false] <;> (cases a <;> (try rfl) <;> cases b <;> (try rfl) <;> simp at h)

omit [WB] in
theorem run_equalIn_bool (d : Nat) {t : TypeId} (a b : Bool) (hu : P.underlying t = some .bool) (w : World) : (Op.equalIn (d + 1) t (.bool a) (.bool b)).run P w = .ok (a == b) w := by
  unfold Op.equalIn
  rw [run_bind_ok (run_underlying hu w)]; rfl
theorem run_equal_bool {t : TypeId} (a b : Bool) (hu : P.underlying t = some .bool) (w : World) : (Op.equal t (.bool a) (.bool b)).run P w = .ok (a == b) w := run_equalIn_bool 9999 a b hu w

theorem sbin_sound {op : BinOp} {t : TypeId} {x y v : Value} (h : sbin P op t x y = some v) (w : World) (X Y : Operand) : (do eqGuard op t X Y x y; binOp op t x y : Sem Value).run P w = .ok v w := by
  have hq : (eqGuard op t X Y x y).run P w = .ok () w := by
    refine eqGuard_quiet _ _ _ _ _ _ ?_ w
    cases x <;> cases y <;> first | trivial | (cases op <;> cases h)
  rw [run_bind_ok hq]
  cases x <;> cases y <;> (try (cases op <;> cases h; done))
  case bool.bool a b =>
    cases op <;> (try (cases h; done))
    all_goals
      simp only [sbin] at h
      split at h
      · rename_i hu
        obtain rfl := Option.some.inj h
        simp only [binOp]
        rw [run_bind_ok (run_equal_bool a b hu w)]; rfl
      · cases h
  case int.int k a k' b =>
    cases op <;> (try (cases h; done))
    all_goals
      simp only [sbin] at h
      split at h
      · rename_i hk
        subst hk
        obtain rfl := Option.some.inj h
        simp only [binOp, ne_eq, not_true_eq_false, if_false]
        rfl
      · cases h
  case float.float k a k' b =>
    cases op <;> (try (cases h; done))
    all_goals
      simp only [sbin] at h
      split at h
      · rename_i hk
        subst hk
        obtain rfl := Option.some.inj h
        simp only [binOp, ne_eq, not_true_eq_false, if_false]
        rfl
      · cases h

omit [WB] in
theorem sun_sound {op : UnOp} {x v : Value} (h : sun op x = some v) (w : World) : (Op.unary op x).run P w = .ok v w := by
  cases op <;> cases x <;> (try (cases h; done)) <;> (obtain rfl := Option.some.inj h; rfl)

omit [WB] in
theorem sconv_sound {s t : TypeId} {d0 : TypeDesc} {x v : Value} (hs : P.underlying s = some d0) (h : sconv P t x = some v) (w : World) : (convert s t x).run P w = .ok v w := by
  unfold sconv at h
  split at h <;> (try (cases h; done))
  all_goals
    rename_i hu
    obtain rfl := Option.some.inj h
    unfold convert
    rw [run_bind_ok (run_underlying hs w), run_bind_ok (run_underlying hu w)]
    cases d0 <;> rfl

omit [WB] in
theorem slen_sound {t ty : TypeId} {x v : Value} (h : slen P t x = some v) (w : World) : (Builtin.len_ #[t] ty #[x]).run P w = .ok v w := by
  unfold slen at h
  split at h <;> (try (cases h; done))
  all_goals
    rename_i hu
    obtain rfl := Option.some.inj h
    unfold Builtin.len_
    simp only [List.getElem?_toArray, List.getElem?_cons_zero]
    rw [run_bind_ok (run_underlying hu w)]
    rfl

theorem scal_sound {o : Oper} {ρ : Operand → Value} {v : Value} (h : scal P o ρ = some v) (w : World) : (execOp ρ o).run P w = .ok (.value v) w := by
  obtain ⟨dst, op, ty, pos, aft, g⟩ := o
  cases op <;> simp only [scal] at h <;> (try (cases h; done)) <;> simp only [execOp]
  case move x => obtain rfl := Option.some.inj h; rfl
  case assign x => obtain rfl := Option.some.inj h; rfl
  case pick c a b =>
    split at h
    · rename_i t ht
      obtain rfl := Option.some.inj h
      rw [run_bind_ok (a := t) (w' := w) (by rw [ht]; rfl)]
      rfl
    · cases h
  case nilCheck x =>
    split at h
    · rename_i a ha
      obtain rfl := Option.some.inj h
      rw [ha]; rfl
    · cases h
  case binOp op t x y yt => exact run_val (sbin_sound h w x y)
  case unOp op t x => exact run_val (sun_sound h w)
  case convert s d x =>
    split at h
    · rename_i hs; exact run_val (sconv_sound hs h w)
    · cases h
  case fieldAddr s x f =>
    split at h
    · rename_i fs a hu ha
      split at h
      · rename_i fd hf
        split at h
        · rename_i hc
          obtain rfl := Option.some.inj h
          apply run_val
          unfold Instr.fieldAt
          rw [run_bind_ok (run_underlying hu w)]
          simp only [hf]
          rw [ha]
          rw [run_bind_ok (a := a) (w' := w) rfl]
          rw [run_bind_ok (a := a.add fd.offset) (w' := w)]
          · rfl
          · unfold fieldPlace
            rw [run_bind_ok (run_sizeOf hc.1 w)]
            rw [if_neg hc.2]; rfl
        · cases h
      · cases h
    · cases h
  case field s x f =>
    split at h
    · rename_i fs cs hu ha
      split at h
      · rename_i fd hf
        split at h
        · rename_i hc
          apply run_val
          unfold Instr.field
          rw [run_bind_ok (run_underlying hu w)]
          simp only [hf]
          rw [ha]
          rw [run_bind_ok (a := cs) (w' := w) rfl]
          exact run_part hc h w
        · cases h
      · cases h
    · cases h
  case extract t i =>
    split at h
    · rename_i vs hv
      apply run_val
      unfold Instr.extract
      rw [hv]
      simp only
      rw [Array.getElem?_toList] at h
      rw [h]; rfl
    · cases h
  case makeFunc fn first cap =>
    obtain rfl := Option.some.inj h
    refine run_val ?_
    unfold Instr.makeFunc
    rw [run_pure]
    have e1 : first.map ρ = (first.toList.map ρ).toArray := Array.ext' (by simp)
    have e2 : cap.map ρ = (cap.toList.map ρ).toArray := Array.ext' (by simp)
    rw [e1, e2]
  case build t parts =>
    split at h
    · rename_i zs hz
      split at h
      · rename_i fs hu
        split at h
        · rename_i hcs1
          split at h
          case h_2 => cases h
          rename_i cs hcs2
          obtain rfl := Option.some.inj h
          obtain ⟨z, rfl, hz2⟩ := run_zeroValue hz w
          refine run_val ?_
          unfold Instr.build
          rw [run_bind_ok hz2, run_bind_ok (run_underlying hu w)]
          simp only
          have hpl : ∀ (l : List Field), (∀ f ∈ l, (P.info? f.type).isSome = true) → (l.mapM fun f => do pure (f.offset, ← Go.sizeOf f.type) : Sem (List (Nat × Nat))).run P w = .ok (l.map fun f => (f.offset, P.cellsOf f.type)) w := by
            intro l
            induction l with
            | nil => intro _; rfl
            | cons f l ih =>
              intro hall
              rw [List.mapM_cons, run_bind_ok (a := (f.offset, P.cellsOf f.type)) (w' := w) (by rw [run_bind_ok (run_sizeOf (hall f (List.mem_cons_self ..)) w)]; rfl), run_bind_ok (ih fun g hg => hall g (List.mem_cons_of_mem _ hg))]
              rfl
          have hall : ∀ f ∈ fs.toList, (P.info? f.type).isSome = true := hcs1
          have hm : (fs.mapM fun f => do pure (f.offset, ← Go.sizeOf f.type) : Sem (Array (Nat × Nat))).run P w = .ok (fs.toList.map fun f => (f.offset, P.cellsOf f.type)).toArray w := by
            rw [Array.mapM_eq_mapM_toList]
            rw [show (List.toArray <$> (fs.toList.mapM fun f => do pure (f.offset, ← Go.sizeOf f.type)) : Sem (Array (Nat × Nat))) = ((fs.toList.mapM fun f => do pure (f.offset, ← Go.sizeOf f.type)) >>= fun l => pure l.toArray) from rfl]
            rw [run_bind_ok (hpl fs.toList hall)]; rfl
          rw [run_bind_ok hm]
          have hfl := fill_fillL (fun i => (fs.toList.map fun f => (f.offset, P.cellsOf f.type))[i]?) (parts.toList.map fun x => (x.1, ρ x.2)) z.cells.toList
          have hpt : (parts.map fun (i, x) => (i, ρ x)).toList = parts.toList.map fun x => (x.1, ρ x.2) := by simp
          simp only [List.getElem?_toArray]
          rw [hpt]
          rw [Array.toArray_toList] at hfl
          rw [hfl, hcs2]
          rfl
        · cases h
      · cases h
    · cases h
  case call c =>
    obtain ⟨callee, args, ats⟩ := c
    cases callee <;> (try (cases h; done))
    rename_i b
    cases b <;> (try (cases h; done))
    simp only at h
    split at h
    · rename_i x t hx ht
      obtain rfl : args = #[x] := Array.ext' hx
      obtain rfl : ats = #[t] := Array.ext' ht
      rw [run_bind_ok (a := { target := .builtin .len #[t] ty (#[x].map fun | .const _ => true | _ => false), args := #[ρ x] }) (w' := w) (by simp [resolve]; cases x <;> rfl)]
      simp only [invoke, builtin]
      exact run_val (slen_sound h w)
    · cases h
end

section
variable {P : Program} {n : Nat} {ops : Array Oper} {rest : List Oper} {φ : Fr} {D : PH} {As : List Assert} {Q : Exit → Act → World → Prop} {K : Fr → Prop}

theorem qv_scal {o : Oper} {v : Value} (h : scal P o (ev n φ) = some v) : QV P n o φ D As v := fun w _ => scal_sound h w

/-- One operation that only reckons (or one that is not wanted). -/
def step1 (P : Program) (n : Nat) (ops : Array Oper) (φ : Fr) (o : Oper) (v : Value) : Prop := (want n φ ops o = true ∧ scal P o (ev n φ) = some v) ∨ (want n φ ops o = false ∧ v = undef)
/-- The value of one such operation, for the kernel to reckon. -/
def sval (P : Program) (n : Nat) (ops : Array Oper) (φ : Fr) (o : Oper) : Option Value := match want n φ ops o with | true => scal P o (ev n φ) | false => some undef
theorem ql_s {d : Nat} {op : Op} {t : TypeId} {pos : String} {aft : Array Edge} {g : Option (Nat × Bool)} (v : Value) (h : sval P n ops φ ⟨some d, op, t, pos, aft, g⟩ = some v)
    (k : QL P n ops D As rest (upd φ d v) K) : QL P n ops D As (⟨some d, op, t, pos, aft, g⟩ :: rest) φ K := by
  unfold sval at h
  cases hw : want n φ ops ⟨some d, op, t, pos, aft, g⟩ with
  | true => rw [hw] at h; exact ql_op hw (qv_scal h) k
  | false => rw [hw] at h; obtain rfl := Option.some.inj h; exact ql_skip hw k
theorem l_s {d : Nat} {op : Op} {t : TypeId} {pos : String} {aft : Array Edge} {g : Option (Nat × Bool)} (v : Value) (h : sval P n ops φ ⟨some d, op, t, pos, aft, g⟩ = some v)
    (k : SimL P n ops rest (upd φ d v) D As Q) : SimL P n ops (⟨some d, op, t, pos, aft, g⟩ :: rest) φ D As Q := by
  unfold sval at h
  cases hw : want n φ ops ⟨some d, op, t, pos, aft, g⟩ with
  | true =>
    rw [hw] at h
    exact l_op hw (QV.opW (K := fun v' D' As' => v' = v ∧ D' = D ∧ As' = As) (qv_scal h) ⟨rfl, rfl, rfl⟩) (by rintro _ _ _ ⟨rfl, rfl, rfl⟩; exact k)
  | false => rw [hw] at h; obtain rfl := Option.some.inj h; exact l_skip hw k
end
end Sx
