/- Own text: singles that are heights: the program's checks and the document's. -/
import Derived.Test.YthibohbaaljnkaaPl
import Derived.Test.YthibohbaaljnkaaPu
namespace Go.Proofs.Ythibohbaaljnkaa
open Sx
set_option linter.all false

def finB (v : Nat) : Bool := fge .f32 v 4286578687 && fle .f32 v 2139095039
def hgtB (v : Nat) : Bool := fge .f32 v 3380609024 && fle .f32 v 1233125376
def firstE (p : Nat → Bool) (e : Int) (l : List Nat) : Option Int := l.findSome? fun v => if p v then none else some e
def numE (l : List Nat) : Int := match firstE finB 2 l with | some e => e | none => match firstE hgtB 3 l with | some e => e | none => 0

theorem firstE_none {p : Nat → Bool} {e : Int} {l : List Nat} : firstE p e l = none ↔ ∀ v ∈ l, p v = true := by
  unfold firstE
  rw [List.findSome?_eq_none_iff]
  constructor
  · intro h v hv
    have := h v hv
    cases hp : p v with
    | true => rfl
    | false => rw [hp] at this; simp at this
  · intro h v hv
    rw [h v hv]; rfl
theorem firstE_some {p : Nat → Bool} {e e' : Int} {l : List Nat} (h : firstE p e l = some e') : e' = e := by
  unfold firstE at h
  rw [List.findSome?_eq_some_iff] at h
  obtain ⟨l1, a, l2, _, h, _⟩ := h
  split at h
  · cases h
  · exact (Option.some.inj h).symm

theorem hgtB_iff {v : Nat} : hgtB v = true ↔ Bd v (-1048576) 1048576 := by
  unfold hgtB
  by_cases hn : NaNo v
  · rw [fge_eq hn nn_nh, fle_eq hn nn_h, W_nh, W_h]
    simp only [Bool.and_eq_true, decide_eq_true_eq]
    constructor
    · intro ⟨h1, h2⟩
      refine ⟨fi_iff.2 ⟨?_, ?_⟩, h1, h2⟩ <;> · have := U32_pos; omega
    · intro h; exact h.2
  · rw [fge_nan (.inl hn)]
    simp only [Bool.false_and, Bool.false_eq_true, false_iff]
    intro h; exact hn h.nn
theorem finB_iff {v : Nat} : finB v = true ↔ Fi v := by
  unfold finB
  by_cases hn : NaNo v
  · rw [fge_eq hn nn_nm, fle_eq hn nn_m, fi_max hn]
    simp only [Bool.and_eq_true, decide_eq_true_eq]
  · rw [fge_nan (.inl hn)]
    simp only [Bool.false_and, Bool.false_eq_true, false_iff]
    intro h; exact hn h.nn
theorem hgtB_fin {v : Nat} (h : hgtB v = true) : finB v = true := finB_iff.2 (hgtB_iff.1 h).fi
theorem fin_neg (v : Nat) : (fne .f32 v v || (fgt .f32 v 2139095039 || flt .f32 v 4286578687)) = !finB v := by
  unfold finB
  by_cases hn : NaNo v
  · rw [fne_eq hn hn, fgt_eq hn nn_m, flt_eq hn nn_nm, fge_eq hn nn_nm, fle_eq hn nn_m]
    rw [Bool.eq_iff_iff]
    simp only [ne_eq, not_true_eq_false, decide_false, Bool.false_or, Bool.or_eq_true, decide_eq_true_eq, Bool.not_eq_true', Bool.and_eq_false_iff, decide_eq_false_iff_not, Int.not_le]
    omega
  · rw [fne_nan (.inl hn), fge_nan (.inl hn)]; rfl
theorem hgt_neg {v : Nat} (h : finB v = true) : (fgt .f32 v 1233125376 || flt .f32 v 3380609024) = !hgtB v := by
  have hn := (finB_iff.1 h).nn
  unfold hgtB
  rw [fgt_eq hn nn_h, flt_eq hn nn_nh, fge_eq hn nn_nh, fle_eq hn nn_h]
  rw [Bool.eq_iff_iff]
  simp only [Bool.or_eq_true, decide_eq_true_eq, Bool.not_eq_true', Bool.and_eq_false_iff, decide_eq_false_iff_not, Int.not_le]
  omega
theorem hgt_neg' (v : Nat) (hn : NaNo v) : (fgt .f32 v 1233125376 || flt .f32 v 3380609024) = !hgtB v := by
  unfold hgtB
  rw [fgt_eq hn nn_h, flt_eq hn nn_nh, fge_eq hn nn_nh, fle_eq hn nn_h]
  rw [Bool.eq_iff_iff]
  simp only [Bool.or_eq_true, decide_eq_true_eq, Bool.not_eq_true', Bool.and_eq_false_iff, decide_eq_false_iff_not, Int.not_le]
  omega

theorem numE_zero {l : List Nat} : numE l = 0 ↔ ∀ v ∈ l, hgtB v = true := by
  unfold numE
  cases h1 : firstE finB 2 l with
  | some e =>
    have he := firstE_some h1
    simp only
    constructor
    · intro h; omega
    · intro h
      have : firstE finB 2 l = none := firstE_none.2 fun v hv => hgtB_fin (h v hv)
      rw [this] at h1; cases h1
  | none =>
    simp only
    cases h2 : firstE hgtB 3 l with
    | some e =>
      have he := firstE_some h2
      simp only
      constructor
      · intro h; omega
      · intro h
        have : firstE hgtB 3 l = none := firstE_none.2 h
        rw [this] at h2; cases h2
    | none => simp only [true_iff]; exact firstE_none.1 h2
theorem numE_cases (l : List Nat) : numE l = 0 ∨ numE l = 2 ∨ numE l = 3 := by
  unfold numE
  cases h1 : firstE finB 2 l with
  | some e => simp only; have := firstE_some h1; omega
  | none =>
    simp only
    cases h2 : firstE hgtB 3 l with
    | some e => simp only; have := firstE_some h2; omega
    | none => simp

theorem Heights_eq (l : List Nat) : field_Heights_p l = some (numE l) := by
  unfold field_Heights_p numE
  rw [forI_first l (fun v => if finB v then none else some 2) _ (by
    intro i x hx
    rw [idx_get hx, bnd_def]
    unfold field_finite_p
    rw [bnd_def]
    show (if (!finB x) = true then _ else _) = _
    cases finB x <;> rfl)]
  rw [bnd_def]
  unfold firstE
  cases List.findSome? (fun v => if finB v then none else some (2 : Int)) l with
  | some e => rfl
  | none =>
    simp only
    rw [forI_first l (fun v => if hgtB v then none else some 3) _ (by
      intro i x hx
      rw [idx_get hx, bnd_def]
      unfold field_height_p
      rw [bnd_def]
      show (if (!hgtB x) = true then _ else _) = _
      cases hgtB x <;> rfl)]
    rw [bnd_def]
    cases List.findSome? (fun v => if hgtB v then none else some (3 : Int)) l <;> rfl

theorem NumberError_eq (l : List Nat) : tarnref2_NumberError_p l = some (numE l) := by
  unfold tarnref2_NumberError_p numE
  rw [forI_first l (fun v => if finB v then none else some 2) _ (by
    intro i x hx
    rw [idx_get hx, bnd_def, fin_neg]
    cases finB x <;> rfl)]
  rw [bnd_def]
  cases h1 : firstE finB 2 l with
  | some e => unfold firstE at h1; rw [h1]
  | none =>
    have hf := firstE_none.1 h1
    unfold firstE at h1
    rw [h1]
    simp only
    rw [forI_first l (fun v => if hgtB v then none else some 3) _ (by
      intro i x hx
      rw [idx_get hx, bnd_def, hgt_neg (hf x (List.mem_of_getElem? hx))]
      cases hgtB x <;> rfl)]
    rw [bnd_def]
    unfold firstE
    cases List.findSome? (fun v => if hgtB v then none else some (3 : Int)) l <;> rfl
end Go.Proofs.Ythibohbaaljnkaa
