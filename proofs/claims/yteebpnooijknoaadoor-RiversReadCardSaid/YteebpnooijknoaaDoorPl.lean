/- Own library: the plain laws' tools: loops that look for a first element, loops with invariants, whole numbers without overflow. No program in sight. -/
import Derived.Test.YteebpnooijknoaaDoorFlBd
import Derived.Test.YteebpnooijknoaaDoorSxSaid
namespace Sx
open Go
set_option linter.all false

theorem bnd_def {α β : Type} (x : α) (f : α → Option β) : bnd (some x) f = f x := rfl
theorem idx_nat {α : Type} (l : List α) (i : Nat) : idx l (i : Int) = l[i]? := by
  unfold idx; rw [if_pos (by omega)]; simp
theorem idx_get {α : Type} {l : List α} {i : Nat} {x : α} (h : l[i]? = some x) : idx l (i : Int) = some x := by rw [idx_nat, h]
theorem idx_int {α : Type} {l : List α} {i : Int} (h0 : 0 ≤ i) : idx l i = l[i.toNat]? := by unfold idx; rw [if_pos h0]

/-! ### Loops -/
theorem forI_from {α E : Type} (l : List α) (g : α → Option E) (body : Nat → Unit → Option (Ctl Unit E)) (hb : ∀ i x, l[i]? = some x → body i () = some (match g x with | none => .go () | some e => .out e)) :
    ∀ (j i : Nat), i + j = l.length → forI body j i () = some (match (l.drop i).findSome? g with | none => .go () | some e => .out e)
  | 0, i, h => by
    rw [List.drop_of_length_le (by omega)]; rfl
  | j + 1, i, h => by
    have hi : i < l.length := by omega
    unfold forI
    rw [hb i l[i] (List.getElem?_eq_getElem hi), List.drop_eq_getElem_cons hi, List.findSome?_cons]
    cases g l[i] with
    | none => exact forI_from l g body hb j (i + 1) (by omega)
    | some e => rfl
/-- A loop that looks for the first element of which something is to be told. -/
theorem forI_first {α E : Type} (l : List α) (g : α → Option E) (body : Nat → Unit → Option (Ctl Unit E)) (hb : ∀ i x, l[i]? = some x → body i () = some (match g x with | none => .go () | some e => .out e)) :
    forI body l.length 0 () = some (match l.findSome? g with | none => .go () | some e => .out e) := by
  have := forI_from l g body hb l.length 0 (by omega)
  rwa [List.drop_zero] at this

/-- A loop of rounds that never leave it, by an invariant. -/
theorem forS_inv {S : Type} {body : Nat → S → Option S} (I : Nat → S → Prop) : ∀ (j i : Nat) (s : S), I i s → (∀ k s, i ≤ k → k < i + j → I k s → ∃ s', body k s = some s' ∧ I (k + 1) s') → ∃ s', forS body j i s = some s' ∧ I (i + j) s'
  | 0, i, s, h, _ => ⟨s, rfl, h⟩
  | j + 1, i, s, h, hr => by
    obtain ⟨s', h1, h2⟩ := hr i s (Nat.le_refl _) (by omega) h
    obtain ⟨s'', h3, h4⟩ := forS_inv I j (i + 1) s' h2 fun k s hk hk' hI => hr k s (by omega) (by omega) hI
    refine ⟨s'', ?_, by rw [show i + (j + 1) = i + 1 + j by omega]; exact h4⟩
    unfold forS
    rw [h1]; exact h3
theorem forS_inv0 {S : Type} {body : Nat → S → Option S} (I : Nat → S → Prop) {n : Nat} {s : S} (h : I 0 s) (hr : ∀ k s, k < n → I k s → ∃ s', body k s = some s' ∧ I (k + 1) s') : ∃ s', forS body n 0 s = some s' ∧ I n s' := by
  have := forS_inv I n 0 s h fun k s _ hk hI => hr k s (by omega) hI
  rwa [Nat.zero_add] at this
/-- Two loops whose rounds do alike. -/
theorem forS_congr {S : Type} {b c : Nat → S → Option S} : ∀ (j i : Nat) (s : S), (∀ k s, i ≤ k → k < i + j → b k s = c k s) → forS b j i s = forS c j i s
  | 0, i, s, _ => rfl
  | j + 1, i, s, h => by
    unfold forS
    rw [h i s (Nat.le_refl _) (by omega)]
    cases c i s with
    | none => rfl
    | some s' => exact forS_congr j (i + 1) s' fun k s hk hk' => h k s (by omega) (by omega)
/-- A loop with exits, by an invariant. -/
theorem forI_inv {S E : Type} {body : Nat → S → Option (Ctl S E)} (I : Nat → S → Prop) (Q : E → Prop) : ∀ (j i : Nat) (s : S), I i s → (∀ k s, i ≤ k → k < i + j → I k s → (∃ s', body k s = some (.go s') ∧ I (k + 1) s') ∨ ∃ e, body k s = some (.out e) ∧ Q e) →
    (∃ s', forI body j i s = some (.go s') ∧ I (i + j) s') ∨ ∃ e, forI body j i s = some (.out e) ∧ Q e
  | 0, i, s, h, _ => .inl ⟨s, rfl, h⟩
  | j + 1, i, s, h, hr => by
    rcases hr i s (Nat.le_refl _) (by omega) h with ⟨s', h1, h2⟩ | ⟨e, h1, h2⟩
    · rcases forI_inv I Q j (i + 1) s' h2 fun k s hk hk' hI => hr k s (by omega) (by omega) hI with ⟨s'', h3, h4⟩ | ⟨e, h3, h4⟩
      · refine .inl ⟨s'', ?_, by rw [show i + (j + 1) = i + 1 + j by omega]; exact h4⟩
        unfold forI; rw [h1]; exact h3
      · refine .inr ⟨e, ?_, h4⟩
        unfold forI; rw [h1]; exact h3
    · refine .inr ⟨e, ?_, h2⟩
      unfold forI; rw [h1]
theorem forI_inv0 {S E : Type} {body : Nat → S → Option (Ctl S E)} (I : Nat → S → Prop) (Q : E → Prop) {n : Nat} {s : S} (h : I 0 s) (hr : ∀ k s, k < n → I k s → (∃ s', body k s = some (.go s') ∧ I (k + 1) s') ∨ ∃ e, body k s = some (.out e) ∧ Q e) :
    (∃ s', forI body n 0 s = some (.go s') ∧ I n s') ∨ ∃ e, forI body n 0 s = some (.out e) ∧ Q e := by
  have := forI_inv I Q n 0 s h fun k s _ hk hI => hr k s (by omega) hI
  rwa [Nat.zero_add] at this
theorem forI_congr {S E : Type} {b c : Nat → S → Option (Ctl S E)} (I : Nat → S → Prop) : ∀ (j i : Nat) (s : S), I i s → (∀ k s, i ≤ k → k < i + j → I k s → b k s = c k s ∧ ∀ s', c k s = some (.go s') → I (k + 1) s') → forI b j i s = forI c j i s
  | 0, i, s, _, _ => rfl
  | j + 1, i, s, hI, h => by
    obtain ⟨h1, h2⟩ := h i s (Nat.le_refl _) (by omega) hI
    unfold forI
    rw [h1]
    cases hc : c i s with
    | none => rfl
    | some x =>
      cases x with
      | go s' => exact forI_congr I j (i + 1) s' (h2 s' hc) fun k s hk hk' => h k s (by omega) (by omega)
      | out e => rfl
/-- A loop that ends: m falls in each round. -/
theorem iter_inv {S E : Type} {body : S → Option (Ctl S E)} (I : S → Prop) (m : S → Nat) (Q : E → Prop) : ∀ (k : Nat) (s : S), m s < k → I s → (∀ s, I s → (∃ s', body s = some (.go s') ∧ I s' ∧ m s' < m s) ∨ ∃ e, body s = some (.out e) ∧ Q e) → ∃ e, iter body k s = some e ∧ Q e
  | 0, s, h, _, _ => by omega
  | k + 1, s, h, hI, hr => by
    unfold iter
    rcases hr s hI with ⟨s', h1, h2, h3⟩ | ⟨e, h1, h2⟩
    · rw [h1]; exact iter_inv I m Q k s' (by omega) h2 hr
    · rw [h1]; exact ⟨e, rfl, h2⟩
theorem loopP_inv {S E : Type} {body : S → Option (Ctl S E)} (I : S → Prop) (m : S → Nat) (Q : E → Prop) {s : S} (hm : m s < fuel) (hI : I s) (hr : ∀ s, I s → (∃ s', body s = some (.go s') ∧ I s' ∧ m s' < m s) ∨ ∃ e, body s = some (.out e) ∧ Q e) : ∃ e, loopP body s = some e ∧ Q e :=
  iter_inv I m Q fuel s hm hI hr
theorem lt_fuel {n : Nat} (h : n < 2 ^ 199) : n < fuel := by
  have : fuel = 2 ^ 199 * 2 := rfl
  omega

/-! ### A program that ends, with a value of which something is known -/
def Ok {α : Type} (m : Option α) (Q : α → Prop) : Prop := ∃ x, m = some x ∧ Q x
theorem ok_some {α : Type} {x : α} {Q : α → Prop} (h : Q x) : Ok (some x) Q := ⟨x, rfl, h⟩
theorem ok_of {α : Type} {m : Option α} {x : α} {Q : α → Prop} (e : m = some x) (h : Q x) : Ok m Q := ⟨x, e, h⟩
theorem Ok.mono {α : Type} {m : Option α} {P Q : α → Prop} (h : Ok m P) (hpq : ∀ x, P x → Q x) : Ok m Q := let ⟨x, e, p⟩ := h; ⟨x, e, hpq x p⟩
theorem ok_bnd {α β : Type} {m : Option α} {f : α → Option β} {P : α → Prop} {Q : β → Prop} (h : Ok m P) (hf : ∀ x, P x → Ok (f x) Q) : Ok (bnd m f) Q := by
  obtain ⟨x, rfl, p⟩ := h
  exact hf x p
theorem ok_bnd_eq {α β : Type} {m : Option α} {f : α → Option β} {x : α} {Q : β → Prop} (h : m = some x) (hf : Ok (f x) Q) : Ok (bnd m f) Q := by
  subst h; exact hf
theorem ok_forS {S : Type} {body : Nat → S → Option S} (I : Nat → S → Prop) {n : Nat} {s : S} (h : I 0 s) (hr : ∀ k s, k < n → I k s → Ok (body k s) (I (k + 1))) : Ok (forS body n 0 s) (I n) := forS_inv0 I h hr
theorem ok_loopP {S E : Type} {body : S → Option (Ctl S E)} (I : S → Prop) (m : S → Nat) {Q : E → Prop} {s : S} (hm : m s < 2 ^ 199) (hI : I s)
    (hr : ∀ s, I s → Ok (body s) (fun c => match c with | .go s' => I s' ∧ m s' < m s | .out e => Q e)) : Ok (loopP body s) Q := by
  refine loopP_inv I m Q (lt_fuel hm) hI fun s hs => ?_
  obtain ⟨c, h1, h2⟩ := hr s hs
  cases c with
  | go s' => exact .inl ⟨s', h1, h2⟩
  | out e => exact .inr ⟨e, h1, h2⟩
theorem ok_forI {S E : Type} {body : Nat → S → Option (Ctl S E)} (I : Nat → S → Prop) (Q : E → Prop) {n : Nat} {s : S} (h : I 0 s) (hr : ∀ k s, k < n → I k s → Ok (body k s) (fun c => match c with | .go s' => I (k + 1) s' | .out e => Q e)) :
    Ok (forI body n 0 s) (fun c => match c with | .go s' => I n s' | .out e => Q e) := by
  rcases forI_inv0 I Q h fun k s hk hI => (by
    obtain ⟨c, h1, h2⟩ := hr k s hk hI
    cases c with
    | go s' => exact .inl ⟨s', h1, h2⟩
    | out e => exact .inr ⟨e, h1, h2⟩) with ⟨s', h1, h2⟩ | ⟨e, h1, h2⟩
  · exact ⟨_, h1, h2⟩
  · exact ⟨_, h1, h2⟩
theorem ok_ite {α : Type} {c : Prop} [Decidable c] {x y : Option α} {Q : α → Prop} (ht : c → Ok x Q) (hf : ¬ c → Ok y Q) : Ok (if c then x else y) Q := by
  by_cases h : c
  · rw [if_pos h]; exact ht h
  · rw [if_neg h]; exact hf h
theorem ok_idx {α β : Type} {l : List α} {i : Int} {f : α → Option β} {Q : β → Prop} {x : α} (h0 : 0 ≤ i) (hx : l[i.toNat]? = some x) (hf : Ok (f x) Q) : Ok (bnd (idx l i) f) Q := by
  rw [idx_int h0, hx]; exact hf
theorem ok_idxN {α β : Type} {l : List α} {i : Nat} {f : α → Option β} {Q : β → Prop} {x : α} (hx : l[i]? = some x) (hf : Ok (f x) Q) : Ok (bnd (idx l (i : Int)) f) Q := by
  rw [idx_nat, hx]; exact hf

/-! ### Whole numbers -/
theorem i64_wrap {n : Int} (h : -9223372036854775808 ≤ n ∧ n ≤ 9223372036854775807) : IntKind.wrap .i64 n = n := by
  unfold IntKind.wrap; simp [IntKind.bits, IntKind.signed]; omega
theorem addI_eq {a b : Int} (h : -9223372036854775808 ≤ a + b ∧ a + b ≤ 9223372036854775807) : addI a b = a + b := i64_wrap h
theorem subI_eq {a b : Int} (h : -9223372036854775808 ≤ a - b ∧ a - b ≤ 9223372036854775807) : subI a b = a - b := i64_wrap h
theorem mulI_eq {a b : Int} (h : -9223372036854775808 ≤ a * b ∧ a * b ≤ 9223372036854775807) : mulI a b = a * b := i64_wrap h
theorem quoI_eq {a b : Int} (ha : 0 ≤ a) (hb : 0 < b) (h : a ≤ 9223372036854775807) : quoI a b = a / b := by
  unfold quoI
  rw [Int.tdiv_eq_ediv_of_nonneg ha]
  refine i64_wrap ⟨?_, ?_⟩
  · have := Int.ediv_nonneg ha (Int.le_of_lt hb); omega
  · have := Int.ediv_le_self b ha; omega
theorem remI_eq {a b : Int} (ha : 0 ≤ a) : remI a b = a % b := by unfold remI; exact Int.tmod_eq_emod_of_nonneg ha
theorem maxI_eq (a b : Int) : maxI a b = max a b := by unfold maxI; rw [Int.max_def]; split <;> split <;> omega
theorem minI_eq (a b : Int) : minI a b = min a b := by unfold minI; rw [Int.min_def]; split <;> split <;> omega
theorem mul_bound {a b A B : Int} (ha : -A ≤ a ∧ a ≤ A) (hb : -B ≤ b ∧ b ≤ B) : -(A * B) ≤ a * b ∧ a * b ≤ A * B := abs_mul_le ha hb
theorem app_ok {α : Type} {xs ys : List α} (h : xs.length + ys.length ≤ 2 ^ 39) : app xs ys = some (xs ++ ys) := by
  unfold app; rw [if_pos]; exact h
theorem mk2_ok {α : Type} (z : α) {n : Int} (h0 : 0 ≤ n) (h : n ≤ 2 ^ 39) : mk2 z n n = some (List.replicate n.toNat z) := by
  unfold mk2; rw [if_pos ⟨h0, Int.le_refl _, h⟩]
end Sx
