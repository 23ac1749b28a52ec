/- Own library: the plain laws' tools for texts: bytes of strings, numerals, pieces. No program in sight. -/
import Derived.Test.YteebpnooijknoaaDoorPl
import Derived.Test.YteebpnooijknoaaDoorSxGiv
import Derived.Lib.AtoiAllCases
import Derived.Lib.ItoaMem
import Derived.Lib.ItoaLen
namespace Sx
open Go
set_option linter.all false

/-- A string's bytes. -/
def bl (s : ByteArray) : List UInt8 := s.data.toList
theorem bl_inj {a b : ByteArray} (h : bl a = bl b) : a = b := by
  obtain ⟨a⟩ := a; obtain ⟨b⟩ := b
  unfold bl at h
  exact congrArg ByteArray.mk (Array.toList_inj.1 h)
theorem bl_size (s : ByteArray) : s.size = (bl s).length := Lib.size_eq s
theorem bl_app (a b : ByteArray) : bl (a ++ b) = bl a ++ bl b := by unfold bl; simp
theorem strEq_bl (a b : ByteArray) : strEq a b = true ↔ bl a = bl b := by
  unfold strEq bl
  rw [Lib.toList_data, Lib.toList_data, beq_iff_eq]
theorem strEq_false (a b : ByteArray) : strEq a b = false ↔ bl a ≠ bl b := by
  rw [Ne, ← strEq_bl]; cases strEq a b <;> simp
theorem strAdd_ok {a b : ByteArray} (h : (bl a).length + (bl b).length ≤ 2 ^ 62) : strAdd a b = some (a ++ b) := by
  unfold strAdd
  rw [if_pos]
  rw [bl_size, bl_size]; exact h
theorem strIdx_ok {s : ByteArray} {i : Nat} {b : UInt8} (h : (bl s)[i]? = some b) : strIdx s (i : Int) = some b := by
  unfold strIdx
  rw [if_pos (by omega)]
  have : ((i : Int)).toNat = i := by omega
  rw [this]
  have hl : i < s.size := by
    rw [bl_size]
    rcases Nat.lt_or_ge i (bl s).length with hl | hl
    · exact hl
    · rw [List.getElem?_eq_none hl] at h; cases h
  unfold bl at h
  rw [Array.getElem?_toList] at h
  exact h
theorem strSlc_ok {s : ByteArray} {i : Nat} (h : i ≤ (bl s).length) : ∃ z, strSlc s (i : Int) (s.size : Int) = some z ∧ bl z = (bl s).drop i := by
  unfold strSlc
  rw [if_pos ⟨by omega, by rw [bl_size]; omega, by omega⟩]
  refine ⟨_, rfl, ?_⟩
  unfold bl at h ⊢
  rw [Lib.extract_data]
  have e1 : ((i : Int)).toNat = i := by omega
  have e2 : ((s.size : Int)).toNat = s.data.toList.length := by rw [Lib.size_eq]; omega
  rw [e1, e2]
  exact List.take_of_length_le (by rw [List.length_drop]; omega)
theorem strSlc_head {s : ByteArray} {i : Nat} (h : i ≤ (bl s).length) : ∃ z, strSlc s 0 (i : Int) = some z ∧ bl z = (bl s).take i := by
  unfold strSlc
  rw [if_pos ⟨by omega, by omega, by rw [bl_size]; omega⟩]
  refine ⟨_, rfl, ?_⟩
  unfold bl
  rw [Lib.extract_data]
  have e1 : ((0 : Int)).toNat = 0 := rfl
  have e2 : ((i : Int)).toNat = i := by omega
  rw [e1, e2]; rfl

/-! ### Numerals -/
def digB (c : UInt8) : Prop := 48 ≤ c.toNat ∧ c.toNat ≤ 57
theorem dig_back {c : UInt8} (h : digB c) : UInt8.ofNat (48 + (c.toNat - 48)) = c := by
  unfold digB at h
  rw [show 48 + (c.toNat - 48) = c.toNat by omega]
  exact UInt8.ofNat_toNat
theorem parse_dec : ∀ (r : List UInt8) (acc u : Nat), 1 ≤ acc → Lib.parseUint10 acc r = .ok u → Lib.decDigits u = Lib.decDigits acc ++ r
  | [], acc, u, _, h => by
    simp only [Lib.parseUint10] at h
    injection h with h; subst h; simp
  | c :: r, acc, u, ha, h => by
    simp only [Lib.parseUint10] at h
    split at h
    · rename_i hd
      split at h
      · cases h
      · split at h
        · cases h
        · have ih := parse_dec r (acc * 10 + (c.toNat - 48)) u (by omega) h
          rw [ih, Lib.decDigits, dif_neg (by omega)]
          have e1 : (acc * 10 + (c.toNat - 48)) / 10 = acc := by omega
          have e2 : (acc * 10 + (c.toNat - 48)) % 10 = c.toNat - 48 := by omega
          rw [e1, e2, dig_back hd, List.append_assoc]; rfl
    · cases h
/-- A numeral without superfluous zeros is the numeral of its value. -/
theorem parse_canon {c : UInt8} {r : List UInt8} {u : Nat} (hz : c.toNat ≠ 48 ∨ r = []) (h : Lib.parseMag (c :: r) = .ok u) : Lib.decDigits u = c :: r ∧ (c.toNat ≠ 48 → 1 ≤ u) := by
  unfold Lib.parseMag at h
  rw [if_neg (by simp)] at h
  simp only [Lib.parseUint10] at h
  split at h
  · rename_i hd
    rw [if_neg (by omega), if_neg (by omega)] at h
    by_cases h48 : c.toNat = 48
    · rcases hz with hz | rfl
      · exact absurd h48 hz
      · simp only [Lib.parseUint10] at h
        injection h with h
        have hu : u = 0 := by omega
        subst hu
        refine ⟨?_, fun hc => absurd h48 hc⟩
        rw [Lib.decDigits_one (by omega)]
        have hc : UInt8.ofNat (48 + (c.toNat - 48)) = c := dig_back hd
        rw [h48] at hc
        rw [← hc]
    · have hd1 : Lib.decDigits (0 * 10 + (c.toNat - 48)) = [c] := by
        have e : 0 * 10 + (c.toNat - 48) = c.toNat - 48 := by omega
        rw [e, Lib.decDigits_one (by omega), dig_back hd]
      have k := parse_dec r (0 * 10 + (c.toNat - 48)) u (by omega) h
      rw [hd1] at k
      refine ⟨k, fun _ => ?_⟩
      rcases Nat.eq_zero_or_pos u with h0 | h0
      · subst h0
        rw [Lib.decDigits_one (by omega)] at k
        injection k with k1 k2
        exact absurd (by rw [← k1]; rfl) h48
      · exact h0
  · cases h
theorem atoi_canon_pos {c : UInt8} {r : List UInt8} {n : Int} (hd : digB c) (hz : c.toNat ≠ 48 ∨ r = []) (h : Lib.atoiAll (c :: r) = .ok n) : Lib.itoa n = c :: r ∧ 0 ≤ n := by
  unfold digB at hd
  rw [Lib.atoiAll_plain c r (by omega) (by omega)] at h
  cases hm : Lib.parseMag (c :: r) with
  | ok u =>
    rw [hm] at h
    simp only [Lib.signless] at h
    split at h
    · cases h
    · injection h with h
      subst h
      refine ⟨?_, by omega⟩
      rw [Lib.itoa_nonneg]
      exact (parse_canon hz hm).1
  | _ => rw [hm] at h; cases h
theorem atoi_canon_neg {c : UInt8} {r : List UInt8} {n : Int} (hd : digB c) (hz : c.toNat ≠ 48) (h : Lib.atoiAll (45 :: c :: r) = .ok n) : Lib.itoa n = 45 :: c :: r := by
  rw [Lib.atoiAll_minus] at h
  cases hm : Lib.parseMag (c :: r) with
  | ok u =>
    rw [hm] at h
    simp only [Lib.signed] at h
    split at h
    · cases h
    · injection h with h
      subst h
      have k := parse_canon (.inl hz) hm
      rw [Lib.itoa_neg u (k.2 hz), k.1]
  | _ => rw [hm] at h; cases h
theorem atoiE_true {l : List UInt8} {n : Int} (h : (atoiE l).2 = true) (hn : (atoiE l).1 = n) : Lib.atoiAll l = .ok n := by
  unfold atoiE at h hn
  cases hv : Lib.atoiAll l with
  | ok v => rw [hv] at hn; exact congrArg _ hn
  | range => rw [hv] at h; cases h
  | _ => rw [hv] at h; cases h

/-! ### Pieces -/
def joinSp : List (List UInt8) → List UInt8
  | [] => []
  | x :: l => x ++ (l.map fun p => 32 :: p).flatten
theorem joinSp_cons (x : List UInt8) (l : List (List UInt8)) (h : l ≠ []) : joinSp (x :: l) = x ++ 32 :: joinSp l := by
  cases l with
  | nil => exact absurd rfl h
  | cons y l => simp [joinSp]
theorem splitK_ne (sep : List UInt8) (k : Nat) (s : List UInt8) : Lib.splitK sep 0 k s ≠ [] := by
  cases k with
  | zero => simp [Lib.splitK]
  | succ k => unfold Lib.splitK; split <;> simp
theorem joinSp_splitK : ∀ (k : Nat) (s : List UInt8), joinSp (Lib.splitK [32] 0 k s) = s
  | 0, s => by simp [Lib.splitK, joinSp]
  | k + 1, s => by
    unfold Lib.splitK
    split
    · simp [joinSp]
    · rename_i h
      rw [joinSp_cons _ _ (splitK_ne _ _ _), joinSp_splitK k]
      rcases Lib.index_spec s [32] with ⟨h1, _⟩ | ⟨i, h1, h2, h3, _⟩
      · rw [h1] at h; exact absurd rfl h
      · rw [h1]
        have e : ((i : Int)).toNat = i := by omega
        rw [e]
        have hc := Lib.occAt_head (c := 32) (t := []) rfl h3
        simp only [Nat.add_zero, List.length_singleton]
        have hi : i < s.length := by
          rcases Nat.lt_or_ge i s.length with hl | hl
          · exact hl
          · rw [List.getElem?_eq_none hl] at hc; cases hc
        have hx : s[i] = 32 := by rw [List.getElem?_eq_getElem hi] at hc; exact Option.some.inj hc
        have := List.take_append_drop i s
        rw [List.drop_eq_getElem_cons hi, hx] at this
        exact this
theorem split_sp {s : ByteArray} (h : s.size ≤ 4194304) : ∃ r, splitP s (⟨#[32]⟩ : ByteArray) = some r ∧ joinSp (r.map bl) = bl s ∧ r ≠ [] ∧ r.length ≤ s.size + 1 := by
  refine ⟨_, by unfold splitP; rw [if_pos ⟨by omega, by decide⟩], ?_, ?_, ?_⟩
  · have h1 := Lib.splitB_data (⟨#[32]⟩ : ByteArray) 0 (Lib.countB s ⟨#[32]⟩) s
    unfold bl
    rw [show (fun s : ByteArray => s.data.toList) = (fun x : ByteArray => x.data.toList) from rfl] 
    rw [h1]
    exact joinSp_splitK _ _
  · intro h0
    have h1 := Lib.splitB_all (⟨#[32]⟩ : ByteArray) (by decide) 0 _ s rfl
    rw [h0] at h1; cases h1
  · have h1 := Lib.splitB_all (⟨#[32]⟩ : ByteArray) (by decide) 0 _ s rfl
    have h2 := Lib.countB_le (⟨#[32]⟩ : ByteArray) (by decide) s.size s (Nat.le_refl _)
    omega
end Sx
