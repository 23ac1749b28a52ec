/- Own library: slices of the code's own: read, lent to calls that only read, laid down before a call. -/
import Derived.Test.YteebpnooijknoaaDoorSxMore
namespace Sx
open Go
variable [WB]
set_option linter.all false

section
variable {P : Program} {n : Nat} {ops : Array Oper} {rest : List Oper} {φ : Fr} {D D0 : PH} {As B R : List Assert} {Q : Exit → Act → World → Prop} {l : OT} {i : Nat}
variable {α : Type} {e : Enc α} {D1 : PH} {E : TypeId} {xs : List α}

omit [WB] in
theorem OwnS.toA {b m cap : Nat} (h : PH) (a : OwnS D1 e E (.slice (some ⟨b, 0, none⟩) m cap) xs h) : OwnA D1 e E b cap xs h := by
  rcases a with ⟨h1, _, _⟩ | ⟨b', cap', h1, a⟩
  · cases h1
  · injection h1 with h1 h2 h3
    injection h1 with h1
    injection h1 with h1
    subst h1; subst h3; exact a
/-- A slice of the code's own that holds something begins at its array's head. -/
theorem c_open {a : Option Addr} {m cap : Nat} {c : Code} (hne : xs ≠ []) (h : ∀ b, a = some ⟨b, 0, none⟩ → SimC P n c φ D (OwnA D1 e E b cap xs :: As) Q) : SimC P n c φ D (OwnS D1 e E (.slice a m cap) xs :: As) Q := fun w hS => by
  obtain ⟨b, cap', hv, hS'⟩ := hS.openS hne
  injection hv with h1 h2 h3
  subst h3
  exact h b h1 w hS'
theorem c_boundS {v : Value} {c : Code} (h : xs.length ≤ 2 ^ 62 → SimC P n c φ D (OwnS D1 e E v xs :: As) Q) : SimC P n c φ D (OwnS D1 e E v xs :: As) Q := fun w hS => by
  obtain ⟨_, _, _, hb⟩ := hS.formS
  exact h hb w hS
theorem c_boundA {b cap : Nat} {c : Code} (h : xs.length ≤ 2 ^ 62 → SimC P n c φ D (OwnA D1 e E b cap xs :: As) Q) : SimC P n c φ D (OwnA D1 e E b cap xs :: As) Q := fun w hS => by
  obtain ⟨_, _, _, hb⟩ := (hS.imp (OwnS.ofA)).formS
  exact h hb w hS
omit [WB] in
theorem IsIdx.own {b m cap : Nat} {j : Int} {z : α} (hm : xs.length = m) (hz : idx xs j = some z) : IsIdx (.slice (some ⟨b, 0, none⟩) m cap) j e.sz b (j.toNat * e.sz) := by
  obtain ⟨h0, hl, _⟩ := idx_some hz
  exact ⟨_, _, _, rfl, h0, by omega, by rw [add_adr, Nat.zero_add]⟩
omit [WB] in
theorem RO.nil_eq {c m : Nat} (h : RO e D (.slice none m c) xs) : xs = [] := by
  obtain ⟨a, cap, h1, _, _, h2⟩ := h
  injection h1 with h1 _ _
  apply Classical.byContradiction
  intro hne
  obtain ⟨_, _, _, _, _, h3, _⟩ := h2 hne
  rw [h3] at h1
  cases h1
omit [WB] in
theorem ne_of_idx {j : Int} {z : α} (hz : idx xs j = some z) : xs ≠ [] := by
  intro h; subst h; obtain ⟨_, hl, _⟩ := idx_some hz; simp at hl
omit [WB] in
theorem ne_of_set {j : Nat} {z : α} {ys : List α} (h : ys = xs.set j z) (hy : ys ≠ []) : xs ≠ [] := by
  intro h0; subst h0; exact hy h
omit [WB] in
theorem len_set {j : Nat} {z : α} {ys : List α} {m : Nat} (h : xs.set j z = ys) (hm : xs.length = m) : ys.length = m := by rw [← h, List.length_set, hm]

theorem SInv.unfr {As : List Assert} {H : World} (k : Nat) (h : SInv D (fr1 k As) H) : SInv D As H := h.perm (fr1_perm k As).symm
omit [WB] in
/-- What is lent to a call that only reads, comes back. -/
theorem SInvH.thaw {v : Value} {H : Array Obj} (hD : PH.le D1 D) (h : SInvH D (OwnS D1 e E v xs :: As) H) : ∃ D', PH.le D D' ∧ RO e D' v xs ∧ SInvH D' As H ∧ ∀ H', SInvH D' As H' → SInvH D (OwnS D1 e E v xs :: As) H' := by
  obtain ⟨hDh, hs, he, hp, hw⟩ := h
  cases hs with
  | nil => simp at he
  | cons x hs =>
    simp only [List.map_cons, List.cons.injEq] at he
    obtain ⟨h1, h2, h3⟩ := hp x (List.mem_cons_self ..)
    rw [he.1] at h1
    have hw' := List.pairwise_cons.1 hw
    refine ⟨D.join x.2, fun b o hb => by simp [PH.join, hb], ?_, ⟨?_, hs, he.2, ?_, hw'.2⟩, ?_⟩
    · rcases h1 with ⟨rfl, rfl, _⟩ | ⟨b, cap, rfl, cs, hx, hl, hc, hb, hr⟩
      · exact RO.nil e _
      · refine ⟨_, cap, rfl, hc, hb, fun _ => ⟨b, 0, cs.toArray, E, (0, 0), rfl, ?_, fun i x hx => ?_⟩⟩
        · have : D b = none := (h3 b).resolve_right (by rw [hx, one_self]; simp)
          simp only [PH.join, this, hx, one_self]
        · rw [Nat.zero_add]
          exact e.mono (PH.le_trans hD (fun b o hb => by simp [PH.join, hb])) (hr i x hx)
    · intro b o hb
      simp only [PH.join] at hb
      cases hDb : D b with
      | none => rw [hDb] at hb; exact h2 b o hb
      | some o' => rw [hDb] at hb; exact hDh b o (by rw [hDb]; exact hb)
    · intro y hy
      obtain ⟨g1, g2, g3⟩ := hp y (List.mem_cons_of_mem _ hy)
      refine ⟨g1, g2, fun b => ?_⟩
      rcases g3 b with hb | hb
      · rcases hw'.1 y hy b with hx | hx
        · exact .inl (by simp [PH.join, hb, hx])
        · exact .inr hx
      · exact .inr hb
    · intro H' hS'
      obtain ⟨hD', hs', he', hp', hw2⟩ := hS'
      refine ⟨fun b o hb => hD' b o (by simp [PH.join, hb]), (OwnS D1 e E v xs, x.2) :: hs', by simp [he'], fun y hy => ?_, ?_⟩
      · rcases List.mem_cons.1 hy with rfl | hy
        · refine ⟨h1, fun b o hb => hD' b o ?_, h3⟩
          have hb' : x.2 b = some o := hb
          have : D b = none := (h3 b).resolve_right (by rw [hb']; simp)
          simp [PH.join, this, hb']
        · obtain ⟨g1, g2, g3⟩ := hp' y hy
          refine ⟨g1, g2, fun b => ?_⟩
          rcases g3 b with hb | hb
          · left
            simp only [PH.join] at hb
            cases hDb : D b with
            | none => rfl
            | some o => rw [hDb] at hb; cases hb
          · exact .inr hb
      · rw [List.pairwise_cons]
        refine ⟨fun y hy b => ?_, hw2⟩
        rcases (hp' y hy).2.2 b with hb | hb
        · simp only [PH.join] at hb
          cases hDb : D b with
          | none => rw [hDb] at hb; exact .inl hb
          | some o => rw [hDb] at hb; cases hb
        · exact .inr hb
theorem SInv.thaw {v : Value} {w : World} (hD : PH.le D1 D) (h : SInv D (OwnS D1 e E v xs :: As) w) : ∃ D', PH.le D D' ∧ RO e D' v xs ∧ SInv D' As w ∧ ∀ w', SInv D' As w' → SInv D (OwnS D1 e E v xs :: As) w' := by
  obtain ⟨⟨G, g1, g2, g3⟩, g4⟩ := h
  obtain ⟨D', h1, h2, h3, h4⟩ := g3.thaw (PH.le_trans hD g1)
  refine ⟨D', PH.le_trans g1 h1, h2, ⟨⟨D', PH.le_refl _, PH.le_trans g2 h1, h3⟩, g4⟩, fun w' h' => ?_⟩
  obtain ⟨⟨G2, k1, k2, k3⟩, k4⟩ := h'
  exact ⟨⟨G, g1, g2, h4 _ (k3.lower k1)⟩, k4⟩

theorem calls_thaw {v r : Value} {f : FuncId} {args : Array Value} {w : World} (hD : PH.le D1 D) (hS : SInv D (OwnS D1 e E v xs :: As) w)
    (h : ∀ D', PH.le D D' → RO e D' v xs → SInv D' As w → Calls P f args w (fun en w' => en = .returned r ∧ SInv D' As w')) : Calls P f args w (fun en w' => en = .returned r ∧ SInv D (OwnS D1 e E v xs :: As) w') := by
  obtain ⟨D', h1, h2, h3, h4⟩ := hS.thaw hD
  exact (h D' h1 h2 h3).mono fun en w' hh => ⟨hh.1, h4 _ hh.2⟩
theorem calls_thawA {b cap m : Nat} {r : Value} {f : FuncId} {args : Array Value} {w : World} (hm : xs.length = m) (hD : PH.le D1 D) (hS : SInv D (OwnA D1 e E b cap xs :: As) w)
    (h : ∀ D', PH.le D D' → RO e D' (.slice (some ⟨b, 0, none⟩) m cap) xs → SInv D' As w → Calls P f args w (fun en w' => en = .returned r ∧ SInv D' As w')) : Calls P f args w (fun en w' => en = .returned r ∧ SInv D (OwnA D1 e E b cap xs :: As) w') := by
  refine (calls_thaw hD (hS.imp (OwnS.ofA' hm)) h).mono fun en w' hh => ⟨hh.1, hh.2.imp OwnS.toA⟩

/-- In a region that draws its order: an own slice is laid down for good just ahead of an operation that changes memory. -/
theorem o_lay {v : Value} {o : Oper} (hk : ops[i]? = some o) (hw : want n φ ops o = true) (hD : PH.le D1 D) (h : ∀ D', PH.le D D' → RO e D' v xs → SimO P n ops Q D0 B (.e i l) φ D' R) : SimO P n ops Q D0 B (.e i l) φ D (OwnS D1 e E v xs :: R) := by
  refine ⟨o, hk, .inl ⟨hw, fun w hS Q' => ?_⟩⟩
  obtain ⟨D', h1, h2, h3⟩ := (hS.perm (pmid _).symm).layS hD
  obtain ⟨o', hk', h⟩ := h D' h1 h2
  rw [hk] at hk'
  obtain rfl := Option.some.inj hk'
  rcases h with ⟨_, h⟩ | ⟨hw', _⟩
  · exact h w h3 Q'
  · rw [hw] at hw'; cases hw'
theorem l_callq {v : Value} {f : FuncId} {args : Array Operand} {ats : Array TypeId} {F : Operand} {cap : Array Value} {vs : List Value} {d : Nat} {ty : TypeId} {pos : String} {aft : Array Edge} {g : Option (Nat × Bool)} (hw : want n φ ops ⟨some d, .call ⟨.value F, args, ats⟩, ty, pos, aft, g⟩ = true) (hF : ev n φ F = .func (.func f) #[] cap) (hrun : ∀ (as : Array Value) (w : World), (callFunc f as).run P w = .ok (.enter f as) w) (hv : args.toList.map (ev n φ) ++ cap.toList = vs)
    (hc : ∀ w : World, SInv D As w → Calls P f vs.toArray w (fun e w' => e = .returned v ∧ SInv D As w')) (k : SimL P n ops rest (upd φ d v) D As Q) : SimL P n ops (⟨some d, .call ⟨.value F, args, ats⟩, ty, pos, aft, g⟩ :: rest) φ D As Q :=
  l_call hw hF hrun hv (fun v' D1 As1 => v' = v ∧ D = D1 ∧ As1 = As) (fun w hS => (hc w hS).mono fun e w' h => ⟨_, _, _, h.1, ⟨rfl, rfl, rfl⟩, h.2⟩) (by rintro _ _ _ ⟨rfl, rfl, rfl⟩; exact k)
theorem o_callq {v : Value} {f : FuncId} {args : Array Operand} {ats : Array TypeId} {F : Operand} {cap : Array Value} {vs : List Value} {d : Nat} {ty : TypeId} {pos : String} {aft : Array Edge} {g : Option (Nat × Bool)} (hk : ops[i]? = some ⟨some d, .call ⟨.value F, args, ats⟩, ty, pos, aft, g⟩) (hw : want n φ ops ⟨some d, .call ⟨.value F, args, ats⟩, ty, pos, aft, g⟩ = true) (hF : ev n φ F = .func (.func f) #[] cap) (hrun : ∀ (as : Array Value) (w : World), (callFunc f as).run P w = .ok (.enter f as) w) (hv : args.toList.map (ev n φ) ++ cap.toList = vs) (hD : PH.le D0 D)
    (hc : ∀ w : World, SInv D (B ++ R) w → Calls P f vs.toArray w (fun e w' => e = .returned v ∧ SInv D (B ++ R) w')) (k : SimO P n ops Q D0 B l (upd φ d v) D R) : SimO P n ops Q D0 B (.e i l) φ D R :=
  o_calle hk hw hF hrun hv (fun v' D1 As1 => v' = v ∧ D = D1 ∧ As1 = R) (fun w hS => (hc w hS).mono fun e w' h => ⟨_, _, _, h.1, ⟨rfl, rfl, rfl⟩, h.2⟩) (by rintro _ _ _ ⟨rfl, rfl, rfl⟩; exact ⟨hD, k⟩)
theorem o_qe {o : Oper} {v : Value} (hk : ops[i]? = some o) (hw : want n φ ops o = true) (hD : PH.le D0 D) (h : QS P n o φ D (B ++ R) v) (kk : SimO P n ops Q D0 B l (updo φ o.dst v) D R) : SimO P n ops Q D0 B (.e i l) φ D R :=
  o_w hk hw (QV.opW h.qv ⟨R, rfl, hD, kk⟩)
end

/-! ### An own slice's place -/
/-- Where an own slice begins, if it holds something. -/
def Beg {α : Type} (a : Option Addr) (b : Nat) (xs : List α) : Prop := a = some ⟨b, 0, none⟩ ∨ (a = none ∧ xs = [])
omit [WB] in
theorem Beg.get {α : Type} {a : Option Addr} {b : Nat} {xs : List α} (h : Beg a b xs) (hne : xs ≠ []) : a = some ⟨b, 0, none⟩ := h.resolve_right (fun h => hne h.2)
omit [WB] in
theorem Beg.set {α : Type} {a : Option Addr} {b j : Nat} {xs ys : List α} {z : α} (hy : xs.set j z = ys) (h : Beg a b xs) : Beg a b ys := h.imp id fun h => ⟨h.1, by rw [← hy, h.2]; rfl⟩
omit [WB] in
theorem Beg.of {α : Type} (b : Nat) (xs : List α) : Beg (some ⟨b, 0, none⟩) b xs := .inl rfl
section
variable {P : Program} {n : Nat} {ops : Array Oper} {rest : List Oper} {φ : Fr} {D D0 : PH} {As B R : List Assert} {Q : Exit → Act → World → Prop} {l : OT} {i : Nat}
variable {α : Type} {e : Enc α} {D1 : PH} {E : TypeId} {xs ys : List α}
theorem SInv.adr {a : Option Addr} {m cap : Nat} {H : World} (hS : SInv D (OwnS D1 e E (.slice a m cap) xs :: As) H) : ∃ b, Beg a b xs ∧ xs.length = m ∧ xs.length ≤ 2 ^ 62 ∧ m ≤ cap := by
  obtain ⟨q, hq, _, _⟩ := hS.head
  rcases hq with ⟨h1, rfl, _⟩ | ⟨b, cap', h1, hq⟩
  · injection h1 with h1 h2 h3
    exact ⟨0, .inr ⟨h1, rfl⟩, h2.symm, by simp, by omega⟩
  · injection h1 with h1 h2 h3
    obtain ⟨cs, _, _, hc, hb, _⟩ := hq
    exact ⟨b, .inl h1, h2.symm, hb, by omega⟩
theorem c_adr {a : Option Addr} {m cap : Nat} {c : Code} (h : ∀ b, Beg a b xs → xs.length = m → xs.length ≤ 2 ^ 62 → m ≤ cap → SimC P n c φ D (OwnS D1 e E (.slice a m cap) xs :: As) Q) : SimC P n c φ D (OwnS D1 e E (.slice a m cap) xs :: As) Q := fun w hS => by
  obtain ⟨b, h1, h2, h3, h4⟩ := hS.adr
  exact h b h1 h2 h3 h4 w hS
theorem e_adr {a : Option Addr} {m cap : Nat} {c : Exit} (h : ∀ b, Beg a b xs → xs.length = m → xs.length ≤ 2 ^ 62 → m ≤ cap → End n φ D (OwnS D1 e E (.slice a m cap) xs :: As) Q c) : End n φ D (OwnS D1 e E (.slice a m cap) xs :: As) Q c := fun w hS => by
  obtain ⟨b, h1, h2, h3, h4⟩ := hS.adr
  exact h b h1 h2 h3 h4 w hS
theorem l_adr {a : Option Addr} {m cap : Nat} {c : List Oper} (h : ∀ b, Beg a b xs → xs.length = m → xs.length ≤ 2 ^ 62 → m ≤ cap → SimL P n ops c φ D (OwnS D1 e E (.slice a m cap) xs :: As) Q) : SimL P n ops c φ D (OwnS D1 e E (.slice a m cap) xs :: As) Q := fun w hS => by
  obtain ⟨b, h1, h2, h3, h4⟩ := hS.adr
  exact h b h1 h2 h3 h4 w hS
omit [WB] in
theorem IsIdx.beg {a : Option Addr} {b m cap : Nat} {j : Int} {z : α} (hb : Beg a b xs) (hm : xs.length = m) (hz : idx xs j = some z) : IsIdx (.slice a m cap) j e.sz b (j.toNat * e.sz) := by
  have := hb.get (ne_of_idx hz)
  subst this
  exact IsIdx.own hm hz
omit [WB] in
theorem OwnS.toB {a : Option Addr} {b m cap : Nat} (hb : Beg a b xs) (hne : xs ≠ []) (h : PH) (k : OwnS D1 e E (.slice a m cap) xs h) : OwnA D1 e E b cap xs h := by
  have := hb.get hne
  subst this
  exact OwnS.toA h k
variable {t ty : TypeId} {x y : Operand} {pos : String} {aft : Array Edge} {g : Option (Nat × Bool)} {d : Option Tmp}
theorem qs_ldS (hf : Fits P t e) {a : Option Addr} {b cap m off i : Nat} {z : α} (hb : Beg a b xs) (hx : ev n φ x = .pointer (some ⟨b, off, none⟩)) (ho : off = i * e.sz) (k : Nat) (hk : B[k]? = some (OwnS D1 e E (.slice a m cap) xs)) (hy : xs[i]? = some z) {v : Value} (he : ∀ cs, e.rep D1 cs z → e.val cs = v) :
    QS P n ⟨d, .load t x, ty, pos, aft, g⟩ φ D B v := by
  intro D' R _ w hS
  refine run_val ?_
  rw [hx]
  have hk' : (B ++ R)[k]? = some (OwnS D1 e E (.slice a m cap) xs) := by
    rw [List.getElem?_append_left (by
      rcases Nat.lt_or_ge k B.length with h | h
      · exact h
      · rw [List.getElem?_eq_none h] at hk; cases hk)]; exact hk
  obtain ⟨q, hq, hin, _⟩ := (hS.front k hk').head
  have hne : xs ≠ [] := by intro h0; subst h0; simp at hy
  obtain ⟨cs, rfl, hl, hc, hbd, hr⟩ := OwnS.toB hb hne q hq
  have h1 := hr i z hy
  have h2 := run_loadVar hf (hin b _ (one_self b _)) (off := off) (cs := (cs.drop (i * e.sz)).take e.sz) (by rw [ho]) (e.len h1)
  rw [h2, he _ h1]
theorem l_stS {a : Option Addr} {b cap m j off : Nat} {z : α} {vs : List Value} (hb : Beg a b xs) (hm : xs.length = m) (hy : xs.set j z = ys) (hw : want n φ ops ⟨none, .store t x y, ty, pos, aft, g⟩ = true) (hf : Fits P t e) (hx : ev n φ x = .pointer (some ⟨b, off, none⟩)) (hoff : off = j * e.sz) (hv : (ev n φ y).cells.toList = vs) (hz : e.rep D1 vs z) (hi : j < xs.length)
    (h : SimL P n ops rest φ D (OwnS D1 e E (.slice a m cap) ys :: As) Q) : SimL P n ops (⟨none, .store t x y, ty, pos, aft, g⟩ :: rest) φ D (OwnS D1 e E (.slice a m cap) xs :: As) Q := by
  subst hy
  have hne : xs ≠ [] := by intro h0; subst h0; simp at hi
  have ha := hb.get hne
  subst ha
  refine l_imp (OwnS.toB hb hne) (l_storeA hw hf hx hoff hv hz hi (l_imp (OwnS.ofA' (by rw [List.length_set]; exact hm)) h))
theorem o_stS {a : Option Addr} {b cap m j off : Nat} {z : α} {vs : List Value} (hb : Beg a b xs) (hm : xs.length = m) (hy : xs.set j z = ys) (hk : ops[i]? = some ⟨none, .store t x y, ty, pos, aft, g⟩) (hw : want n φ ops ⟨none, .store t x y, ty, pos, aft, g⟩ = true) (hD : PH.le D0 D) (hf : Fits P t e) (hx : ev n φ x = .pointer (some ⟨b, off, none⟩)) (hoff : off = j * e.sz) (hv : (ev n φ y).cells.toList = vs) (hz : e.rep D1 vs z) (hi : j < xs.length)
    (h : SimO P n ops Q D0 B l φ D (OwnS D1 e E (.slice a m cap) ys :: R)) : SimO P n ops Q D0 B (.e i l) φ D (OwnS D1 e E (.slice a m cap) xs :: R) := by
  subst hy
  have hne : xs ≠ [] := by intro h0; subst h0; simp at hi
  have ha := hb.get hne
  subst ha
  refine o_imp (OwnS.toB hb hne) (o_storeA hk hw hD hf hx hoff hv hz hi (o_imp (OwnS.ofA' (by rw [List.length_set]; exact hm)) h))
/-- A source of append: another slice of the code's own. -/
theorem OwnS.src {D0 : PH} {v : Value} (k : Nat) (hk : As[k]? = some (OwnS D0 e E v xs)) (hv : ∃ a cap, v = .slice a xs.length cap) : Src P D As e D0 v xs := by
  refine ⟨hv, fun w hS => ?_⟩
  have hS' := hS.front k hk
  obtain ⟨q, hq, _⟩ := hS'.head
  rcases hq with ⟨rfl, rfl, _⟩ | ⟨b, cap, rfl, hq⟩
  · exact ⟨[], rfl, by simp, fun i x hx => by simp at hx⟩
  · have h1 := SInv.imp (B := OwnA D0 e E b cap xs) (fun k hk => (OwnS.toA k hk)) hS'
    obtain ⟨_, h2⟩ := OwnA.src (P := P) (D := D) (cap' := cap) (As := OwnA D0 e E b cap xs :: As.eraseIdx k) 0 rfl
    exact h2 w h1
end

/-! ### Own parts' elements at any D -/
omit [WB] in
theorem OwnS.len0 {α : Type} {e : Enc α} {D1 : PH} {E : TypeId} {xs : List α} {a : Option Addr} {m m' cap : Nat} (hm : m = m') (h : PH) (k : OwnS D1 e E (.slice a m cap) xs h) : OwnS D1 e E (.slice a m' cap) xs h := by rw [← hm]; exact k
end Sx
