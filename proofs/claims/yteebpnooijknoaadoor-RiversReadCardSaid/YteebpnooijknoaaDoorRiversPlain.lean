/- Own text: texts of rivers: a line that is read. -/
import Derived.Test.YteebpnooijknoaaDoorPlIntA
namespace Go.Proofs.YteebpnooijknoaaDoor
open Go Sx
set_option linter.all false

def tw (d : Int) : S_api_Point := (water_Toward_p d).getD ⟨0, 0⟩
theorem tw_eq {d : Int} (h : 0 ≤ d ∧ d ≤ 7) : water_Toward_p d = some (tw d) := by
  have : d = 0 ∨ d = 1 ∨ d = 2 ∨ d = 3 ∨ d = 4 ∨ d = 5 ∨ d = 6 ∨ d = 7 := by omega
  rcases this with rfl | rfl | rfl | rfl | rfl | rfl | rfl | rfl <;> rfl
def mv (a : S_api_Point) (d : Int) : S_api_Point := ⟨addI a.X (tw d).X, addI a.Y (tw d).Y⟩
def DirOK (d : Int) : Prop := 0 ≤ d ∧ d ≤ 7
def trail (p : S_api_Point) : List Int → List S_api_Point
  | [] => [p]
  | d :: r => p :: trail (mv p d) r
def endP (p : S_api_Point) : List Int → S_api_Point
  | [] => p
  | d :: r => endP (mv p d) r
theorem trail_snoc : ∀ (l : List Int) (p : S_api_Point) (d : Int), trail p (l ++ [d]) = trail p l ++ [mv (endP p l) d]
  | [], p, d => rfl
  | s :: l, p, d => by
    show p :: trail (mv p s) (l ++ [d]) = p :: (trail (mv p s) l ++ [mv (endP (mv p s) l) d])
    rw [trail_snoc l]
theorem endP_snoc : ∀ (l : List Int) (p : S_api_Point) (d : Int), endP p (l ++ [d]) = mv (endP p l) d
  | [], p, d => rfl
  | s :: l, p, d => endP_snoc l (mv p s) d
theorem trail_len : ∀ (l : List Int) (p : S_api_Point), (trail p l).length = l.length + 1
  | [], p => rfl
  | s :: l, p => by show (trail (mv p s) l).length + 1 = _; rw [trail_len l]; rfl
theorem trail_head (l : List Int) (p : S_api_Point) : (trail p l)[0]? = some p := by cases l <;> rfl
theorem trail_step : ∀ (l : List Int) (p : S_api_Point) (k : Nat) (d : Int), l[k]? = some d → ∃ a, (trail p l)[k]? = some a ∧ (trail p l)[k + 1]? = some (mv a d)
  | [], p, k, d, h => by simp at h
  | s :: l, p, 0, d, h => by
    obtain rfl : s = d := by simpa using h
    refine ⟨p, rfl, ?_⟩
    show (trail (mv p s) l)[0]? = _
    exact trail_head l _
  | s :: l, p, k + 1, d, h => trail_step l (mv p s) k d (by simpa using h)

def InI (n : Int) : Prop := -9223372036854775808 ≤ n ∧ n ≤ 9223372036854775807
/-- The last word of a river's line. -/
def dirsT (ds : List Int) : List UInt8 := if ds = [] then [45] else (ds.map Lib.itoa).flatten
/-- A river's line. -/
def lineT (r : S_api_River) (p : S_api_Point) (ds : List Int) : List UInt8 :=
  [114, 105, 118, 101, 114] ++ (32 :: Lib.itoa r.Amount ++ (32 :: Lib.itoa r.Order ++ (32 :: Lib.itoa r.Into ++ (32 :: Lib.itoa p.X ++ (32 :: Lib.itoa p.Y ++ (32 :: dirsT ds))))))
/-- What a line that is read gives. -/
structure RivOK (r : S_api_River) (p : S_api_Point) (ds : List Int) : Prop where
  dirs : ∀ d ∈ ds, DirOK d
  pts : r.Points = trail p ds
  am : InI r.Amount
  od : InI r.Order
  it : InI r.Into
  px : InI p.X
  py : InI p.Y
  many : ds.length ≤ 4194304

def Num (w : ByteArray) (n : Int) : Prop := Lib.itoa n = bl w ∧ InI n
theorem readRiver_spec (line : ByteArray) (hs : line.size ≤ 4194304) : Ok (water_readRiver_p line) (fun r => r.2 = true → ∃ p ds, RivOK r.1 p ds ∧ bl line = lineT r.1 p ds) := by
  unfold water_readRiver_p
  obtain ⟨ws, h1, h2, h3, h4⟩ := split_sp hs
  refine ok_bnd_eq h1 ?_
  have hsz : ∀ x ∈ ws, x.size ≤ 4194304 := fun x hx => by
    have key : ∀ (l : List (List UInt8)) (x : List UInt8), x ∈ l → x.length ≤ (joinSp l).length := by
      intro l x hx
      cases l with
      | nil => cases hx
      | cons y l =>
        unfold joinSp
        rw [List.length_append]
        rcases List.mem_cons.1 hx with rfl | hx
        · omega
        · have : ∀ l : List (List UInt8), x ∈ l → x.length ≤ ((l.map fun p => (32 : UInt8) :: p).flatten).length := by
            intro l
            induction l with
            | nil => intro h; cases h
            | cons z l ih =>
              intro h
              simp only [List.map_cons, List.flatten_cons, List.length_append, List.length_cons]
              rcases List.mem_cons.1 h with rfl | h
              · omega
              · have := ih h; omega
          have := this l hx
          omega
    have h5 := key (ws.map bl) (bl x) (List.mem_map.2 ⟨x, hx, rfl⟩)
    rw [h2, ← bl_size, ← bl_size] at h5
    omega
  refine ok_bnd (P := fun c => c = false → ∃ w0 w1 w2 w3 w4 w5 w6, ws = [w0, w1, w2, w3, w4, w5, w6] ∧ bl w0 = [114, 105, 118, 101, 114]) ?_ ?_
  · refine ok_ite (fun _ => ok_some (fun h => by cases h)) (fun h7 => ?_)
    have h7 : (ws.length : Int) = 7 := by simpa using h7
    match ws, h7 with
    | [w0, w1, w2, w3, w4, w5, w6], _ =>
      refine ok_idx (x := w0) (by omega) rfl (ok_some (fun h => ⟨w0, w1, w2, w3, w4, w5, w6, rfl, ?_⟩))
      have h : strEq w0 (⟨#[114, 105, 118, 101, 114]⟩ : ByteArray) = true := by simpa using h
      exact (strEq_bl _ _).1 h
  · intro c hc
    refine ok_ite (fun _ => ok_some (fun h => by cases h)) (fun hcf => ?_)
    obtain ⟨w0, w1, w2, w3, w4, w5, w6, rfl, hw0⟩ := hc (by simpa using hcf)
    refine ok_bnd (ok_forI (fun k s => (0 < k → Num w1 s.1) ∧ (1 < k → Num w2 s.2.1) ∧ (2 < k → Num w3 s.2.2.1) ∧ (3 < k → Num w4 s.2.2.2.1) ∧ (4 < k → Num w5 s.2.2.2.2)) (fun e => e.2 = false) (by omega) ?_) ?_
    · rintro k ⟨a, b, c, d, e⟩ hk ⟨i1, i2, i3, i4, i5⟩
      have step : ∀ w : ByteArray, ([w0, w1, w2, w3, w4, w5, w6] : List ByteArray)[k + 1]? = some w → w.size ≤ 4194304 → (∀ n, Num w n → (0 < k + 1 → Num w1 (bif (k : Int).toNat == 0 then n else a)) ∧ (1 < k + 1 → Num w2 (bif (k : Int).toNat == 1 then n else b)) ∧ (2 < k + 1 → Num w3 (bif (k : Int).toNat == 2 then n else c)) ∧ (3 < k + 1 → Num w4 (bif (k : Int).toNat == 3 then n else d)) ∧ (4 < k + 1 → Num w5 (bif (k : Int).toNat == 4 then n else e))) →
          Ok (bnd (idx ([w0, w1, w2, w3, w4, w5, w6] : List ByteArray) (addI (k : Int) 1)) fun x3 => bnd (field_Integer_p x3) fun r2 => bnd (idx ([a, b, c, d, e] : List Int) (k : Int)) fun x4 => if (!r2.2) = true then some (Ctl.out ((⟨[], 0, 0, 0⟩ : S_api_River), false)) else some (Ctl.go ((bif (k : Int).toNat == 0 then r2.1 else a), (bif (k : Int).toNat == 1 then r2.1 else b), (bif (k : Int).toNat == 2 then r2.1 else c), (bif (k : Int).toNat == 3 then r2.1 else d), (bif (k : Int).toNat == 4 then r2.1 else e))))
            (fun x : Ctl (Int × Int × Int × Int × Int) (S_api_River × Bool) => match x with | .go s => (0 < k + 1 → Num w1 s.1) ∧ (1 < k + 1 → Num w2 s.2.1) ∧ (2 < k + 1 → Num w3 s.2.2.1) ∧ (3 < k + 1 → Num w4 s.2.2.2.1) ∧ (4 < k + 1 → Num w5 s.2.2.2.2) | .out e => e.2 = false) := by
        intro w hw hws hn
        rw [addI_eq (by omega), show (k : Int) + 1 = ((k + 1 : Nat) : Int) by omega]
        refine ok_idxN hw (ok_bnd (Integer_spec w (by omega)) (fun r hr => ?_))
        have h5 : ([a, b, c, d, e] : List Int)[k]? = some (([a, b, c, d, e] : List Int)[k]'(by simpa using hk)) := List.getElem?_eq_getElem _
        refine ok_idxN h5 (ok_ite (fun _ => ok_some rfl) (fun h => ok_some ?_))
        obtain ⟨g1, g2, g3⟩ := hr (by simpa using h)
        exact hn r.1 ⟨g1, g2, g3⟩
      have hk5 : k = 0 ∨ k = 1 ∨ k = 2 ∨ k = 3 ∨ k = 4 := by omega
      rcases hk5 with rfl | rfl | rfl | rfl | rfl
      · exact (step w1 rfl (hsz _ (by simp)) (fun n hn => ⟨fun _ => hn, fun h => by omega, fun h => by omega, fun h => by omega, fun h => by omega⟩)).mono (fun x hx => by cases x <;> exact hx)
      · exact (step w2 rfl (hsz _ (by simp)) (fun n hn => ⟨fun _ => i1 (by omega), fun _ => hn, fun h => by omega, fun h => by omega, fun h => by omega⟩)).mono (fun x hx => by cases x <;> exact hx)
      · exact (step w3 rfl (hsz _ (by simp)) (fun n hn => ⟨fun _ => i1 (by omega), fun _ => i2 (by omega), fun _ => hn, fun h => by omega, fun h => by omega⟩)).mono (fun x hx => by cases x <;> exact hx)
      · exact (step w4 rfl (hsz _ (by simp)) (fun n hn => ⟨fun _ => i1 (by omega), fun _ => i2 (by omega), fun _ => i3 (by omega), fun _ => hn, fun h => by omega⟩)).mono (fun x hx => by cases x <;> exact hx)
      · exact (step w5 rfl (hsz _ (by simp)) (fun n hn => ⟨fun _ => i1 (by omega), fun _ => i2 (by omega), fun _ => i3 (by omega), fun _ => i4 (by omega), fun _ => hn⟩)).mono (fun x hx => by cases x <;> exact hx)
    · intro c hc
      cases c with
      | out e => exact ok_some (fun h => by rw [show e.2 = false from hc] at h; cases h)
      | go s =>
        obtain ⟨a, b, c, d, e⟩ := s
        obtain ⟨i1, i2, i3, i4, i5⟩ := hc
        obtain ⟨n1, m1⟩ := i1 (by omega)
        obtain ⟨n2, m2⟩ := i2 (by omega)
        obtain ⟨n3, m3⟩ := i3 (by omega)
        obtain ⟨n4, m4⟩ := i4 (by omega)
        obtain ⟨n5, m5⟩ := i5 (by omega)
        simp only at n1 n2 n3 n4 n5 m1 m2 m3 m4 m5
        refine ok_idx (x := d) (by omega) rfl (ok_idx (x := e) (by omega) rfl (ok_idx (x := a) (by omega) rfl (ok_idx (x := b) (by omega) rfl (ok_idx (x := c) (by omega) rfl (ok_idx (x := w6) (by omega) rfl ?_)))))
        have hline : ∀ ds : List Int, dirsT ds = bl w6 → bl line = [114, 105, 118, 101, 114] ++ (32 :: Lib.itoa a ++ (32 :: Lib.itoa b ++ (32 :: Lib.itoa c ++ (32 :: Lib.itoa d ++ (32 :: Lib.itoa e ++ (32 :: dirsT ds)))))) := by
          intro ds hds
          rw [← h2, hds, n1, n2, n3, n4, n5, ← hw0]
          unfold joinSp
          simp
        by_cases hd : strEq w6 (⟨#[45]⟩ : ByteArray) = true
        · rw [if_pos hd]
          refine ok_some (fun _ => ⟨⟨d, e⟩, [], ⟨fun d h => (by cases h), rfl, m1, m2, m3, m4, m5, by simp⟩, hline [] ?_⟩)
          exact ((strEq_bl _ _).1 hd).symm
        · rw [if_neg hd]
          have hw6 := hsz w6 (by simp)
          refine ok_bnd (ok_loopP (Q := fun x : Ctl ((List S_api_Point) × Int × Int) (S_api_River × Bool) => match x with | .go s => ∃ ds : List Int, ds.length ≤ 4194304 ∧ (∀ d ∈ ds, DirOK d) ∧ s.1 = trail ⟨d, e⟩ ds ∧ (ds.map Lib.itoa).flatten = bl w6 | .out r => r.2 = false)
            (fun s => ∃ ds : List Int, s.1 = (ds.length : Int) ∧ ds.length ≤ w6.size ∧ (∀ d ∈ ds, DirOK d) ∧ s.2.1 = trail ⟨d, e⟩ ds ∧ s.2.2.1 = (endP ⟨d, e⟩ ds).X ∧ s.2.2.2 = (endP ⟨d, e⟩ ds).Y ∧ (ds.map Lib.itoa).flatten = (bl w6).take ds.length) (fun s => w6.size - s.1.toNat) (by omega) ⟨[], rfl, by simp, fun d h => (by cases h), rfl, rfl, rfl, by simp⟩ ?_) ?_
          · rintro ⟨i, l, x, y⟩ ⟨ds, j1, j2, j3, j4, j5, j6, j7⟩
            simp only at j1 j4 j5 j6
            subst j1
            refine ok_idx (x := w6) (by omega) rfl ?_
            simp only
            by_cases hlt : ds.length < w6.size
            · have hb : (bl w6)[ds.length]? = some ((bl w6)[ds.length]'(by rw [← bl_size]; exact hlt)) := List.getElem?_eq_getElem _
              have htake : (bl w6).take (ds.length + 1) = (bl w6).take ds.length ++ [(bl w6)[ds.length]'(by rw [← bl_size]; exact hlt)] := by rw [List.take_succ, hb]; rfl
              generalize (bl w6)[ds.length]'(by rw [← bl_size]; exact hlt) = q at hb htake
              rw [if_pos (by simp only [decide_eq_true_eq]; omega)]
              refine ok_idx (x := w6) (by omega) rfl (ok_bnd_eq (strIdx_ok hb) ?_)
              simp only [bnd_def]
              have hq : subI (IntKind.wrap .i64 (byteI q)) 48 = (q.toNat : Int) - 48 := by
                have := q.toNat_lt
                unfold byteI
                rw [i64_wrap (by omega), subI_eq (by omega)]
              rw [hq]
              refine ok_ite (fun _ => ok_some rfl) (fun hr => ?_)
              have hr : ¬ ((q.toNat : Int) - 48 < 0) ∧ ¬ ((q.toNat : Int) - 48 ≥ 8) := by simpa using hr
              have hdir : DirOK ((q.toNat : Int) - 48) := ⟨by omega, by omega⟩
              have hit : Lib.itoa ((q.toNat : Int) - 48) = [q] := by
                rw [show (q.toNat : Int) - 48 = ((q.toNat - 48 : Nat) : Int) by omega, Lib.itoa_nonneg, Lib.decDigits_one (by omega), dig_back ⟨by omega, by omega⟩]
              refine ok_bnd_eq (tw_eq hdir) (ok_bnd_eq (app_ok (by rw [j4, trail_len]; simp only [List.length_singleton]; omega)) (ok_some ?_))
              refine ⟨⟨ds ++ [(q.toNat : Int) - 48], ?_, ?_, ?_, ?_, ?_, ?_, ?_⟩, ?_⟩
              · show addI (ds.length : Int) 1 = _
                rw [addI_eq (by omega)]; simp
              · simp only [List.length_append, List.length_singleton]; omega
              · intro d' hd'
                rcases List.mem_append.1 hd' with h | h
                · exact j3 d' h
                · obtain rfl : d' = (q.toNat : Int) - 48 := by simpa using h
                  exact hdir
              · show l ++ [_] = _
                rw [trail_snoc, j4, j5, j6]; rfl
              · rw [endP_snoc, j5]; rfl
              · rw [endP_snoc, j6]; rfl
              · rw [List.map_append, List.flatten_append, j7]
                simp only [List.length_append, List.length_singleton]
                rw [htake]; simp [hit]
              · show w6.size - (addI (ds.length : Int) 1).toNat < w6.size - ((ds.length : Int)).toNat
                rw [addI_eq (by omega)]; omega
            · rw [if_neg (by simp only [decide_eq_true_eq]; omega)]
              refine ok_some ⟨ds, by omega, j3, j4, ?_⟩
              rw [j7, List.take_of_length_le (by rw [← bl_size]; omega)]
          · intro x hx
            cases x with
            | out r => exact ok_some (fun h => by rw [show r.2 = false from hx] at h; cases h)
            | go s =>
              obtain ⟨ds, k1, k2, k3, k4⟩ := hx
              refine ok_some (fun h => ⟨⟨d, e⟩, ds, ⟨k2, k3, m1, m2, m3, m4, m5, k1⟩, hline ds ?_⟩)
              have h : (s.1.length : Int) > 1 := by simpa using h
              rw [k3, trail_len] at h
              unfold dirsT
              rw [if_neg (by intro h0; rw [h0] at h; simp at h)]
              exact k4
end Go.Proofs.YteebpnooijknoaaDoor
