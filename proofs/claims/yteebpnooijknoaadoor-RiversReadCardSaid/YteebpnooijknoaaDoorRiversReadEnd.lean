/- RiversRead: for every input that can be read the law returns true, and leaves memory as it was. Condition: the listed variables of the library hold what its text lays (the card ties them to it). -/
import Derived.Test.YteebpnooijknoaaDoorRows
import Derived.Test.YteebpnooijknoaaDoorTie
import Derived.Test.YteebpnooijknoaaDoorCards
import Derived.Test.YteebpnooijknoaaDoorSxCard
import Derived.Test.YteebpnooijknoaaDoorFn1
import Derived.Test.YteebpnooijknoaaDoorRiversPlain4
import Derived.Test.YteebpnooijknoaaDoorOp
namespace Go.Proofs.YteebpnooijknoaaDoor
open Go Sx Go.ChangeShapes Go.WideShapes Go.RowKit
set_option linter.all false
namespace RiversRead
theorem own : ownKnob Tryd.prog.godebug = none := by kernel_rfl
theorem laidOut : laidOutB Tryd.prog = true := by kernel_rfl
/-- The start that is shown: the heap that the variables' own text leaves. -/
noncomputable def start (os : Os) : World := pinAt (World.doorLaid Tryd.prog 400 os) 4 (pinCells Rows.laid_unicode_utf8_first)
theorem door_met (os : Os) : laidMetH Tryd.prog Rows.riversReadRow.laid ((start os).forCall (fun _ _ => 0) ⟨#[], #[.string (⟨#[]⟩ : ByteArray)], []⟩).memory := laidMetH_of_parts3 (fuel := 8) (laidMet_of_run' 8 (by kernel_rfl) (by kernel_rfl)) (by kernel_rfl) (by kernel_rfl)
theorem gv {W : World} (hsh : W.ShapedOpen Tryd.prog) (hX0 : laidMetH Tryd.prog Rows.riversReadRow.laid W) : @GV ⟨W.os, W.output, HD W⟩ Tryd.prog := by
  have hX : laidMet Tryd.prog Rows.riversReadRow.laid W := (MakeChecks.laidMetH_plain Tryd.prog Rows.riversReadRow.laid W (by kernel_rfl)) ▸ hX0
  have h1 : laidMet Tryd.prog (_ :: _ :: ("internal/strconv.uint64pow10", Lib.tabData .u64 Lib.pow10Tab) :: _) W := hX
  have p1 : Lib.TabIs Tryd.prog W "internal/strconv.uint64pow10" .u64 Lib.pow10Tab := Lib.tabIs_of_head (g := 1) (t := 128) (by kernel_rfl) (by kernel_rfl) Tryd.underlying128 Tryd.underlying108 (by kernel_rfl) (by kernel_rfl) h1.tail.tail
  have h2 : laidMet Tryd.prog (_ :: _ :: _ :: _ :: _ :: ("strconv.ErrSyntax", .iface _ _) :: _) W := hX
  obtain ⟨t2, q2, v2⟩ := laid_iface (g := 2) h2.tail.tail.tail.tail.tail (by kernel_rfl) (by kernel_rfl) Tryd.underlying73
  have h3 : laidMet Tryd.prog (_ :: _ :: _ :: _ :: ("strconv.ErrRange", .iface _ _) :: _) W := hX
  obtain ⟨t3, q3, v3⟩ := laid_iface (g := 3) h3.tail.tail.tail.tail (by kernel_rfl) (by kernel_rfl) Tryd.underlying73
  obtain ⟨m, hm⟩ := Go.Proofs.cell_of_shapedOpen_int (g := 0) (zero := #[.int .i64 0]) (t := 3) hsh (of_decide_eq_true (by kernel_rfl)) (by kernel_rfl) rfl (by kernel_rfl) (by kernel_rfl) Tryd.underlying3
  have hg : Tryd.prog.globalNamed "internal/bytealg.MaxLen" = some 0 := by kernel_rfl
  refine @GV.mk ⟨W.os, W.output, HD W⟩ Tryd.prog (fun h => keep_var h p1) ⟨t2, q2, fun h => keep_var h v2⟩ ⟨t3, q3, fun h => keep_var h v3⟩ ⟨m, fun h g hg2 => ?_⟩
  obtain rfl := Option.some.inj (hg.symm.trans hg2)
  exact keep_cell h hm
set_option maxRecDepth 100000 in
set_option maxHeartbeats 1000000 in
theorem lifted (os : Os) (started : os.Started) (H : Type) (enc : TypeId × Value → H) :
    ReturnsInHanded {} Tryd.checked os 3 .any (fun w args => (Rows.riversReadSpec.pre enc Tryd.prog Tryd.f3 Rows.riversReadRow.domain false w args ∧ laidMetH Tryd.prog Rows.riversReadRow.laid w) ∧ sizedMet enc Tryd.prog Tryd.f3 (OpenSpec.ofChange Rows.riversReadSpec) false w args) (Rows.riversReadSpec.post enc Tryd.prog Tryd.f3 false true false false) := by
  refine change_and_shaped (C := Tryd.checked) (X := fun w _ => laidMetH Tryd.prog Rows.riversReadRow.laid w) (fun _ _ _ hh h => h.of_heap hh) own started (by kernel_rfl) Tryd.func3
    (ChangeSpec.witness_shaped (enc := enc) (C := Tryd.checked) (os := os) (X := fun w _ => laidMetH Tryd.prog Rows.riversReadRow.laid w) false (start os) #[.string (⟨#[]⟩ : ByteArray)] 8 rfl (World.shaped_of_RefB (by kernel_rfl) (by kernel_rfl)) (by kernel_rfl) (by kernel_rfl) (by kernel_rfl) (door_met os)) ?_
  intro W base args ds gs before hval0 hW hz0 hsh hX
  have hval : ∀ (j : Nat) t v, Tryd.f3.params[j]? = some t → args[j]? = some v → Value.okWide Tryd.prog W .any base t v := hval0
  have hW0 := hW
  obtain ⟨p, q, hA0, hV, _, _, _⟩ := hW
  have hA : DataW.TrodAll enc Tryd.prog W 0 (fun _ => true) true Tryd.f3.params.toList args.toList ds p := hA0
  obtain ⟨rfl, rfl⟩ := trodVars_none hV
  rw [Tryd.params3] at hA hval
  have hz : ∀ n ∈ DataW.weightsEach Tryd.prog [9] ds, n ≤ rB := by
    have h1 : (DataW.weightsEach Tryd.prog (Tryd.f3.params.toList ++ []) (ds ++ [])).all (· ≤ reachBytes) = true := hz0
    rw [Tryd.params3] at h1
    intro n hn
    exact of_decide_eq_true (List.all_eq_true.1 h1 n (by simpa using hn))
  generalize hargs : args.toList = vs at hA
  obtain ⟨v0, vs, d0, dr0, p0, p, rfl, rfl, rfl, t0, hA⟩ := trodAll_cons hA
  have hvs : vs = [] := by cases vs <;> simp_all [DataW.TrodAll]
  have hds : dr0 = [] := by cases dr0 <;> simp_all [DataW.TrodAll]
  subst hvs; subst hds
  obtain rfl : args = #[v0] := Array.ext' (by simpa using hargs)
  simp only [DataW.weightsEach, List.append_nil, List.mem_append] at hz
  obtain ⟨a, r0, w0⟩ := open_arg (opn_string Tryd.underlying9) t0 (fun n hn => hz n (hn))
  obtain ⟨n0, rfl⟩ := okWide_string Tryd.underlying9 (hval 0 9 v0 rfl rfl)
  obtain rfl : n0 = a := by have q := r0; simpa [Value.cells, encI, encF, encB, encStr] using q
  have hp := plain n0 w0
  refine (@tarnlaw2_RiversRead_s ⟨W.os, W.output, HD W⟩ (gv hsh hX) n0 (HD W)  [] true hp W (sx_start (wb := ⟨W.os, W.output, HD W⟩) W (HD W) rfl (PH.le_refl _))).mono ?_
  rintro e W' ⟨rfl, hS⟩
  refine ⟨_, rfl, said_post (t := 4) laidOut ?_ (by kernel_rfl) Tryd.underlying4 hW0 rfl rfl rfl rfl hS⟩
  rw [Tryd.params3]
  intro u hu
  simp only [List.mem_cons, List.not_mem_nil, or_false] at hu
  subst hu; exact ⟨by kernel_rfl, of_decide_eq_true (by kernel_rfl)⟩

theorem holds : Rows.RiversReadSaid :=
  OpenClaim.holds_of_wide 3 Tryd.f3 rfl rfl rfl rfl rfl rfl rfl ⟨rfl, rfl, rfl, rfl, rfl⟩ rfl rfl rfl rfl rfl (by kernel_rfl) Tryd.func3 (by kernel_rfl)
    (of_decide_eq_true (by kernel_rfl)) (by unfold Func.isWrapper; first | (rw [if_pos (by decide +kernel)]; kernel_rfl) | (rw [if_neg (by decide +kernel)]; exact ⟨rfl, rfl⟩))
    (fun os started H enc _ => lifted os started H enc)

theorem card_holds : Rows.RiversReadCardSaid :=
  Claim7.holds_tied_plain_at .later [] [.data, .data, .data, .data, .sentinel, .sentinel, .pinned] true (true, "0fc8a0397117aea3532099c0be6b45d01390ffb22d3b05f1560e867c6c3bdbbc") true
    holds (fun _ h => by cases h) (by kernel_rfl) (fun _ h => by cases h) riversRead_row_tie rfl ⟨rfl, rfl⟩ (by kernel_rfl) rfl
    (fun f fn hf hfn => by
      obtain rfl : f = 3 := Option.some.inj ((show Tryd.prog.funcNamed "tarnfell/tarnlaw2.RiversRead" = some 3 by kernel_rfl).symm.trans hf) |>.symm
      obtain rfl : fn = Tryd.f3 := (Option.some.inj (Tryd.func3.symm.trans hfn)).symm
      exact ⟨by kernel_rfl, fun j t ht => by
        rw [Tryd.params3] at ht
        have hm : t ∈ [9] := by simpa using Array.mem_of_getElem? ht
        have hall : ([9].all fun u => !Tryd.prog.wantsStandIn u) = true := by kernel_rfl
        exact (show Tryd.prog.wantsStandIn t = false by simpa using List.all_eq_true.1 hall t hm)⟩)
    (by kernel_rfl)
end RiversRead
theorem riversRead_holds : Rows.RiversReadCardSaid := RiversRead.card_holds
end Go.Proofs.YteebpnooijknoaaDoor
