/- WaysRead: for every input that can be read the law returns true, and leaves memory as it was. Condition: the listed variables of the library hold what its text lays (the card ties them to it). -/
import Derived.Test.YtlngccfplnbeiaaGreatDoorRows
import Derived.Test.YtlngccfplnbeiaaGreatDoorTie
import Derived.Test.YtlngccfplnbeiaaGreatDoorCards
import Derived.Test.YtlngccfplnbeiaaGreatDoorSxCard
import Derived.Test.YtlngccfplnbeiaaGreatDoorFn2
import Derived.Test.YtlngccfplnbeiaaGreatDoorWaysPlain2
import Derived.Test.YtlngccfplnbeiaaGreatDoorOp
namespace Go.Proofs.YtlngccfplnbeiaaGreatDoor
open Go Sx Go.ChangeShapes Go.WideShapes Go.RowKit
set_option linter.all false
namespace WaysRead
theorem own : ownKnob Tryz.prog.godebug = none := by kernel_rfl
theorem laidOut : laidOutB Tryz.prog = true := by kernel_rfl
/-- The start that is shown: the heap that the variables' own text leaves. -/
noncomputable def start (os : Os) : World := pinAt (World.doorLaid Tryz.prog 400 os) 5 (pinCells Rows.laid_unicode_utf8_first)
theorem door_met (os : Os) : laidMetH Tryz.prog Rows.waysReadRow.laid ((start os).forCall (fun _ _ => 0) ⟨#[], #[.string (⟨#[]⟩ : ByteArray)], []⟩).memory := laidMetH_of_parts3 (fuel := 8) (laidMet_of_run' 8 (by kernel_rfl) (by kernel_rfl)) (by kernel_rfl) (by kernel_rfl)
theorem gv {W : World} (hsh : W.ShapedOpen Tryz.prog) (hX0 : laidMetH Tryz.prog Rows.waysReadRow.laid W) : @GV ⟨W.os, W.output, HD W⟩ Tryz.prog := by
  have hX : laidMet Tryz.prog Rows.waysReadRow.laid W := (MakeChecks.laidMetH_plain Tryz.prog Rows.waysReadRow.laid W (by kernel_rfl)) ▸ hX0
  have h1 : laidMet Tryz.prog (_ :: _ :: ("internal/strconv.uint64pow10", Lib.tabData .u64 Lib.pow10Tab) :: _) W := hX
  have p1 : Lib.TabIs Tryz.prog W "internal/strconv.uint64pow10" .u64 Lib.pow10Tab := Lib.tabIs_of_head (g := 4) (t := 173) (by kernel_rfl) (by kernel_rfl) Tryz.underlying173 Tryz.underlying148 (by kernel_rfl) (by kernel_rfl) h1.tail.tail
  have h2 : laidMet Tryz.prog (_ :: _ :: _ :: _ :: _ :: ("strconv.ErrSyntax", .iface _ _) :: _) W := hX
  obtain ⟨t2, q2, v2⟩ := laid_iface (g := 2) h2.tail.tail.tail.tail.tail (by kernel_rfl) (by kernel_rfl) Tryz.underlying75
  have h3 : laidMet Tryz.prog (_ :: _ :: _ :: _ :: ("strconv.ErrRange", .iface _ _) :: _) W := hX
  obtain ⟨t3, q3, v3⟩ := laid_iface (g := 3) h3.tail.tail.tail.tail (by kernel_rfl) (by kernel_rfl) Tryz.underlying75
  obtain ⟨m, hm⟩ := Go.Proofs.cell_of_shapedOpen_int (g := 1) (zero := #[.int .i64 0]) (t := 3) hsh (of_decide_eq_true (by kernel_rfl)) (by kernel_rfl) rfl (by kernel_rfl) (by kernel_rfl) Tryz.underlying3
  have hg : Tryz.prog.globalNamed "internal/bytealg.MaxLen" = some 1 := by kernel_rfl
  refine @GV.mk ⟨W.os, W.output, HD W⟩ Tryz.prog (fun h => keep_var h p1) ⟨t2, q2, fun h => keep_var h v2⟩ ⟨t3, q3, fun h => keep_var h v3⟩ ⟨m, fun h g hg2 => ?_⟩
  obtain rfl := Option.some.inj (hg.symm.trans hg2)
  exact keep_cell h hm
set_option maxRecDepth 100000 in
set_option maxHeartbeats 1000000 in
theorem lifted (os : Os) (started : os.Started) (H : Type) (enc : TypeId × Value → H) :
    ReturnsInHanded {} Tryz.checked os 3 .any (fun w args => (Rows.waysReadSpec.pre enc Tryz.prog Tryz.f3 Rows.waysReadRow.domain false w args ∧ laidMetH Tryz.prog Rows.waysReadRow.laid w) ∧ sizedMet enc Tryz.prog Tryz.f3 (OpenSpec.ofChange Rows.waysReadSpec) false w args) (Rows.waysReadSpec.post enc Tryz.prog Tryz.f3 false true false false) := by
  refine change_and_shaped (C := Tryz.checked) (X := fun w _ => laidMetH Tryz.prog Rows.waysReadRow.laid w) (fun _ _ _ hh h => h.of_heap hh) own started (by kernel_rfl) Tryz.func3
    (ChangeSpec.witness_shaped (enc := enc) (C := Tryz.checked) (os := os) (X := fun w _ => laidMetH Tryz.prog Rows.waysReadRow.laid w) false (start os) #[.string (⟨#[]⟩ : ByteArray)] 8 rfl (World.shaped_of_RefB (by kernel_rfl) (by kernel_rfl)) (by kernel_rfl) (by kernel_rfl) (by kernel_rfl) (door_met os)) ?_
  intro W base args ds gs before hval0 hW hz0 hsh hX
  have hval : ∀ (j : Nat) t v, Tryz.f3.params[j]? = some t → args[j]? = some v → Value.okWide Tryz.prog W .any base t v := hval0
  have hW0 := hW
  obtain ⟨p, q, hA0, hV, _, _, _⟩ := hW
  have hA : DataW.TrodAll enc Tryz.prog W 0 (fun _ => true) true Tryz.f3.params.toList args.toList ds p := hA0
  obtain ⟨rfl, rfl⟩ := trodVars_none hV
  rw [Tryz.params3] at hA hval
  have hz : ∀ n ∈ DataW.weightsEach Tryz.prog [9] ds, n ≤ rB := by
    have h1 : (DataW.weightsEach Tryz.prog (Tryz.f3.params.toList ++ []) (ds ++ [])).all (· ≤ reachBytes) = true := hz0
    rw [Tryz.params3] at h1
    intro n hn
    exact of_decide_eq_true (List.all_eq_true.1 h1 n (by simpa using hn))
  generalize hargs : args.toList = vs at hA
  obtain ⟨v0, vs, d0, dr0, p0, p, rfl, rfl, rfl, t0, hA⟩ := trodAll_cons hA
  have hvs : vs = [] := by cases vs <;> simp_all [DataW.TrodAll]
  have hds : dr0 = [] := by cases dr0 <;> simp_all [DataW.TrodAll]
  subst hvs; subst hds
  obtain rfl : args = #[v0] := Array.ext' (by simpa using hargs)
  simp only [DataW.weightsEach, List.append_nil, List.mem_append] at hz
  obtain ⟨a, r0, w0⟩ := open_arg (opn_string Tryz.underlying9) t0 (fun n hn => hz n (hn))
  obtain ⟨n0, rfl⟩ := okWide_string Tryz.underlying9 (hval 0 9 v0 rfl rfl)
  obtain rfl : n0 = a := by have q := r0; simpa [Value.cells, encI, encF, encB, encStr] using q
  have hp := plain n0 w0
  refine (@tarnlaw2_WaysRead_s ⟨W.os, W.output, HD W⟩ (gv hsh hX) n0 (HD W)  [] true hp W (sx_start (wb := ⟨W.os, W.output, HD W⟩) W (HD W) rfl (PH.le_refl _))).mono ?_
  rintro e W' ⟨rfl, hS⟩
  refine ⟨_, rfl, said_post (t := 4) laidOut ?_ (by kernel_rfl) Tryz.underlying4 hW0 rfl rfl rfl rfl hS⟩
  rw [Tryz.params3]
  intro u hu
  simp only [List.mem_cons, List.not_mem_nil, or_false] at hu
  subst hu; exact ⟨by kernel_rfl, of_decide_eq_true (by kernel_rfl)⟩

theorem holds : Rows.WaysReadSaid :=
  OpenClaim.holds_of_wide 3 Tryz.f3 rfl rfl rfl rfl rfl rfl rfl ⟨rfl, rfl, rfl, rfl, rfl⟩ rfl rfl rfl rfl rfl (by kernel_rfl) Tryz.func3 (by kernel_rfl)
    (of_decide_eq_true (by kernel_rfl)) (by unfold Func.isWrapper; first | (rw [if_pos (by decide +kernel)]; kernel_rfl) | (rw [if_neg (by decide +kernel)]; exact ⟨rfl, rfl⟩))
    (fun os started H enc _ => lifted os started H enc)

theorem card_holds : Rows.WaysReadCardSaid :=
  Claim7.holds_tied_plain_at .later [] [.data, .data, .data, .data, .sentinel, .sentinel, .pinned] true (true, "b487a2b418507f3df74502b086cb44be3580d29bf531e0a3ebd7043597c3024e") true
    holds (fun _ h => by cases h) (by kernel_rfl) (fun _ h => by cases h) waysRead_row_tie rfl ⟨rfl, rfl⟩ (by kernel_rfl) rfl
    (fun f fn hf hfn => by
      obtain rfl : f = 3 := Option.some.inj ((show Tryz.prog.funcNamed "tarnfell/tarnlaw2.WaysRead" = some 3 by kernel_rfl).symm.trans hf) |>.symm
      obtain rfl : fn = Tryz.f3 := (Option.some.inj (Tryz.func3.symm.trans hfn)).symm
      exact ⟨by kernel_rfl, fun j t ht => by
        rw [Tryz.params3] at ht
        have hm : t ∈ [9] := by simpa using Array.mem_of_getElem? ht
        have hall : ([9].all fun u => !Tryz.prog.wantsStandIn u) = true := by kernel_rfl
        exact (show Tryz.prog.wantsStandIn t = false by simpa using List.all_eq_true.1 hall t hm)⟩)
    (by kernel_rfl)
end WaysRead
theorem waysRead_holds : Rows.WaysReadCardSaid := WaysRead.card_holds
end Go.Proofs.YtlngccfplnbeiaaGreatDoor
