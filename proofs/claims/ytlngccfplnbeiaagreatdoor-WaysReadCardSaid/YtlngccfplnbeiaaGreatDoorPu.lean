/- Own text, by program: functions of the program as pure functions. -/
import Derived.Test.YtlngccfplnbeiaaGreatDoorTy
namespace Go.Proofs.YtlngccfplnbeiaaGreatDoor
open Sx
set_option linter.all false


/-- internal/stringslite.HasPrefix -/
def internal_stringslite_HasPrefix_p (s0 : ByteArray) (prefix0 : ByteArray)  : Option (Bool) := bnd (if decide ((s0.size : Int) ≥ (prefix0.size : Int)) then bnd (strSlc s0 0 (prefix0.size : Int)) fun z1 => some (strEq z1 prefix0) else some false) fun (c1 : Bool) => some c1

/-- internal/stringslite.CutPrefix -/
def internal_stringslite_CutPrefix_p (s0 : ByteArray) (prefix0 : ByteArray)  : Option (ByteArray × Bool) := bnd (internal_stringslite_HasPrefix_p s0 prefix0) fun r1 => if !r1 then some (s0, false) else bnd (strSlc s0 (prefix0.size : Int) (s0.size : Int)) fun z1 => some (z1, true)

/-- strings.CutPrefix -/
def strings_CutPrefix_p (s0 : ByteArray) (prefix0 : ByteArray)  : Option (ByteArray × Bool) := bnd (internal_stringslite_CutPrefix_p s0 prefix0) fun r1 => some (r1.1, r1.2)

/-- tarnfell/field.digits -/
def field_digits_p (s0 : ByteArray)  : Option (Int) := bnd (loopP (fun (s1 : Int) => bnd (if decide (s1 < (s0.size : Int)) then bnd (strIdx s0 s1) fun x2 => if decide ((byteI x2) ≥ 48) then bnd (strIdx s0 s1) fun x3 => some (decide ((byteI x3) ≤ 57)) else some false else some false) fun (c1 : Bool) => if c1 then some (.go (addI s1 1)) else some (.out s1)) 0) fun (x1 : Int) => some x1


/-- tarnfell/field.Integer -/
def field_Integer_p (s0 : ByteArray)  : Option (Int × Bool) := bnd (strings_CutPrefix_p s0 (⟨#[45]⟩ : ByteArray)) fun r1 => bnd (if strEq r1.1 (⟨#[]⟩ : ByteArray) then some true else bnd (field_digits_p r1.1) fun r2 => if (r2 != (r1.1.size : Int)) then some true else bnd (strIdx r1.1 0) fun x1 => if ((byteI x1) == 48) then if decide ((r1.1.size : Int) > 1) then some true else some r1.2 else some false) fun (c1 : Bool) => if c1 then some (0, false) else bnd (atoiP s0) fun r3 => some (r3.1, r3.2)

/-- tarnfell/road.readStep -/
def road_readStep_p (s0 : ByteArray)  : Option (Int × Int × Bool) := bnd (if strEq s0 (⟨#[]⟩ : ByteArray) then some true else bnd (strIdx s0 0) fun x1 => if decide ((byteI x1) < 48) then some true else bnd (strIdx s0 0) fun x2 => some (decide ((byteI x2) > 55))) fun (c1 : Bool) => if c1 then some (0, 0, false) else bnd (strIdx s0 0) fun x3 => bnd (some (IntKind.wrap .i64 (IntKind.wrap .u8 ((byteI x3) - 48)))) fun d_1 => bnd (strSlc s0 1 (s0.size : Int)) fun z1 => if strEq z1 (⟨#[]⟩ : ByteArray) then some (d_1, 1, true) else bnd (strings_CutPrefix_p z1 (⟨#[120]⟩ : ByteArray)) fun r1 => if !r1.2 then some (0, 0, false) else bnd (field_Integer_p r1.1) fun r2 => some (d_1, r2.1, (r2.2 && ((decide (r2.1 ≥ 2)) && (decide (r2.1 ≤ 12)))))

/-- tarnfell/water.Toward -/
def water_Toward_p (d0 : Int)  : Option (S_api_Point) := bnd (idx ([(⟨1, 0⟩ : S_api_Point), (⟨1, 1⟩ : S_api_Point), (⟨0, 1⟩ : S_api_Point), (⟨(-1), 1⟩ : S_api_Point), (⟨(-1), 0⟩ : S_api_Point), (⟨(-1), (-1)⟩ : S_api_Point), (⟨0, (-1)⟩ : S_api_Point), (⟨1, (-1)⟩ : S_api_Point)] : List S_api_Point) d0) fun x1 => some x1

/-- tarnfell/road.amount -/
def road_amount_p (l0 : List S_api_Point)  : Option (Int) := if ((l0.length : Int) == 0) then some 10 else if decide ((l0.length : Int) > 65536) then some 4 else some 0

/-- tarnfell/noise.CheckPlace -/
def noise_CheckPlace_p (x0 : Int) (y0 : Int)  : Option (Int) := if ((decide (x0 < (-4194304))) || ((decide (x0 > 4194304)) || ((decide (y0 < (-4194304))) || (decide (y0 > 4194304))))) then some 5 else some 0

/-- tarnfell/road.place -/
def road_place_p (p0 : S_api_Point)  : Option (Int) := bnd (noise_CheckPlace_p p0.X p0.Y) fun r1 => some r1

/-- tarnfell/water.Direction -/
def water_Direction_p (a0 : S_api_Point) (b0 : S_api_Point)  : Option (Int) := bnd (forI (fun (i1 : Nat) (s2 : Unit) => bnd (water_Toward_p (i1 : Int)) fun r1 => if (((addI a0.X r1.X) == b0.X) && ((addI a0.Y r1.Y) == b0.Y)) then some (.out (i1 : Int)) else some (.go ())) 8 0 ()) fun (x1 : Ctl (Unit) (Int)) => (match x1 with | .go s1 => some (-1) | .out e0 => some e0)

/-- tarnfell/road.Between -/
def road_Between_p (a0 : S_api_Point) (b0 : S_api_Point)  : Option (Int × Int) := bnd (some ((maxI (maxI (maxI (subI b0.X a0.X) (subI 0 (subI b0.X a0.X))) (subI b0.Y a0.Y)) (subI 0 (subI b0.Y a0.Y))))) fun n_1 => if ((n_1 == 0) || (((subI b0.X a0.X) != 0) && (((subI b0.Y a0.Y) != 0) && (((subI b0.X a0.X) != (subI b0.Y a0.Y)) && ((subI b0.X a0.X) != (subI 0 (subI b0.Y a0.Y))))))) then some ((-1), 0) else bnd (guardP (n_1 != 0)) fun u1 => bnd (water_Direction_p (⟨0, 0⟩ : S_api_Point) (⟨quoI (subI b0.X a0.X) n_1, quoI (subI b0.Y a0.Y) n_1⟩ : S_api_Point)) fun r1 => some (r1, n_1)

/-- tarnfell/road.checkWay -/
def road_checkWay_p (way0 : List S_api_Point)  : Option (Int) := bnd (road_amount_p way0) fun r1 => if (r1 != 0) then some r1 else bnd (forI (fun (i1 : Nat) (s2 : Unit) => bnd (bnd (idx way0 (i1 : Int)) fun x3 => bnd (road_place_p x3) fun r2 => if (r2 != 0) then some (.out r2) else if ((i1 : Int) == 0) then some (.go ()) else bnd (idx way0 (subI (i1 : Int) 1)) fun x4 => bnd (road_Between_p x4 x3) fun r3 => if ((r3.1 == (-1)) || (decide (r3.2 > 12))) then some (.out 2) else some (.go ())) fun (x2 : Ctl (Unit) (Int)) => (match x2 with | .go s3 => some (.go ()) | .out e0 => some (.out e0))) way0.length 0 ()) fun (x1 : Ctl (Unit) (Int)) => (match x1 with | .go s1 => some 0 | .out e0 => some e0)

/-- tarnfell/road.Parse -/
def road_Parse_p (text0 : ByteArray)  : Option ((List S_api_Point) × Int) := if decide ((text0.size : Int) > 4194304) then some ([], 4) else bnd (splitP text0 (⟨#[32]⟩ : ByteArray)) fun r1 => if decide ((r1.length : Int) < 2) then some ([], 9) else bnd (idx r1 0) fun x1 => bnd (field_Integer_p x1) fun r2 => bnd (idx r1 1) fun x2 => bnd (field_Integer_p x2) fun r3 => if ((!r2.2) || (!r3.2)) then some ([], 9) else bnd (slc r1 2 (r1.length : Int)) fun l1 => bnd (forI (fun (i1 : Nat) (s2 : (List S_api_Point) × Int × Int) => bnd (idx l1 (i1 : Int)) fun x4 => bnd (road_readStep_p x4) fun r4 => if !r4.2.2 then some (.out ([], 9)) else bnd (water_Toward_p r4.1) fun r5 => bnd (app s2.1 ([(⟨addI s2.2.1 (mulI r4.2.1 r5.X), addI s2.2.2 (mulI r4.2.1 r5.Y)⟩ : S_api_Point)] : List S_api_Point)) fun l2 => some (.go (l2, addI s2.2.1 (mulI r4.2.1 r5.X), addI s2.2.2 (mulI r4.2.1 r5.Y)))) l1.length 0 (([(⟨r2.1, r3.1⟩ : S_api_Point)] : List S_api_Point), r2.1, r3.1)) fun (x3 : Ctl ((List S_api_Point) × Int × Int) (((List S_api_Point) × Int))) => (match x3 with | .go s1 => bnd (road_checkWay_p s1.1) fun r6 => if (r6 != 0) then some ([], r6) else some (s1.1, 0) | .out e0 => some e0)

/-- tarnfell/field.side -/
def field_side_p (n0 : Int)  : Option (Bool) := some ((decide (n0 ≥ 1)) && (decide (n0 ≤ 512)))

/-- tarnfell/field.CheckRegion -/
def field_CheckRegion_p (r0 : S_api_Region)  : Option (Int) := bnd (bnd (field_side_p r0.W) fun r1 => if !r1 then some true else bnd (field_side_p r0.H) fun r2 => some (!r2)) fun (c1 : Bool) => if c1 then some 3 else if decide ((mulI r0.W r0.H) > 65536) then some 4 else if ((decide (r0.X < (-4194304))) || ((decide (r0.Y < (-4194304))) || ((decide (r0.X > (subI 4194304 r0.W))) || (decide (r0.Y > (subI 4194304 r0.H)))))) then some 5 else some 0

/-- tarnfell/field.finite -/
def field_finite_p (v0 : Nat)  : Option (Bool) := some ((fge .f32 v0 4286578687) && (fle .f32 v0 2139095039))

/-- tarnfell/field.height -/
def field_height_p (v0 : Nat)  : Option (Bool) := some ((fge .f32 v0 3380609024) && (fle .f32 v0 1233125376))

/-- tarnfell/field.Heights -/
def field_Heights_p (l0 : List Nat)  : Option (Int) := bnd (forI (fun (i1 : Nat) (s2 : Unit) => bnd (idx l0 (i1 : Int)) fun x2 => bnd (field_finite_p x2) fun r1 => if !r1 then some (.out 2) else some (.go ())) l0.length 0 ()) fun (x1 : Ctl (Unit) (Int)) => (match x1 with | .go s1 => bnd (forI (fun (i2 : Nat) (s4 : Unit) => bnd (idx l0 (i2 : Int)) fun x4 => bnd (field_height_p x4) fun r2 => if !r2 then some (.out 3) else some (.go ())) l0.length 0 ()) fun (x3 : Ctl (Unit) (Int)) => (match x3 with | .go s3 => some 0 | .out e0 => some e0) | .out e0 => some e0)

/-- tarnfell/field.Check -/
def field_Check_p (f0 : S_api_Field)  : Option (Int) := bnd (field_CheckRegion_p f0.Region) fun r1 => if (r1 != 0) then some r1 else if ((f0.V.length : Int) != (mulI f0.Region.W f0.Region.H)) then some 2 else bnd (field_Heights_p f0.V) fun r2 => some r2

/-- tarnfell/field.CheckAll -/
def field_CheckAll_p (l0 : List S_api_Field)  : Option (Int) := bnd (forI (fun (i1 : Nat) (s2 : Unit) => bnd (idx l0 (i1 : Int)) fun x2 => bnd (field_Check_p x2) fun r1 => if (r1 != 0) then some (.out r1) else some (.go ())) l0.length 0 ()) fun (x1 : Ctl (Unit) (Int)) => (match x1 with | .go s1 => some 0 | .out e0 => some e0)

/-- tarnfell/road.CheckRules$1 -/
def road_CheckRules_1_p (v0 : Nat)  : Option (Bool) := some ((flt .f32 v0 0) || (fgt .f32 v0 1149239296))

/-- slices.IndexFunc[[]float32,float32] -/
def slices_IndexFunc_float32_float32_p (s0 : List Nat)  : Option (Int) := bnd (forI (fun (i1 : Nat) (s2 : Unit) => bnd (idx s0 (i1 : Int)) fun x2 => bnd (road_CheckRules_1_p x2) fun r1 => if r1 then some (.out (i1 : Int)) else some (.go ())) s0.length 0 ()) fun (x1 : Ctl (Unit) (Int)) => (match x1 with | .go s1 => some (-1) | .out e0 => some e0)

/-- slices.ContainsFunc[[]float32,float32] -/
def slices_ContainsFunc_float32_float32_p (s0 : List Nat)  : Option (Bool) := bnd (slices_IndexFunc_float32_float32_p s0) fun r1 => some (decide (r1 ≥ 0))

/-- tarnfell/road.CheckRules -/
def road_CheckRules_p (s0 : S_api_RoadRules)  : Option (Int) := bnd (field_Heights_p ([s0.Grade, s0.Weight, s0.Bridge, s0.Dear] : List Nat)) fun r1 => if (r1 != 0) then some r1 else bnd (forI (fun (i1 : Nat) (s2 : Unit) => bnd (idx ([s0.Grade, s0.Weight, s0.Dear] : List Nat) (i1 : Int)) fun x2 => if ((flt .f32 x2 0) || (fgt .f32 x2 1149239296)) then some (.out 3) else some (.go ())) 3 0 ()) fun (x1 : Ctl (Unit) (Int)) => (match x1 with | .go s1 => if ((flt .f32 s0.Bridge 1065353216) || ((fgt .f32 s0.Bridge 1149239296) || ((s0.Span != 0) && ((decide (s0.Span < 2)) || (decide (s0.Span > 12)))))) then some 3 else if decide ((s0.Costly.length : Int) > 1) then some 4 else bnd (field_CheckAll_p s0.Costly) fun r2 => if (r2 != 0) then some r2 else bnd (forI (fun (i2 : Nat) (s4 : Unit) => bnd (idx s0.Costly (i2 : Int)) fun x4 => bnd (slices_ContainsFunc_float32_float32_p x4.V) fun r3 => if r3 then some (.out 3) else some (.go ())) s0.Costly.length 0 ()) fun (x3 : Ctl (Unit) (Int)) => (match x3 with | .go s3 => some 0 | .out e0 => some e0) | .out e0 => some e0)

/-- tarnfell/road.check -/
def road_check_p (f0 : S_api_Field) (s0 : S_api_RoadRules)  : Option (Int) := bnd (field_Check_p f0) fun r1 => if (r1 != 0) then some r1 else bnd (road_CheckRules_p s0) fun r2 => if (r2 != 0) then some r2 else bnd (forI (fun (i1 : Nat) (s2 : Unit) => bnd (idx s0.Costly (i1 : Int)) fun x2 => if !(((x2.Region.X == f0.Region.X) && ((x2.Region.Y == f0.Region.Y) && ((x2.Region.W == f0.Region.W) && ((x2.Region.H == f0.Region.H) && true))))) then some (.out 5) else some (.go ())) s0.Costly.length 0 ()) fun (x1 : Ctl (Unit) (Int)) => (match x1 with | .go s1 => some 0 | .out e0 => some e0)

/-- tarnfell/field.Place -/
def field_Place_p (r0 : S_api_Region) (x0 : Int) (y0 : Int)  : Option (Int × Bool) := if ((decide (x0 < r0.X)) || ((decide (y0 < r0.Y)) || ((decide (x0 ≥ (addI r0.X r0.W))) || (decide (y0 ≥ (addI r0.Y r0.H)))))) then some (0, false) else some (subI (addI (mulI (subI y0 r0.Y) r0.W) x0) r0.X, true)

/-- tarnfell/road.inside -/
def road_inside_p (f0 : S_api_Field) (l0 : List S_api_Point)  : Option (Int) := bnd (forI (fun (i1 : Nat) (s2 : Unit) => bnd (idx l0 (i1 : Int)) fun x2 => bnd (field_Place_p f0.Region x2.X x2.Y) fun r1 => if !r1.2 then some (.out 5) else some (.go ())) l0.length 0 ()) fun (x1 : Ctl (Unit) (Int)) => (match x1 with | .go s1 => some 0 | .out e0 => some e0)

/-- (tarnfell/road.queue).Len -/
def road_queue_Len_p (q0 : List S_road_reached)  : Option (Int) := some (q0.length : Int)

/-- (tarnfell/road.queue).Swap -/
def road_queue_Swap_p (q0 : List S_road_reached) (i0 : Int) (j0 : Int)  : Option ((List S_road_reached)) := bnd (idx q0 j0) fun x1 => bnd (idx q0 i0) fun x2 => bnd (some (q0.set i0.toNat x1)) fun l1 => bnd (idx l1 j0) fun x3 => bnd (some (l1.set j0.toNat x2)) fun l2 => some l2

/-- (tarnfell/road.queue).Less -/
def road_queue_Less_p (q0 : List S_road_reached) (i0 : Int) (j0 : Int)  : Option (Bool) := bnd (idx q0 i0) fun x1 => bnd (idx q0 j0) fun x2 => some (flt .f32 x1.price x2.price)

/-- container/heap.down -/
def container_heap_down_p (h0 : List S_road_reached) (i00 : Int) (n0 : Int)  : Option (Bool × (List S_road_reached)) := bnd (loopP (fun (s1 : Int × (List S_road_reached)) => if ((decide ((addI (mulI 2 s1.1) 1) ≥ n0)) || (decide ((addI (mulI 2 s1.1) 1) < 0))) then some (.out (s1.1, s1.2)) else bnd (some (addI (addI (mulI 2 s1.1) 1) 1)) fun j2_1 => bnd (if decide (j2_1 < n0) then bnd (road_queue_Less_p s1.2 j2_1 (addI (mulI 2 s1.1) 1)) fun r1 => some r1 else some false) fun (c1 : Bool) => bnd (if c1 then some j2_1 else some (addI (mulI 2 s1.1) 1)) fun (s2 : Int) => bnd (road_queue_Less_p s1.2 s2 s1.1) fun r2 => if !r2 then some (.out (s1.1, s1.2)) else bnd (road_queue_Swap_p s1.2 s1.1 s2) fun r3 => some (.go (s2, r3))) (i00, h0)) fun (x1 : Int × (List S_road_reached)) => some (decide (x1.1 > i00), x1.2)

/-- (*tarnfell/road.queue).Pop -/
def road_queue_Pop_p (q0 : List S_road_reached)  : Option (S_road_reached × (List S_road_reached)) := bnd (idx q0 (subI (q0.length : Int) 1)) fun x1 => bnd (slc q0 0 (subI (q0.length : Int) 1)) fun l1 => some (x1, l1)

/-- container/heap.Pop -/
def container_heap_Pop_p (h0 : List S_road_reached)  : Option (S_road_reached × (List S_road_reached)) := bnd (road_queue_Len_p h0) fun r1 => bnd (road_queue_Swap_p h0 0 (subI r1 1)) fun r2 => bnd (container_heap_down_p r2 0 (subI r1 1)) fun r3 => bnd (road_queue_Pop_p r3.2) fun r4 => some (r4.1, r4.2)

/-- (tarnfell/road.ground).beside -/
def road_ground_beside_p (g0 : S_road_ground) (k0 : Int) (d0 : Int) (n0 : Int)  : Option (Int × Bool) := bnd (water_Toward_p d0) fun r1 => bnd (guardP (g0.f.Region.W != 0)) fun u1 => bnd (some (addI (remI k0 g0.f.Region.W) (mulI n0 r1.X))) fun x_1 => bnd (some (addI (quoI k0 g0.f.Region.W) (mulI n0 r1.Y))) fun y_1 => if ((decide (x_1 < 0)) || ((decide (y_1 < 0)) || ((decide (x_1 ≥ g0.f.Region.W)) || (decide (y_1 ≥ g0.f.Region.H))))) then some (0, false) else some (addI (mulI y_1 g0.f.Region.W) x_1, true)

/-- tarnfell/water.StepLength -/
def water_StepLength_p (d0 : Int)  : Option (Nat) := if ((remI d0 2) == 1) then some 1068827891 else some 1065353216

/-- tarnfell/road.length -/
def road_length_p (d0 : Int) (n0 : Int)  : Option (Nat) := if (n0 == 1) then bnd (water_StepLength_p d0) fun r1 => some r1 else bnd (water_StepLength_p d0) fun r2 => bnd (fmul .f32 (fofI .f32 n0) r2) fun r3 => some r3

/-- math.Abs -/
def math_Abs_p (x0 : Nat)  : Option (Nat) := some ((bitsI .andNot .u64 (x0 : Int) 9223372036854775808).toNat)

/-- tarnfell/noise.Magnitude -/
def noise_Magnitude_p (v0 : Nat)  : Option (Nat) := bnd (fconv .f32 .f64 v0) fun r1 => bnd (math_Abs_p r1) fun r2 => bnd (fconv .f64 .f32 r2) fun r3 => some r3

/-- tarnfell/road.grade -/
def road_grade_p (a0 : Nat) (b0 : Nat) (long0 : Nat)  : Option (Nat) := bnd (fsub .f32 b0 a0) fun r1 => bnd (noise_Magnitude_p r1) fun r2 => bnd (fdiv .f32 r2 long0) fun r3 => some r3

/-- (tarnfell/road.ground).cost -/
def road_ground_cost_p (g0 : S_road_ground) (from0 : Int) (to0 : Int) (d0 : Int) (n0 : Int) (top0 : Nat)  : Option (Nat × Bool) := bnd (idx g0.f.V from0) fun x1 => bnd (idx g0.f.V to0) fun x2 => bnd (road_length_p d0 n0) fun r1 => bnd (road_grade_p x1 x2 r1) fun r2 => if fgt .f32 r2 g0.s.Grade then some (0, false) else if decide (n0 > 1) then bnd (bnd (fmul .f32 r1 g0.s.Bridge) fun r3 => bnd (fadd .f32 r3 g0.s.Dear) fun r4 => if flt .f32 top0 x1 then some (r4, flt .f32 top0 x2) else some (r4, false)) fun (c1 : Nat × Bool) => some (c1.1, c1.2) else bnd (fmul .f32 g0.s.Weight r2) fun r5 => bnd (fmul .f32 r5 r2) fun r6 => bnd (fadd .f32 1065353216 r6) fun r7 => bnd (fmul .f32 r1 r7) fun r8 => bnd (forS (fun (i1 : Nat) (s1 : Nat) => bnd (idx g0.s.Costly (i1 : Int)) fun x4 => bnd (idx x4.V to0) fun x5 => bnd (fadd .f32 1065353216 x5) fun r9 => bnd (fmul .f32 s1 r9) fun r10 => some r10) g0.s.Costly.length 0 r8) fun (x3 : Nat) => some (x3, true)

/-- (*tarnfell/road.queue).Push -/
def road_queue_Push_p (q0 : List S_road_reached) (x0 : S_road_reached)  : Option ((List S_road_reached)) := bnd (app q0 ([x0] : List S_road_reached)) fun l1 => some l1

/-- container/heap.up -/
def container_heap_up_p (h0 : List S_road_reached) (j0 : Int)  : Option ((List S_road_reached)) := bnd (loopP (fun (s1 : Int × (List S_road_reached)) => bnd (if ((quoI (subI s1.1 1) 2) == s1.1) then some true else bnd (road_queue_Less_p s1.2 s1.1 (quoI (subI s1.1 1) 2)) fun r1 => some (!r1)) fun (c1 : Bool) => if c1 then some (.out s1.2) else bnd (road_queue_Swap_p s1.2 (quoI (subI s1.1 1) 2) s1.1) fun r2 => some (.go (quoI (subI s1.1 1) 2, r2))) (j0, h0)) fun (x1 : (List S_road_reached)) => some x1

/-- container/heap.Push -/
def container_heap_Push_p (h0 : List S_road_reached) (x0 : S_road_reached)  : Option ((List S_road_reached)) := bnd (road_queue_Push_p h0 x0) fun r1 => bnd (road_queue_Len_p r1) fun r2 => bnd (container_heap_up_p r1 (subI r2 1)) fun r3 => some r3

/-- (tarnfell/road.ground).prices$1 -/
def road_ground_prices_1_p (to0 : Int) (c0 : Nat) (p0 : S_road_reached) (p00_0 : Int) (p00_1 : List Nat) (p00_2 : List Bool) (p000 : List S_road_reached)  : Option ((List Nat) × (List Bool) × (List S_road_reached)) := bnd (fadd .f32 p0.price c0) fun r1 => bnd (bnd (idx p00_2 to0) fun x1 => bnd (idx p00_2 to0) fun x2 => if !x2 then some true else bnd (idx p00_1 to0) fun x3 => bnd (idx p00_1 to0) fun x4 => some (flt .f32 r1 x4)) fun (c1 : Bool) => if c1 then bnd (idx p00_1 to0) fun x5 => bnd (some (p00_1.set to0.toNat r1)) fun l1 => bnd (idx p00_2 to0) fun x6 => bnd (some (p00_2.set to0.toNat true)) fun l2 => bnd (container_heap_Push_p p000 (⟨r1, to0⟩ : S_road_reached)) fun r2 => some (l1, l2, r2) else some (p00_1, p00_2, p000)

/-- (tarnfell/road.ground).each -/
def road_ground_each_p (g0 : S_road_ground) (k0 : Int) (visit0_c0 : S_road_reached) (visit0_c1_0 : Int) (visit0_c1_1 : List Nat) (visit0_c1_2 : List Bool) (visit0_c2 : List S_road_reached)  : Option ((List Nat) × (List Bool) × (List S_road_reached)) := bnd (forS (fun (i1 : Nat) (s1 : (List Nat) × (List Bool) × (List S_road_reached)) => bnd (bnd (loopP (fun (s3 : Nat × Int × (List Nat) × (List Bool) × (List S_road_reached)) => if decide (s3.2.1 ≤ (maxI g0.s.Span 1)) then bnd (road_ground_beside_p g0 k0 (i1 : Int) s3.2.1) fun r1 => if !r1.2 then some (.out (s3.2.2.1, s3.2.2.2.1, s3.2.2.2.2)) else bnd (road_ground_cost_p g0 k0 r1.1 (i1 : Int) s3.2.1 s3.1) fun r2 => bnd (if r2.2 then bnd (road_ground_prices_1_p r1.1 r2.1 visit0_c0 visit0_c1_0 s3.2.2.1 s3.2.2.2.1 s3.2.2.2.2) fun r3 => some (r3.1, r3.2.1, r3.2.2) else some (s3.2.2.1, s3.2.2.2.1, s3.2.2.2.2)) fun (s4 : (List Nat) × (List Bool) × (List S_road_reached)) => bnd (idx g0.f.V r1.1) fun x3 => bnd (fmax .f32 s3.1 x3) fun r4 => some (.go (r4, addI s3.2.1 1, s4.1, s4.2.1, s4.2.2)) else some (.out (s3.2.2.1, s3.2.2.2.1, s3.2.2.2.2))) (3380609024, 1, s1.1, s1.2.1, s1.2.2)) fun (x2 : (List Nat) × (List Bool) × (List S_road_reached)) => some (x2.1, x2.2.1, x2.2.2)) fun (s2 : (List Nat) × (List Bool) × (List S_road_reached)) => some (s2.1, s2.2.1, s2.2.2)) 8 0 (visit0_c1_1, visit0_c1_2, visit0_c2)) fun (x1 : (List Nat) × (List Bool) × (List S_road_reached)) => some (x1.1, x1.2.1, x1.2.2)

/-- (tarnfell/road.ground).prices -/
def road_ground_prices_p (g0 : S_road_ground) (from0 : Int)  : Option (S_road_prices) := bnd (mk2 (0 : Nat) (g0.f.V.length : Int) (g0.f.V.length : Int)) fun l1 => bnd (mk2 (false : Bool) (g0.f.V.length : Int) (g0.f.V.length : Int)) fun l2 => bnd (mk2 (false : Bool) (g0.f.V.length : Int) (g0.f.V.length : Int)) fun l3 => bnd (idx l2 from0) fun x1 => bnd (some (l2.set from0.toNat true)) fun l4 => bnd (loopP (fun (s1 : (List S_road_reached) × (List Bool) × (List Bool) × (List Nat)) => if decide ((s1.1.length : Int) > 0) then bnd (container_heap_Pop_p s1.1) fun r1 => bnd (idx s1.2.2.1 r1.1.k) fun x3 => if x3 then some (.go (r1.2, s1.2.1, s1.2.2.1, s1.2.2.2)) else bnd (idx s1.2.2.1 r1.1.k) fun x4 => bnd (some (s1.2.2.1.set r1.1.k.toNat true)) fun l5 => bnd (road_ground_each_p g0 r1.1.k r1.1 from0 s1.2.2.2 s1.2.1 r1.2) fun r2 => some (.go (r2.2.2, r2.2.1, l5, r2.1)) else some (.out (s1.1, s1.2.1, s1.2.2.1, s1.2.2.2))) (([(⟨0, from0⟩ : S_road_reached)] : List S_road_reached), l4, l3, l1)) fun (x2 : (List S_road_reached) × (List Bool) × (List Bool) × (List Nat)) => some (⟨from0, x2.2.2.2, x2.2.1⟩ : S_road_prices)

/-- tarnfell/road.pricesFrom -/
def road_pricesFrom_p (f0 : S_api_Field) (s0 : S_api_RoadRules) (from0 : S_api_Point)  : Option (S_road_prices × Int) := bnd (road_check_p f0 s0) fun r1 => if (r1 != 0) then some ((⟨0, [], []⟩ : S_road_prices), r1) else bnd (road_inside_p f0 ([from0] : List S_api_Point)) fun r2 => if (r2 != 0) then some ((⟨0, [], []⟩ : S_road_prices), r2) else bnd (field_Place_p f0.Region from0.X from0.Y) fun r3 => bnd (road_ground_prices_p (⟨f0, s0⟩ : S_road_ground) r3.1) fun r4 => some (r4, 0)

/-- (tarnfell/road.ground).hops$1 -/
def road_ground_hops_1_p (to0 : Int) (c0 : Nat) (p0 : List Int) (p00 : S_road_prices) (p000 : Int) (p0000 : List Int)  : Option ((List Int) × (List Int)) := bnd (bnd (idx p0 to0) fun x1 => bnd (idx p0 to0) fun x2 => if (x2 == (-1)) then bnd (idx p00.price p000) fun x3 => bnd (fadd .f32 x3 c0) fun r1 => bnd (idx p00.price to0) fun x4 => some (feq .f32 r1 x4) else some false) fun (c1 : Bool) => if c1 then bnd (idx p0 p000) fun x5 => bnd (idx p0 to0) fun x6 => bnd (some (p0.set to0.toNat (addI x5 1))) fun l1 => bnd (app p0000 ([to0] : List Int)) fun l2 => some (l1, l2) else some (p0, p0000)

/-- (tarnfell/road.ground).each -/
def road_ground_each_v1_p (g0 : S_road_ground) (k0 : Int) (visit0_c0 : List Int) (visit0_c1 : S_road_prices) (visit0_c2 : Int) (visit0_c3 : List Int)  : Option ((List Int) × (List Int)) := bnd (forS (fun (i1 : Nat) (s1 : (List Int) × (List Int)) => bnd (bnd (loopP (fun (s3 : Nat × Int × (List Int) × (List Int)) => if decide (s3.2.1 ≤ (maxI g0.s.Span 1)) then bnd (road_ground_beside_p g0 k0 (i1 : Int) s3.2.1) fun r1 => if !r1.2 then some (.out (s3.2.2.1, s3.2.2.2)) else bnd (road_ground_cost_p g0 k0 r1.1 (i1 : Int) s3.2.1 s3.1) fun r2 => bnd (if r2.2 then bnd (road_ground_hops_1_p r1.1 r2.1 s3.2.2.1 visit0_c1 visit0_c2 s3.2.2.2) fun r3 => some (r3.1, r3.2) else some (s3.2.2.1, s3.2.2.2)) fun (s4 : (List Int) × (List Int)) => bnd (idx g0.f.V r1.1) fun x3 => bnd (fmax .f32 s3.1 x3) fun r4 => some (.go (r4, addI s3.2.1 1, s4.1, s4.2)) else some (.out (s3.2.2.1, s3.2.2.2))) (3380609024, 1, s1.1, s1.2)) fun (x2 : (List Int) × (List Int)) => some (x2.1, x2.2)) fun (s2 : (List Int) × (List Int)) => some (s2.1, s2.2)) 8 0 (visit0_c0, visit0_c3)) fun (x1 : (List Int) × (List Int)) => some (x1.1, x1.2)

/-- (tarnfell/road.ground).hops -/
def road_ground_hops_p (g0 : S_road_ground) (p0 : S_road_prices)  : Option ((List Int)) := bnd (mk2 (0 : Int) (p0.price.length : Int) (p0.price.length : Int)) fun l1 => bnd (forS (fun (i1 : Nat) (s1 : (List Int)) => bnd (idx s1 (i1 : Int)) fun x2 => bnd (some (s1.set (i1 : Int).toNat (-1))) fun l2 => some l2) l1.length 0 l1) fun (x1 : (List Int)) => bnd (idx x1 p0.from0) fun x3 => bnd (some (x1.set p0.from0.toNat 0)) fun l3 => bnd (loopP (fun (s2 : Int × (List Int) × (List Int)) => if decide (s2.1 < (s2.2.1.length : Int)) then bnd (idx s2.2.1 s2.1) fun x5 => bnd (road_ground_each_v1_p g0 x5 s2.2.2 p0 x5 s2.2.1) fun r1 => some (.go (addI s2.1 1, r1.2, r1.1)) else some (.out (s2.2.1, s2.2.2))) (0, ([p0.from0] : List Int), l3)) fun (x4 : (List Int) × (List Int)) => some x4.2

/-- (tarnfell/road.ground).point -/
def road_ground_point_p (g0 : S_road_ground) (k0 : Int)  : Option (S_api_Point) := bnd (guardP (g0.f.Region.W != 0)) fun u1 => some (⟨addI g0.f.Region.X (remI k0 g0.f.Region.W), addI g0.f.Region.Y (quoI k0 g0.f.Region.W)⟩ : S_api_Point)

/-- (tarnfell/road.ground).step -/
def road_ground_step_p (g0 : S_road_ground) (a0 : S_api_Point) (b0 : S_api_Point)  : Option (Nat × Bool) := bnd (road_Between_p a0 b0) fun r1 => if ((r1.1 == (-1)) || (decide (r1.2 > (maxI g0.s.Span 1)))) then some (0, false) else bnd (field_Place_p g0.f.Region a0.X a0.Y) fun r2 => bnd (loopP (fun (s1 : Nat × Int) => if decide (s1.2 < r1.2) then bnd (road_ground_beside_p g0 r2.1 r1.1 s1.2) fun r3 => bnd (idx g0.f.V r3.1) fun x2 => bnd (fmax .f32 s1.1 x2) fun r4 => some (.go (r4, addI s1.2 1)) else some (.out s1.1)) (3380609024, 1)) fun (x1 : Nat) => bnd (road_ground_beside_p g0 r2.1 r1.1 r1.2) fun r5 => bnd (road_ground_cost_p g0 r2.1 r5.1 r1.1 r1.2 x1) fun r6 => if !r6.2 then some (0, false) else some (r6.1, true)

/-- (tarnfell/road.ground).before -/
def road_ground_before_p (g0 : S_road_ground) (p0 : S_road_prices) (hops0 : List Int) (k0 : Int)  : Option (Int) := bnd (forS (fun (i1 : Nat) (s1 : Int) => bnd (bnd (loopP (fun (s3 : Int × Int) => if decide (s3.2 ≤ (maxI g0.s.Span 1)) then bnd (bnd (road_ground_beside_p g0 k0 (i1 : Int) s3.2) fun r1 => if !r1.2 then some (.out ()) else bnd (if decide (r1.1 ≥ s3.1) then some true else bnd (idx hops0 r1.1) fun x4 => bnd (idx hops0 k0) fun x5 => some (x4 != (subI x5 1))) fun (c1 : Bool) => if c1 then some (.go s3.1) else bnd (road_ground_point_p g0 r1.1) fun r2 => bnd (road_ground_point_p g0 k0) fun r3 => bnd (road_ground_step_p g0 r2 r3) fun r4 => bnd (if r4.2 then bnd (idx p0.price r1.1) fun x6 => bnd (fadd .f32 x6 r4.1) fun r5 => bnd (idx p0.price k0) fun x7 => some (feq .f32 r5 x7) else some false) fun (c2 : Bool) => if c2 then some (.go r1.1) else some (.go s3.1)) fun (x3 : Ctl (Int) (Unit)) => (match x3 with | .go s4 => some (.go (s4, addI s3.2 1)) | .out e0 => some (.out s3.1)) else some (.out s3.1)) (s1, 1)) fun (x2 : Int) => some x2) fun (s2 : Int) => some s2) 8 0 (hops0.length : Int)) fun (x1 : Int) => some x1

/-- slices.Reverse[[]tarnfell/api.Point,tarnfell/api.Point] -/
def slices_Reverse_api_Point_api_Point_p (s0 : List S_api_Point)  : Option ((List S_api_Point)) := bnd (loopP (fun (s1 : Int × Int × (List S_api_Point)) => if decide (s1.1 < s1.2.1) then bnd (idx s1.2.2 s1.2.1) fun x2 => bnd (idx s1.2.2 s1.1) fun x3 => bnd (some (s1.2.2.set s1.1.toNat x2)) fun l1 => bnd (idx l1 s1.2.1) fun x4 => bnd (some (l1.set s1.2.1.toNat x3)) fun l2 => some (.go (addI s1.1 1, subI s1.2.1 1, l2)) else some (.out s1.2.2)) (0, subI (s0.length : Int) 1, s0)) fun (x1 : (List S_api_Point)) => some x1

/-- (tarnfell/road.ground).way -/
def road_ground_way_p (g0 : S_road_ground) (p0 : S_road_prices) (to0 : Int)  : Option ((List S_api_Point)) := bnd (road_ground_hops_p g0 p0) fun r1 => bnd (road_ground_point_p g0 to0) fun r2 => bnd (loopP (fun (s1 : Int × (List S_api_Point)) => bnd (idx r1 s1.1) fun x2 => if decide (x2 > 0) then bnd (road_ground_before_p g0 p0 r1 s1.1) fun r3 => bnd (road_ground_point_p g0 r3) fun r4 => bnd (app s1.2 ([r4] : List S_api_Point)) fun l1 => some (.go (r3, l1)) else some (.out s1.2)) (to0, ([r2] : List S_api_Point))) fun (x1 : (List S_api_Point)) => bnd (slices_Reverse_api_Point_api_Point_p x1) fun r5 => some r5

/-- tarnfell/road.Way -/
def road_Way_p (f0 : S_api_Field) (s0 : S_api_RoadRules) (from0 : S_api_Point) (to0 : S_api_Point)  : Option ((List S_api_Point) × Nat × Int) := bnd (road_check_p f0 s0) fun r1 => if (r1 != 0) then some ([], 0, r1) else bnd (road_inside_p f0 ([from0, to0] : List S_api_Point)) fun r2 => if (r2 != 0) then some ([], 0, r2) else bnd (road_pricesFrom_p f0 s0 from0) fun r3 => bnd (field_Place_p f0.Region to0.X to0.Y) fun r4 => bnd (idx r3.1.ok r4.1) fun x1 => if !x1 then some ([], 0, 11) else bnd (idx r3.1.price r4.1) fun x2 => bnd (road_ground_way_p (⟨f0, s0⟩ : S_road_ground) r3.1 r4.1) fun r5 => some (r5, x2, 0)

/-- tarnfell/tarnlaw2.leads -/
def tarnlaw2_leads_p   : Option (Bool) := bnd (road_Way_p (⟨(⟨0, 0, 2, 1⟩ : S_api_Region), ([0, 0] : List Nat)⟩ : S_api_Field) (⟨0, 0, 1065353216, 0, 0, []⟩ : S_api_RoadRules) (⟨0, 0⟩ : S_api_Point) (⟨1, 0⟩ : S_api_Point)) fun r1 => some ((r1.2.2 == 0) && (((r1.1.length : Int) == 2) && (feq .f32 r1.2.1 1065353216)))

/-- tarnfell/tarnref2.Step -/
def tarnref2_Step_p (d0 : Int)  : Option (Int × Int) := bnd (idx ([1, 1, 0, (-1), (-1), (-1), 0, 1] : List Int) d0) fun x1 => bnd (idx ([0, 1, 1, 1, 0, (-1), (-1), (-1)] : List Int) d0) fun x2 => some (x1, x2)

/-- tarnfell/tarnref2.Leap -/
def tarnref2_Leap_p (a0 : S_api_Point) (b0 : S_api_Point)  : Option (Int × Int) := bnd (forI (fun (i1 : Nat) (s2 : Unit) => bnd (tarnref2_Step_p (i1 : Int)) fun r1 => bnd (some ((maxI (maxI (maxI (subI b0.X a0.X) (subI 0 (subI b0.X a0.X))) (subI b0.Y a0.Y)) (subI 0 (subI b0.Y a0.Y))))) fun n_1 => if ((decide (n_1 > 0)) && (((mulI r1.1 n_1) == (subI b0.X a0.X)) && ((mulI r1.2 n_1) == (subI b0.Y a0.Y)))) then some (.out ((i1 : Int), n_1)) else some (.go ())) 8 0 ()) fun (x1 : Ctl (Unit) ((Int × Int))) => (match x1 with | .go s1 => some (0, 0) | .out e0 => some e0)

/-- tarnfell/tarnref2.WayError -/
def tarnref2_WayError_p (way0 : List S_api_Point)  : Option (Int) := if ((way0.length : Int) == 0) then some 10 else if decide ((way0.length : Int) > 65536) then some 4 else bnd (forI (fun (i1 : Nat) (s2 : Unit) => bnd (bnd (idx way0 (i1 : Int)) fun x3 => if ((decide (x3.X < (-4194304))) || ((decide (x3.X > 4194304)) || ((decide (x3.Y < (-4194304))) || ((decide (x3.Y > 4194304)) && true)))) then some (.out 5) else if decide ((i1 : Int) > 0) then bnd (idx way0 (subI (i1 : Int) 1)) fun x4 => bnd (tarnref2_Leap_p x4 x3) fun r1 => if ((r1.2 == 0) || (decide (r1.2 > 12))) then some (.out 2) else some (.go ()) else some (.go ())) fun (x2 : Ctl (Unit) (Int)) => (match x2 with | .go s3 => some (.go ()) | .out e0 => some (.out e0))) way0.length 0 ()) fun (x1 : Ctl (Unit) (Int)) => (match x1 with | .go s1 => some 0 | .out e0 => some e0)


/-- tarnfell/tarnlaw2.wayText -/
def tarnlaw2_wayText_p (way0 : List S_api_Point)  : Option (ByteArray) := bnd (idx way0 0) fun x1 => bnd (itoaP x1.X) fun r1 => bnd (strAdd r1 (⟨#[32]⟩ : ByteArray)) fun r2 => bnd (itoaP x1.Y) fun r3 => bnd (strAdd r2 r3) fun r4 => bnd (loopP (fun (s1 : ByteArray × Int) => if decide (s1.2 < (way0.length : Int)) then bnd (bnd (idx way0 (subI s1.2 1)) fun x3 => bnd (idx way0 s1.2) fun x4 => bnd (tarnref2_Leap_p x3 x4) fun r5 => bnd (itoaP r5.1) fun r6 => bnd (strAdd (⟨#[32]⟩ : ByteArray) r6) fun r7 => bnd (strAdd s1.1 r7) fun r8 => if decide (r5.2 > 1) then bnd (itoaP r5.2) fun r9 => bnd (strAdd (⟨#[120]⟩ : ByteArray) r9) fun r10 => bnd (strAdd r8 r10) fun r11 => some r11 else some r8) fun (s2 : ByteArray) => some (.go (s2, addI s1.2 1)) else some (.out s1.1)) (r4, 1)) fun (x2 : ByteArray) => some x2

/-- tarnfell/tarnlaw2.WaysRead -/
def tarnlaw2_WaysRead_p (text0 : ByteArray)  : Option (Bool) := bnd (road_Parse_p text0) fun r1 => bnd (bnd (tarnlaw2_leads_p) fun r2 => if !r2 then some true else some (decide ((text0.size : Int) > 10000))) fun (c1 : Bool) => if c1 then bnd (tarnlaw2_leads_p) fun r3 => some r3 else if (r1.2 == 0) then bnd (bnd (tarnref2_WayError_p r1.1) fun r4 => if (r4 == 0) then bnd (tarnlaw2_wayText_p r1.1) fun r5 => some (strEq r5 text0) else some false) fun (c2 : Bool) => some c2 else some (((r1.1.length : Int) == 0) && ((r1.2 == 9) || (r1.2 == 5)))

end Go.Proofs.YtlngccfplnbeiaaGreatDoor
