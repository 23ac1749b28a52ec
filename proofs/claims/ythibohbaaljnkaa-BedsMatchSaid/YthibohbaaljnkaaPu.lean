/- Own text, by program: functions of the program as pure functions. -/
import Derived.Test.YthibohbaaljnkaaTy
namespace Go.Proofs.Ythibohbaaljnkaa
open Sx
set_option linter.all false

/-- tarnfell/field.side -/
def field_side_p (n0 : Int)  : Option (Bool) := some ((decide (n0 ≥ 1)) && (decide (n0 ≤ 512)))

/-- tarnfell/field.CheckRegion -/
def field_CheckRegion_p (r0 : S_api_Region)  : Option (Int) := bnd (bnd (field_side_p r0.W) fun r1 => if !r1 then some true else bnd (field_side_p r0.H) fun r2 => some (!r2)) fun (c1 : Bool) => if c1 then some 3 else if decide ((mulI r0.W r0.H) > 65536) then some 4 else if ((decide (r0.X < (-4194304))) || ((decide (r0.Y < (-4194304))) || ((decide (r0.X > (subI 4194304 r0.W))) || (decide (r0.Y > (subI 4194304 r0.H)))))) then some 5 else some 0

/-- tarnfell/field.finite -/
def field_finite_p (v0 : Nat)  : Option (Bool) := some ((fge .f32 v0 4286578687) && (fle .f32 v0 2139095039))

/-- tarnfell/field.height -/
def field_height_p (v0 : Nat)  : Option (Bool) := some ((fge .f32 v0 3380609024) && (fle .f32 v0 1233125376))

/-- tarnfell/field.Heights -/
def field_Heights_p (l0 : List Nat)  : Option (Int) := bnd (forI (fun (i1 : Nat) (s2 : Unit) => bnd (idx l0 (i1 : Int)) fun x2 => bnd (field_finite_p x2) fun r1 => if !r1 then some (.out 2) else some (.go ())) l0.length 0 ()) fun (x1 : Ctl (Unit) (Int)) => (match x1 with | .go s1 => bnd (forI (fun (i2 : Nat) (s4 : Unit) => bnd (idx l0 (i2 : Int)) fun x4 => bnd (field_height_p x4) fun r2 => if !r2 then some (.out 3) else some (.go ())) l0.length 0 ()) fun (x3 : Ctl (Unit) (Int)) => (match x3 with | .go s3 => some 0 | .out e0 => some e0) | .out e0 => some e0)

/-- tarnfell/field.Check -/
def field_Check_p (f0 : S_api_Field)  : Option (Int) := bnd (field_CheckRegion_p f0.Region) fun r1 => if (r1 != 0) then some r1 else if ((f0.V.length : Int) != (mulI f0.Region.W f0.Region.H)) then some 2 else bnd (field_Heights_p f0.V) fun r2 => some r2

/-- tarnfell/road.amount -/
def road_amount_p (l0 : List S_api_Point)  : Option (Int) := if ((l0.length : Int) == 0) then some 10 else if decide ((l0.length : Int) > 65536) then some 4 else some 0

/-- tarnfell/field.Place -/
def field_Place_p (r0 : S_api_Region) (x0 : Int) (y0 : Int)  : Option (Int × Bool) := if ((decide (x0 < r0.X)) || ((decide (y0 < r0.Y)) || ((decide (x0 ≥ (addI r0.X r0.W))) || (decide (y0 ≥ (addI r0.Y r0.H)))))) then some (0, false) else some (subI (addI (mulI (subI y0 r0.Y) r0.W) x0) r0.X, true)

/-- tarnfell/road.inside -/
def road_inside_p (f0 : S_api_Field) (l0 : List S_api_Point)  : Option (Int) := bnd (forI (fun (i1 : Nat) (s2 : Unit) => bnd (idx l0 (i1 : Int)) fun x2 => bnd (field_Place_p f0.Region x2.X x2.Y) fun r1 => if !r1.2 then some (.out 5) else some (.go ())) l0.length 0 ()) fun (x1 : Ctl (Unit) (Int)) => (match x1 with | .go s1 => some 0 | .out e0 => some e0)

/-- tarnfell/road.onField$1 -/
def road_onField_1_p (p0 : S_api_Point) (p00 : S_api_Field)  : Option (Int) := bnd (road_inside_p p00 ([p0] : List S_api_Point)) fun r1 => some r1

/-- tarnfell/water.Toward -/
def water_Toward_p (d0 : Int)  : Option (S_api_Point) := bnd (idx ([(⟨1, 0⟩ : S_api_Point), (⟨1, 1⟩ : S_api_Point), (⟨0, 1⟩ : S_api_Point), (⟨(-1), 1⟩ : S_api_Point), (⟨(-1), 0⟩ : S_api_Point), (⟨(-1), (-1)⟩ : S_api_Point), (⟨0, (-1)⟩ : S_api_Point), (⟨1, (-1)⟩ : S_api_Point)] : List S_api_Point) d0) fun x1 => some x1

/-- tarnfell/water.Direction -/
def water_Direction_p (a0 : S_api_Point) (b0 : S_api_Point)  : Option (Int) := bnd (forI (fun (i1 : Nat) (s2 : Unit) => bnd (water_Toward_p (i1 : Int)) fun r1 => if (((addI a0.X r1.X) == b0.X) && ((addI a0.Y r1.Y) == b0.Y)) then some (.out (i1 : Int)) else some (.go ())) 8 0 ()) fun (x1 : Ctl (Unit) (Int)) => (match x1 with | .go s1 => some (-1) | .out e0 => some e0)

/-- tarnfell/road.Between -/
def road_Between_p (a0 : S_api_Point) (b0 : S_api_Point)  : Option (Int × Int) := bnd (some ((maxI (maxI (maxI (subI b0.X a0.X) (subI 0 (subI b0.X a0.X))) (subI b0.Y a0.Y)) (subI 0 (subI b0.Y a0.Y))))) fun n_1 => if ((n_1 == 0) || (((subI b0.X a0.X) != 0) && (((subI b0.Y a0.Y) != 0) && (((subI b0.X a0.X) != (subI b0.Y a0.Y)) && ((subI b0.X a0.X) != (subI 0 (subI b0.Y a0.Y))))))) then some ((-1), 0) else bnd (guardP (n_1 != 0)) fun u1 => bnd (water_Direction_p (⟨0, 0⟩ : S_api_Point) (⟨quoI (subI b0.X a0.X) n_1, quoI (subI b0.Y a0.Y) n_1⟩ : S_api_Point)) fun r1 => some (r1, n_1)

/-- tarnfell/road.checkWay -/
def road_checkWay_p (way0 : List S_api_Point) (place0_c0 : S_api_Field)  : Option (Int) := bnd (road_amount_p way0) fun r1 => if (r1 != 0) then some r1 else bnd (forI (fun (i1 : Nat) (s2 : Unit) => bnd (bnd (idx way0 (i1 : Int)) fun x3 => bnd (road_onField_1_p x3 place0_c0) fun r2 => if (r2 != 0) then some (.out r2) else if ((i1 : Int) == 0) then some (.go ()) else bnd (idx way0 (subI (i1 : Int) 1)) fun x4 => bnd (road_Between_p x4 x3) fun r3 => if ((r3.1 == (-1)) || (decide (r3.2 > 12))) then some (.out 2) else some (.go ())) fun (x2 : Ctl (Unit) (Int)) => (match x2 with | .go s3 => some (.go ()) | .out e0 => some (.out e0))) way0.length 0 ()) fun (x1 : Ctl (Unit) (Int)) => (match x1 with | .go s1 => some 0 | .out e0 => some e0)

/-- tarnfell/road.onField -/
def road_onField_p (f0 : S_api_Field) (way0 : List S_api_Point)  : Option (Int) := bnd (field_Check_p f0) fun r1 => if (r1 != 0) then some r1 else bnd (road_checkWay_p way0 f0) fun r2 => some r2

/-- tarnfell/road.heights -/
def road_heights_p (f0 : S_api_Field) (way0 : List S_api_Point)  : Option ((List Nat)) := bnd (mk2 (0 : Nat) (way0.length : Int) (way0.length : Int)) fun l1 => bnd (forS (fun (i1 : Nat) (s1 : (List Nat)) => bnd (idx way0 (i1 : Int)) fun x2 => bnd (field_Place_p f0.Region x2.X x2.Y) fun r1 => bnd (idx f0.V r1.1) fun x3 => bnd (idx s1 (i1 : Int)) fun x4 => bnd (some (s1.set (i1 : Int).toNat x3)) fun l2 => some l2) way0.length 0 l1) fun (x1 : (List Nat)) => some x1

/-- tarnfell/water.StepLength -/
def water_StepLength_p (d0 : Int)  : Option (Nat) := if ((remI d0 2) == 1) then some 1068827891 else some 1065353216

/-- tarnfell/road.length -/
def road_length_p (d0 : Int) (n0 : Int)  : Option (Nat) := if (n0 == 1) then bnd (water_StepLength_p d0) fun r1 => some r1 else bnd (water_StepLength_p d0) fun r2 => bnd (fmul .f32 (fofI .f32 n0) r2) fun r3 => some r3

/-- tarnfell/road.lengths -/
def road_lengths_p (way0 : List S_api_Point)  : Option ((List Nat)) := bnd (slc way0 1 (way0.length : Int)) fun l1 => bnd (forS (fun (i1 : Nat) (s1 : (List Nat)) => bnd (idx l1 (i1 : Int)) fun x2 => bnd (idx way0 (i1 : Int)) fun x3 => bnd (road_Between_p x3 x2) fun r1 => bnd (road_length_p r1.1 r1.2) fun r2 => bnd (app s1 ([r2] : List Nat)) fun l2 => some l2) l1.length 0 ([] : List Nat)) fun (x1 : (List Nat)) => some x1

/-- slices.Clone[[]float32,float32] -/
def slices_Clone_float32_float32_p (s0 : List Nat)  : Option ((List Nat)) := bnd (app ([] : List Nat) s0) fun l1 => some l1

/-- tarnfell/road.filled -/
def road_filled_p (h0 : List Nat) (drops0 : List Nat)  : Option ((List Nat)) := bnd (slices_Clone_float32_float32_p h0) fun r1 => bnd (forS (fun (i1 : Nat) (s1 : (List Nat)) => bnd (bnd (idx drops0 (i1 : Int)) fun x2 => bnd (idx s1 (i1 : Int)) fun x3 => bnd (fsub .f32 x3 x2) fun r2 => bnd (idx s1 (addI (i1 : Int) 1)) fun x4 => if fgt .f32 r2 x4 then bnd (idx s1 (addI (i1 : Int) 1)) fun x5 => bnd (some (s1.set (addI (i1 : Int) 1).toNat r2)) fun l1 => some l1 else some s1) fun (s2 : (List Nat)) => some s2) drops0.length 0 r1) fun (x1 : (List Nat)) => bnd (some (subI (drops0.length : Int) 1)) fun i_1 => bnd (loopP (fun (s3 : Int × (List Nat)) => if decide (s3.1 ≥ 0) then bnd (bnd (idx s3.2 (addI s3.1 1)) fun x7 => bnd (idx drops0 s3.1) fun x8 => bnd (fsub .f32 x7 x8) fun r3 => bnd (idx s3.2 s3.1) fun x9 => if fgt .f32 r3 x9 then bnd (idx s3.2 s3.1) fun x10 => bnd (some (s3.2.set s3.1.toNat r3)) fun l2 => some l2 else some s3.2) fun (s4 : (List Nat)) => some (.go (subI s3.1 1, s4)) else some (.out s3.2)) (i_1, x1)) fun (x6 : (List Nat)) => some x6

/-- tarnfell/field.Value -/
def field_Value_p (v0 : Nat)  : Option (Nat × Int) := bnd (field_height_p v0) fun r1 => if !r1 then some (0, 3) else some (v0, 0)

/-- tarnfell/road.values -/
def road_values_p (l0 : List Nat)  : Option ((List Nat) × Int) := bnd (forI (fun (i1 : Nat) (s2 : Unit) => bnd (idx l0 (i1 : Int)) fun x2 => bnd (field_Value_p x2) fun r1 => if (r1.2 != 0) then some (.out ([], r1.2)) else some (.go ())) l0.length 0 ()) fun (x1 : Ctl (Unit) (((List Nat) × Int))) => (match x1 with | .go s1 => some (l0, 0) | .out e0 => some e0)

/-- tarnfell/road.cut -/
def road_cut_p (h0 : List Nat) (drops0 : List Nat)  : Option ((List Nat)) := bnd (slices_Clone_float32_float32_p h0) fun r1 => bnd (forS (fun (i1 : Nat) (s1 : (List Nat)) => bnd (bnd (idx drops0 (i1 : Int)) fun x2 => bnd (idx s1 (i1 : Int)) fun x3 => bnd (fadd .f32 x3 x2) fun r2 => bnd (idx s1 (addI (i1 : Int) 1)) fun x4 => if flt .f32 r2 x4 then bnd (idx s1 (addI (i1 : Int) 1)) fun x5 => bnd (some (s1.set (addI (i1 : Int) 1).toNat r2)) fun l1 => some l1 else some s1) fun (s2 : (List Nat)) => some s2) drops0.length 0 r1) fun (x1 : (List Nat)) => bnd (some (subI (drops0.length : Int) 1)) fun i_1 => bnd (loopP (fun (s3 : Int × (List Nat)) => if decide (s3.1 ≥ 0) then bnd (bnd (idx s3.2 (addI s3.1 1)) fun x7 => bnd (idx drops0 s3.1) fun x8 => bnd (fadd .f32 x7 x8) fun r3 => bnd (idx s3.2 s3.1) fun x9 => if flt .f32 r3 x9 then bnd (idx s3.2 s3.1) fun x10 => bnd (some (s3.2.set s3.1.toNat r3)) fun l2 => some l2 else some s3.2) fun (s4 : (List Nat)) => some (.go (subI s3.1 1, s4)) else some (.out s3.2)) (i_1, x1)) fun (x6 : (List Nat)) => some x6

/-- tarnfell/road.cut -/
def road_cut_v1_p (h0 : List Nat) (drops0 : List Nat)  : Option ((List Nat)) := bnd (slices_Clone_float32_float32_p h0) fun r1 => bnd (forS (fun (i1 : Nat) (s1 : (List Nat)) => bnd (bnd (idx drops0 (i1 : Int)) fun x2 => bnd (idx s1 (i1 : Int)) fun x3 => bnd (fadd .f32 x3 x2) fun r2 => bnd (idx s1 (addI (i1 : Int) 1)) fun x4 => if flt .f32 r2 x4 then bnd (idx s1 (addI (i1 : Int) 1)) fun x5 => bnd (some (s1.set (addI (i1 : Int) 1).toNat r2)) fun l1 => some l1 else some s1) fun (s2 : (List Nat)) => some s2) drops0.length 0 r1) fun (x1 : (List Nat)) => bnd (some (subI (drops0.length : Int) 1)) fun i_1 => bnd (loopP (fun (s3 : Int × (List Nat)) => if decide (s3.1 ≥ 0) then bnd (bnd (idx s3.2 (addI s3.1 1)) fun x7 => bnd (idx drops0 s3.1) fun x8 => bnd (fadd .f32 x7 x8) fun r3 => bnd (idx s3.2 s3.1) fun x9 => if flt .f32 r3 x9 then bnd (idx s3.2 s3.1) fun x10 => bnd (some (s3.2.set s3.1.toNat r3)) fun l2 => some l2 else some s3.2) fun (s4 : (List Nat)) => some (.go (subI s3.1 1, s4)) else some (.out s3.2)) (i_1, x1)) fun (x6 : (List Nat)) => some x6

/-- tarnfell/road.Bed -/
def road_Bed_p (f0 : S_api_Field) (way0 : List S_api_Point) (how0 : Int) (most0 : Nat)  : Option ((List Nat) × Int) := bnd (road_onField_p f0 way0) fun r1 => if (r1 != 0) then some ([], r1) else if ((decide (how0 < 1)) || (decide (how0 > 3))) then some ([], 1) else bnd (field_Heights_p ([most0] : List Nat)) fun r2 => if (r2 != 0) then some ([], r2) else if ((flt .f32 most0 0) || (fgt .f32 most0 1149239296)) then some ([], 3) else bnd (road_heights_p f0 way0) fun r3 => bnd (road_lengths_p way0) fun r4 => bnd (forS (fun (i1 : Nat) (s1 : (List Nat)) => bnd (idx s1 (i1 : Int)) fun x2 => bnd (fmul .f32 most0 x2) fun r5 => bnd (idx s1 (i1 : Int)) fun x3 => bnd (some (s1.set (i1 : Int).toNat r5)) fun l1 => some l1) r4.length 0 r4) fun (x1 : (List Nat)) => if (how0 == 1) then bnd (road_filled_p r3 x1) fun r6 => bnd (road_values_p r6) fun r7 => some (r7.1, r7.2) else if (how0 == 2) then bnd (road_cut_p r3 x1) fun r8 => bnd (road_values_p r8) fun r9 => some (r9.1, r9.2) else bnd (road_cut_v1_p r3 x1) fun r10 => bnd (road_filled_p r3 x1) fun r11 => bnd (forS (fun (i2 : Nat) (s2 : (List Nat)) => bnd (idx r11 (i2 : Int)) fun x5 => bnd (idx s2 (i2 : Int)) fun x6 => bnd (fadd .f32 x6 x5) fun r12 => bnd (fmul .f32 r12 1056964608) fun r13 => bnd (some (s2.set (i2 : Int).toNat r13)) fun l2 => some l2) r11.length 0 r10) fun (x4 : (List Nat)) => bnd (road_values_p x4) fun r14 => some (r14.1, r14.2)

/-- tarnfell/road.lengths -/
def road_lengths_v1_p (way0 : List S_api_Point)  : Option ((List Nat)) := bnd (slc way0 1 (way0.length : Int)) fun l1 => bnd (forS (fun (i1 : Nat) (s1 : (List Nat)) => bnd (idx l1 (i1 : Int)) fun x2 => bnd (idx way0 (i1 : Int)) fun x3 => bnd (road_Between_p x3 x2) fun r1 => bnd (road_length_p r1.1 r1.2) fun r2 => bnd (app s1 ([r2] : List Nat)) fun l2 => some l2) l1.length 0 ([] : List Nat)) fun (x1 : (List Nat)) => some x1

/-- math.Abs -/
def math_Abs_p (x0 : Nat)  : Option (Nat) := some ((bitsI .andNot .u64 (x0 : Int) 9223372036854775808).toNat)

/-- tarnfell/noise.Magnitude -/
def noise_Magnitude_p (v0 : Nat)  : Option (Nat) := bnd (fconv .f32 .f64 v0) fun r1 => bnd (math_Abs_p r1) fun r2 => bnd (fconv .f64 .f32 r2) fun r3 => some r3

/-- tarnfell/road.grade -/
def road_grade_p (a0 : Nat) (b0 : Nat) (long0 : Nat)  : Option (Nat) := bnd (fsub .f32 b0 a0) fun r1 => bnd (noise_Magnitude_p r1) fun r2 => bnd (fdiv .f32 r2 long0) fun r3 => some r3

/-- tarnfell/road.Grades -/
def road_Grades_p (f0 : S_api_Field) (way0 : List S_api_Point)  : Option ((List Nat) × Int) := bnd (road_onField_p f0 way0) fun r1 => if (r1 != 0) then some ([], r1) else bnd (road_heights_p f0 way0) fun r2 => bnd (road_lengths_v1_p way0) fun r3 => bnd (forS (fun (i1 : Nat) (s1 : (List Nat)) => bnd (idx r3 (i1 : Int)) fun x2 => bnd (idx r2 (i1 : Int)) fun x3 => bnd (idx r2 (addI (i1 : Int) 1)) fun x4 => bnd (road_grade_p x3 x4 x2) fun r4 => bnd (app s1 ([r4] : List Nat)) fun l1 => some l1) r3.length 0 ([] : List Nat)) fun (x1 : (List Nat)) => bnd (road_values_p x1) fun r5 => some (r5.1, r5.2)

/-- tarnfell/tarnref2.RegionError -/
def tarnref2_RegionError_p (r0 : S_api_Region)  : Option (Int) := if ((decide (r0.W < 1)) || ((decide (r0.W > 512)) || ((decide (r0.H < 1)) || (decide (r0.H > 512))))) then some 3 else if decide ((mulI r0.W r0.H) > 65536) then some 4 else if ((decide (r0.X < (-4194304))) || ((decide (r0.Y < (-4194304))) || ((decide (r0.X > (subI 4194304 r0.W))) || (decide (r0.Y > (subI 4194304 r0.H)))))) then some 5 else some 0

/-- tarnfell/tarnref2.NumberError -/
def tarnref2_NumberError_p (l0 : List Nat)  : Option (Int) := bnd (forI (fun (i1 : Nat) (s2 : Unit) => bnd (idx l0 (i1 : Int)) fun x2 => if ((fne .f32 x2 x2) || ((fgt .f32 x2 2139095039) || (flt .f32 x2 4286578687))) then some (.out 2) else some (.go ())) l0.length 0 ()) fun (x1 : Ctl (Unit) (Int)) => (match x1 with | .go s1 => bnd (forI (fun (i2 : Nat) (s4 : Unit) => bnd (idx l0 (i2 : Int)) fun x4 => if ((fgt .f32 x4 1233125376) || (flt .f32 x4 3380609024)) then some (.out 3) else some (.go ())) l0.length 0 ()) fun (x3 : Ctl (Unit) (Int)) => (match x3 with | .go s3 => some 0 | .out e0 => some e0) | .out e0 => some e0)

/-- tarnfell/tarnref2.FieldError -/
def tarnref2_FieldError_p (f0 : S_api_Field)  : Option (Int) := bnd (tarnref2_RegionError_p f0.Region) fun r1 => if (r1 != 0) then some r1 else if ((f0.V.length : Int) != (mulI f0.Region.W f0.Region.H)) then some 2 else bnd (tarnref2_NumberError_p f0.V) fun r2 => some r2

/-- tarnfell/tarnref2.Has -/
def tarnref2_Has_p (r0 : S_api_Region) (x0 : Int) (y0 : Int)  : Option (Bool) := some ((decide (x0 ≥ r0.X)) && ((decide (x0 < (addI r0.X r0.W))) && ((decide (y0 ≥ r0.Y)) && (decide (y0 < (addI r0.Y r0.H))))))

/-- tarnfell/tarnref2.Step -/
def tarnref2_Step_p (d0 : Int)  : Option (Int × Int) := bnd (idx ([1, 1, 0, (-1), (-1), (-1), 0, 1] : List Int) d0) fun x1 => bnd (idx ([0, 1, 1, 1, 0, (-1), (-1), (-1)] : List Int) d0) fun x2 => some (x1, x2)

/-- tarnfell/tarnref2.Leap -/
def tarnref2_Leap_p (a0 : S_api_Point) (b0 : S_api_Point)  : Option (Int × Int) := bnd (forI (fun (i1 : Nat) (s2 : Unit) => bnd (tarnref2_Step_p (i1 : Int)) fun r1 => bnd (some ((maxI (maxI (maxI (subI b0.X a0.X) (subI 0 (subI b0.X a0.X))) (subI b0.Y a0.Y)) (subI 0 (subI b0.Y a0.Y))))) fun n_1 => if ((decide (n_1 > 0)) && (((mulI r1.1 n_1) == (subI b0.X a0.X)) && ((mulI r1.2 n_1) == (subI b0.Y a0.Y)))) then some (.out ((i1 : Int), n_1)) else some (.go ())) 8 0 ()) fun (x1 : Ctl (Unit) ((Int × Int))) => (match x1 with | .go s1 => some (0, 0) | .out e0 => some e0)

/-- tarnfell/tarnref2.WayError -/
def tarnref2_WayError_p (f0 : S_api_Field) (way0 : List S_api_Point)  : Option (Int) := if ((way0.length : Int) == 0) then some 10 else if decide ((way0.length : Int) > 65536) then some 4 else bnd (forI (fun (i1 : Nat) (s2 : Unit) => bnd (bnd (idx way0 (i1 : Int)) fun x3 => bnd (if decide (x3.X < (-4194304)) then some true else if decide (x3.X > 4194304) then some true else if decide (x3.Y < (-4194304)) then some true else if decide (x3.Y > 4194304) then some true else bnd (tarnref2_Has_p f0.Region x3.X x3.Y) fun r1 => some (!r1)) fun (c1 : Bool) => if c1 then some (.out 5) else if decide ((i1 : Int) > 0) then bnd (idx way0 (subI (i1 : Int) 1)) fun x4 => bnd (tarnref2_Leap_p x4 x3) fun r2 => if ((r2.2 == 0) || (decide (r2.2 > 12))) then some (.out 2) else some (.go ()) else some (.go ())) fun (x2 : Ctl (Unit) (Int)) => (match x2 with | .go s3 => some (.go ()) | .out e0 => some (.out e0))) way0.length 0 ()) fun (x1 : Ctl (Unit) (Int)) => (match x1 with | .go s1 => some 0 | .out e0 => some e0)

/-- tarnfell/tarnlaw2.first -/
def tarnlaw2_first_p (l0 : List Int)  : Option (Int) := bnd (forI (fun (i1 : Nat) (s2 : Unit) => bnd (idx l0 (i1 : Int)) fun x2 => if (x2 != 0) then some (.out x2) else some (.go ())) l0.length 0 ()) fun (x1 : Ctl (Unit) (Int)) => (match x1 with | .go s1 => some 0 | .out e0 => some e0)

/-- tarnfell/field.CheckAll -/
def field_CheckAll_p (l0 : List S_api_Field)  : Option (Int) := bnd (forI (fun (i1 : Nat) (s2 : Unit) => bnd (idx l0 (i1 : Int)) fun x2 => bnd (field_Check_p x2) fun r1 => if (r1 != 0) then some (.out r1) else some (.go ())) l0.length 0 ()) fun (x1 : Ctl (Unit) (Int)) => (match x1 with | .go s1 => some 0 | .out e0 => some e0)

/-- tarnfell/road.CheckRules$1 -/
def road_CheckRules_1_p (v0 : Nat)  : Option (Bool) := some ((flt .f32 v0 0) || (fgt .f32 v0 1149239296))

/-- slices.IndexFunc[[]float32,float32] -/
def slices_IndexFunc_float32_float32_p (s0 : List Nat)  : Option (Int) := bnd (forI (fun (i1 : Nat) (s2 : Unit) => bnd (idx s0 (i1 : Int)) fun x2 => bnd (road_CheckRules_1_p x2) fun r1 => if r1 then some (.out (i1 : Int)) else some (.go ())) s0.length 0 ()) fun (x1 : Ctl (Unit) (Int)) => (match x1 with | .go s1 => some (-1) | .out e0 => some e0)

/-- slices.ContainsFunc[[]float32,float32] -/
def slices_ContainsFunc_float32_float32_p (s0 : List Nat)  : Option (Bool) := bnd (slices_IndexFunc_float32_float32_p s0) fun r1 => some (decide (r1 ≥ 0))

/-- tarnfell/road.CheckRules -/
def road_CheckRules_p (s0 : S_api_RoadRules)  : Option (Int) := bnd (field_Heights_p ([s0.Grade, s0.Weight, s0.Bridge, s0.Dear] : List Nat)) fun r1 => if (r1 != 0) then some r1 else bnd (forI (fun (i1 : Nat) (s2 : Unit) => bnd (idx ([s0.Grade, s0.Weight, s0.Dear] : List Nat) (i1 : Int)) fun x2 => if ((flt .f32 x2 0) || (fgt .f32 x2 1149239296)) then some (.out 3) else some (.go ())) 3 0 ()) fun (x1 : Ctl (Unit) (Int)) => (match x1 with | .go s1 => if ((flt .f32 s0.Bridge 1065353216) || ((fgt .f32 s0.Bridge 1149239296) || ((s0.Span != 0) && ((decide (s0.Span < 2)) || (decide (s0.Span > 12)))))) then some 3 else if decide ((s0.Costly.length : Int) > 1) then some 4 else bnd (field_CheckAll_p s0.Costly) fun r2 => if (r2 != 0) then some r2 else bnd (forI (fun (i2 : Nat) (s4 : Unit) => bnd (idx s0.Costly (i2 : Int)) fun x4 => bnd (slices_ContainsFunc_float32_float32_p x4.V) fun r3 => if r3 then some (.out 3) else some (.go ())) s0.Costly.length 0 ()) fun (x3 : Ctl (Unit) (Int)) => (match x3 with | .go s3 => some 0 | .out e0 => some e0) | .out e0 => some e0)

/-- tarnfell/road.check -/
def road_check_p (f0 : S_api_Field) (s0 : S_api_RoadRules)  : Option (Int) := bnd (field_Check_p f0) fun r1 => if (r1 != 0) then some r1 else bnd (road_CheckRules_p s0) fun r2 => if (r2 != 0) then some r2 else bnd (forI (fun (i1 : Nat) (s2 : Unit) => bnd (idx s0.Costly (i1 : Int)) fun x2 => if !(((x2.Region.X == f0.Region.X) && ((x2.Region.Y == f0.Region.Y) && ((x2.Region.W == f0.Region.W) && ((x2.Region.H == f0.Region.H) && true))))) then some (.out 5) else some (.go ())) s0.Costly.length 0 ()) fun (x1 : Ctl (Unit) (Int)) => (match x1 with | .go s1 => some 0 | .out e0 => some e0)

/-- (tarnfell/road.queue).Len -/
def road_queue_Len_p (q0 : List S_road_reached)  : Option (Int) := some (q0.length : Int)

/-- (tarnfell/road.queue).Swap -/
def road_queue_Swap_p (q0 : List S_road_reached) (i0 : Int) (j0 : Int)  : Option ((List S_road_reached)) := bnd (idx q0 j0) fun x1 => bnd (idx q0 i0) fun x2 => bnd (some (q0.set i0.toNat x1)) fun l1 => bnd (idx l1 j0) fun x3 => bnd (some (l1.set j0.toNat x2)) fun l2 => some l2

/-- (tarnfell/road.queue).Less -/
def road_queue_Less_p (q0 : List S_road_reached) (i0 : Int) (j0 : Int)  : Option (Bool) := bnd (idx q0 i0) fun x1 => bnd (idx q0 j0) fun x2 => some (flt .f32 x1.price x2.price)

/-- container/heap.down -/
def container_heap_down_p (h0 : List S_road_reached) (i00 : Int) (n0 : Int)  : Option (Bool × (List S_road_reached)) := bnd (loopP (fun (s1 : Int × (List S_road_reached)) => if ((decide ((addI (mulI 2 s1.1) 1) ≥ n0)) || (decide ((addI (mulI 2 s1.1) 1) < 0))) then some (.out (s1.1, s1.2)) else bnd (some (addI (addI (mulI 2 s1.1) 1) 1)) fun j2_1 => bnd (if decide (j2_1 < n0) then bnd (road_queue_Less_p s1.2 j2_1 (addI (mulI 2 s1.1) 1)) fun r1 => some r1 else some false) fun (c1 : Bool) => bnd (if c1 then some j2_1 else some (addI (mulI 2 s1.1) 1)) fun (s2 : Int) => bnd (road_queue_Less_p s1.2 s2 s1.1) fun r2 => if !r2 then some (.out (s1.1, s1.2)) else bnd (road_queue_Swap_p s1.2 s1.1 s2) fun r3 => some (.go (s2, r3))) (i00, h0)) fun (x1 : Int × (List S_road_reached)) => some (decide (x1.1 > i00), x1.2)

/-- (*tarnfell/road.queue).Pop -/
def road_queue_Pop_p (q0 : List S_road_reached)  : Option (S_road_reached × (List S_road_reached)) := bnd (idx q0 (subI (q0.length : Int) 1)) fun x1 => bnd (slc q0 0 (subI (q0.length : Int) 1)) fun l1 => some (x1, l1)

/-- container/heap.Pop -/
def container_heap_Pop_p (h0 : List S_road_reached)  : Option (S_road_reached × (List S_road_reached)) := bnd (road_queue_Len_p h0) fun r1 => bnd (road_queue_Swap_p h0 0 (subI r1 1)) fun r2 => bnd (container_heap_down_p r2 0 (subI r1 1)) fun r3 => bnd (road_queue_Pop_p r3.2) fun r4 => some (r4.1, r4.2)

/-- (tarnfell/road.ground).beside -/
def road_ground_beside_p (g0 : S_road_ground) (k0 : Int) (d0 : Int) (n0 : Int)  : Option (Int × Bool) := bnd (water_Toward_p d0) fun r1 => bnd (guardP (g0.f.Region.W != 0)) fun u1 => bnd (some (addI (remI k0 g0.f.Region.W) (mulI n0 r1.X))) fun x_1 => bnd (some (addI (quoI k0 g0.f.Region.W) (mulI n0 r1.Y))) fun y_1 => if ((decide (x_1 < 0)) || ((decide (y_1 < 0)) || ((decide (x_1 ≥ g0.f.Region.W)) || (decide (y_1 ≥ g0.f.Region.H))))) then some (0, false) else some (addI (mulI y_1 g0.f.Region.W) x_1, true)

/-- (tarnfell/road.ground).cost -/
def road_ground_cost_p (g0 : S_road_ground) (from0 : Int) (to0 : Int) (d0 : Int) (n0 : Int) (top0 : Nat)  : Option (Nat × Bool) := bnd (idx g0.f.V from0) fun x1 => bnd (idx g0.f.V to0) fun x2 => bnd (road_length_p d0 n0) fun r1 => bnd (road_grade_p x1 x2 r1) fun r2 => if fgt .f32 r2 g0.s.Grade then some (0, false) else if decide (n0 > 1) then bnd (bnd (fmul .f32 r1 g0.s.Bridge) fun r3 => bnd (fadd .f32 r3 g0.s.Dear) fun r4 => if flt .f32 top0 x1 then some (r4, flt .f32 top0 x2) else some (r4, false)) fun (c1 : Nat × Bool) => some (c1.1, c1.2) else bnd (fmul .f32 g0.s.Weight r2) fun r5 => bnd (fmul .f32 r5 r2) fun r6 => bnd (fadd .f32 1065353216 r6) fun r7 => bnd (fmul .f32 r1 r7) fun r8 => bnd (forS (fun (i1 : Nat) (s1 : Nat) => bnd (idx g0.s.Costly (i1 : Int)) fun x4 => bnd (idx x4.V to0) fun x5 => bnd (fadd .f32 1065353216 x5) fun r9 => bnd (fmul .f32 s1 r9) fun r10 => some r10) g0.s.Costly.length 0 r8) fun (x3 : Nat) => some (x3, true)

/-- (*tarnfell/road.queue).Push -/
def road_queue_Push_p (q0 : List S_road_reached) (x0 : S_road_reached)  : Option ((List S_road_reached)) := bnd (app q0 ([x0] : List S_road_reached)) fun l1 => some l1

/-- container/heap.up -/
def container_heap_up_p (h0 : List S_road_reached) (j0 : Int)  : Option ((List S_road_reached)) := bnd (loopP (fun (s1 : Int × (List S_road_reached)) => bnd (if ((quoI (subI s1.1 1) 2) == s1.1) then some true else bnd (road_queue_Less_p s1.2 s1.1 (quoI (subI s1.1 1) 2)) fun r1 => some (!r1)) fun (c1 : Bool) => if c1 then some (.out s1.2) else bnd (road_queue_Swap_p s1.2 (quoI (subI s1.1 1) 2) s1.1) fun r2 => some (.go (quoI (subI s1.1 1) 2, r2))) (j0, h0)) fun (x1 : (List S_road_reached)) => some x1

/-- container/heap.Push -/
def container_heap_Push_p (h0 : List S_road_reached) (x0 : S_road_reached)  : Option ((List S_road_reached)) := bnd (road_queue_Push_p h0 x0) fun r1 => bnd (road_queue_Len_p r1) fun r2 => bnd (container_heap_up_p r1 (subI r2 1)) fun r3 => some r3

/-- (tarnfell/road.ground).prices$1 -/
def road_ground_prices_1_p (to0 : Int) (c0 : Nat) (p0 : S_road_reached) (p00_0 : Int) (p00_1 : List Nat) (p00_2 : List Bool) (p000 : List S_road_reached)  : Option ((List Nat) × (List Bool) × (List S_road_reached)) := bnd (fadd .f32 p0.price c0) fun r1 => bnd (bnd (idx p00_2 to0) fun x1 => bnd (idx p00_2 to0) fun x2 => if !x2 then some true else bnd (idx p00_1 to0) fun x3 => bnd (idx p00_1 to0) fun x4 => some (flt .f32 r1 x4)) fun (c1 : Bool) => if c1 then bnd (idx p00_1 to0) fun x5 => bnd (some (p00_1.set to0.toNat r1)) fun l1 => bnd (idx p00_2 to0) fun x6 => bnd (some (p00_2.set to0.toNat true)) fun l2 => bnd (container_heap_Push_p p000 (⟨r1, to0⟩ : S_road_reached)) fun r2 => some (l1, l2, r2) else some (p00_1, p00_2, p000)

/-- (tarnfell/road.ground).each -/
def road_ground_each_p (g0 : S_road_ground) (k0 : Int) (visit0_c0 : S_road_reached) (visit0_c1_0 : Int) (visit0_c1_1 : List Nat) (visit0_c1_2 : List Bool) (visit0_c2 : List S_road_reached)  : Option ((List Nat) × (List Bool) × (List S_road_reached)) := bnd (forS (fun (i1 : Nat) (s1 : (List Nat) × (List Bool) × (List S_road_reached)) => bnd (bnd (loopP (fun (s3 : Nat × Int × (List Nat) × (List Bool) × (List S_road_reached)) => if decide (s3.2.1 ≤ (maxI g0.s.Span 1)) then bnd (road_ground_beside_p g0 k0 (i1 : Int) s3.2.1) fun r1 => if !r1.2 then some (.out (s3.2.2.1, s3.2.2.2.1, s3.2.2.2.2)) else bnd (road_ground_cost_p g0 k0 r1.1 (i1 : Int) s3.2.1 s3.1) fun r2 => bnd (if r2.2 then bnd (road_ground_prices_1_p r1.1 r2.1 visit0_c0 visit0_c1_0 s3.2.2.1 s3.2.2.2.1 s3.2.2.2.2) fun r3 => some (r3.1, r3.2.1, r3.2.2) else some (s3.2.2.1, s3.2.2.2.1, s3.2.2.2.2)) fun (s4 : (List Nat) × (List Bool) × (List S_road_reached)) => bnd (idx g0.f.V r1.1) fun x3 => bnd (fmax .f32 s3.1 x3) fun r4 => some (.go (r4, addI s3.2.1 1, s4.1, s4.2.1, s4.2.2)) else some (.out (s3.2.2.1, s3.2.2.2.1, s3.2.2.2.2))) (3380609024, 1, s1.1, s1.2.1, s1.2.2)) fun (x2 : (List Nat) × (List Bool) × (List S_road_reached)) => some (x2.1, x2.2.1, x2.2.2)) fun (s2 : (List Nat) × (List Bool) × (List S_road_reached)) => some (s2.1, s2.2.1, s2.2.2)) 8 0 (visit0_c1_1, visit0_c1_2, visit0_c2)) fun (x1 : (List Nat) × (List Bool) × (List S_road_reached)) => some (x1.1, x1.2.1, x1.2.2)

/-- (tarnfell/road.ground).prices -/
def road_ground_prices_p (g0 : S_road_ground) (from0 : Int)  : Option (S_road_prices) := bnd (mk2 (0 : Nat) (g0.f.V.length : Int) (g0.f.V.length : Int)) fun l1 => bnd (mk2 (false : Bool) (g0.f.V.length : Int) (g0.f.V.length : Int)) fun l2 => bnd (mk2 (false : Bool) (g0.f.V.length : Int) (g0.f.V.length : Int)) fun l3 => bnd (idx l2 from0) fun x1 => bnd (some (l2.set from0.toNat true)) fun l4 => bnd (loopP (fun (s1 : (List S_road_reached) × (List Bool) × (List Bool) × (List Nat)) => if decide ((s1.1.length : Int) > 0) then bnd (container_heap_Pop_p s1.1) fun r1 => bnd (idx s1.2.2.1 r1.1.k) fun x3 => if x3 then some (.go (r1.2, s1.2.1, s1.2.2.1, s1.2.2.2)) else bnd (idx s1.2.2.1 r1.1.k) fun x4 => bnd (some (s1.2.2.1.set r1.1.k.toNat true)) fun l5 => bnd (road_ground_each_p g0 r1.1.k r1.1 from0 s1.2.2.2 s1.2.1 r1.2) fun r2 => some (.go (r2.2.2, r2.2.1, l5, r2.1)) else some (.out (s1.1, s1.2.1, s1.2.2.1, s1.2.2.2))) (([(⟨0, from0⟩ : S_road_reached)] : List S_road_reached), l4, l3, l1)) fun (x2 : (List S_road_reached) × (List Bool) × (List Bool) × (List Nat)) => some (⟨from0, x2.2.2.2, x2.2.1⟩ : S_road_prices)

/-- tarnfell/road.pricesFrom -/
def road_pricesFrom_p (f0 : S_api_Field) (s0 : S_api_RoadRules) (from0 : S_api_Point)  : Option (S_road_prices × Int) := bnd (road_check_p f0 s0) fun r1 => if (r1 != 0) then some ((⟨0, [], []⟩ : S_road_prices), r1) else bnd (road_inside_p f0 ([from0] : List S_api_Point)) fun r2 => if (r2 != 0) then some ((⟨0, [], []⟩ : S_road_prices), r2) else bnd (field_Place_p f0.Region from0.X from0.Y) fun r3 => bnd (road_ground_prices_p (⟨f0, s0⟩ : S_road_ground) r3.1) fun r4 => some (r4, 0)

/-- (tarnfell/road.ground).hops$1 -/
def road_ground_hops_1_p (to0 : Int) (c0 : Nat) (p0 : List Int) (p00 : S_road_prices) (p000 : Int) (p0000 : List Int)  : Option ((List Int) × (List Int)) := bnd (bnd (idx p0 to0) fun x1 => bnd (idx p0 to0) fun x2 => if (x2 == (-1)) then bnd (idx p00.price p000) fun x3 => bnd (fadd .f32 x3 c0) fun r1 => bnd (idx p00.price to0) fun x4 => some (feq .f32 r1 x4) else some false) fun (c1 : Bool) => if c1 then bnd (idx p0 p000) fun x5 => bnd (idx p0 to0) fun x6 => bnd (some (p0.set to0.toNat (addI x5 1))) fun l1 => bnd (app p0000 ([to0] : List Int)) fun l2 => some (l1, l2) else some (p0, p0000)

/-- (tarnfell/road.ground).each -/
def road_ground_each_v1_p (g0 : S_road_ground) (k0 : Int) (visit0_c0 : List Int) (visit0_c1 : S_road_prices) (visit0_c2 : Int) (visit0_c3 : List Int)  : Option ((List Int) × (List Int)) := bnd (forS (fun (i1 : Nat) (s1 : (List Int) × (List Int)) => bnd (bnd (loopP (fun (s3 : Nat × Int × (List Int) × (List Int)) => if decide (s3.2.1 ≤ (maxI g0.s.Span 1)) then bnd (road_ground_beside_p g0 k0 (i1 : Int) s3.2.1) fun r1 => if !r1.2 then some (.out (s3.2.2.1, s3.2.2.2)) else bnd (road_ground_cost_p g0 k0 r1.1 (i1 : Int) s3.2.1 s3.1) fun r2 => bnd (if r2.2 then bnd (road_ground_hops_1_p r1.1 r2.1 s3.2.2.1 visit0_c1 visit0_c2 s3.2.2.2) fun r3 => some (r3.1, r3.2) else some (s3.2.2.1, s3.2.2.2)) fun (s4 : (List Int) × (List Int)) => bnd (idx g0.f.V r1.1) fun x3 => bnd (fmax .f32 s3.1 x3) fun r4 => some (.go (r4, addI s3.2.1 1, s4.1, s4.2)) else some (.out (s3.2.2.1, s3.2.2.2))) (3380609024, 1, s1.1, s1.2)) fun (x2 : (List Int) × (List Int)) => some (x2.1, x2.2)) fun (s2 : (List Int) × (List Int)) => some (s2.1, s2.2)) 8 0 (visit0_c0, visit0_c3)) fun (x1 : (List Int) × (List Int)) => some (x1.1, x1.2)

/-- (tarnfell/road.ground).hops -/
def road_ground_hops_p (g0 : S_road_ground) (p0 : S_road_prices)  : Option ((List Int)) := bnd (mk2 (0 : Int) (p0.price.length : Int) (p0.price.length : Int)) fun l1 => bnd (forS (fun (i1 : Nat) (s1 : (List Int)) => bnd (idx s1 (i1 : Int)) fun x2 => bnd (some (s1.set (i1 : Int).toNat (-1))) fun l2 => some l2) l1.length 0 l1) fun (x1 : (List Int)) => bnd (idx x1 p0.from0) fun x3 => bnd (some (x1.set p0.from0.toNat 0)) fun l3 => bnd (loopP (fun (s2 : Int × (List Int) × (List Int)) => if decide (s2.1 < (s2.2.1.length : Int)) then bnd (idx s2.2.1 s2.1) fun x5 => bnd (road_ground_each_v1_p g0 x5 s2.2.2 p0 x5 s2.2.1) fun r1 => some (.go (addI s2.1 1, r1.2, r1.1)) else some (.out (s2.2.1, s2.2.2))) (0, ([p0.from0] : List Int), l3)) fun (x4 : (List Int) × (List Int)) => some x4.2

/-- (tarnfell/road.ground).point -/
def road_ground_point_p (g0 : S_road_ground) (k0 : Int)  : Option (S_api_Point) := bnd (guardP (g0.f.Region.W != 0)) fun u1 => some (⟨addI g0.f.Region.X (remI k0 g0.f.Region.W), addI g0.f.Region.Y (quoI k0 g0.f.Region.W)⟩ : S_api_Point)

/-- (tarnfell/road.ground).step -/
def road_ground_step_p (g0 : S_road_ground) (a0 : S_api_Point) (b0 : S_api_Point)  : Option (Nat × Bool) := bnd (road_Between_p a0 b0) fun r1 => if ((r1.1 == (-1)) || (decide (r1.2 > (maxI g0.s.Span 1)))) then some (0, false) else bnd (field_Place_p g0.f.Region a0.X a0.Y) fun r2 => bnd (loopP (fun (s1 : Nat × Int) => if decide (s1.2 < r1.2) then bnd (road_ground_beside_p g0 r2.1 r1.1 s1.2) fun r3 => bnd (idx g0.f.V r3.1) fun x2 => bnd (fmax .f32 s1.1 x2) fun r4 => some (.go (r4, addI s1.2 1)) else some (.out s1.1)) (3380609024, 1)) fun (x1 : Nat) => bnd (road_ground_beside_p g0 r2.1 r1.1 r1.2) fun r5 => bnd (road_ground_cost_p g0 r2.1 r5.1 r1.1 r1.2 x1) fun r6 => if !r6.2 then some (0, false) else some (r6.1, true)

/-- (tarnfell/road.ground).before -/
def road_ground_before_p (g0 : S_road_ground) (p0 : S_road_prices) (hops0 : List Int) (k0 : Int)  : Option (Int) := bnd (forS (fun (i1 : Nat) (s1 : Int) => bnd (bnd (loopP (fun (s3 : Int × Int) => if decide (s3.2 ≤ (maxI g0.s.Span 1)) then bnd (bnd (road_ground_beside_p g0 k0 (i1 : Int) s3.2) fun r1 => if !r1.2 then some (.out ()) else bnd (if decide (r1.1 ≥ s3.1) then some true else bnd (idx hops0 r1.1) fun x4 => bnd (idx hops0 k0) fun x5 => some (x4 != (subI x5 1))) fun (c1 : Bool) => if c1 then some (.go s3.1) else bnd (road_ground_point_p g0 r1.1) fun r2 => bnd (road_ground_point_p g0 k0) fun r3 => bnd (road_ground_step_p g0 r2 r3) fun r4 => bnd (if r4.2 then bnd (idx p0.price r1.1) fun x6 => bnd (fadd .f32 x6 r4.1) fun r5 => bnd (idx p0.price k0) fun x7 => some (feq .f32 r5 x7) else some false) fun (c2 : Bool) => if c2 then some (.go r1.1) else some (.go s3.1)) fun (x3 : Ctl (Int) (Unit)) => (match x3 with | .go s4 => some (.go (s4, addI s3.2 1)) | .out e0 => some (.out s3.1)) else some (.out s3.1)) (s1, 1)) fun (x2 : Int) => some x2) fun (s2 : Int) => some s2) 8 0 (hops0.length : Int)) fun (x1 : Int) => some x1

/-- slices.Reverse[[]tarnfell/api.Point,tarnfell/api.Point] -/
def slices_Reverse_api_Point_api_Point_p (s0 : List S_api_Point)  : Option ((List S_api_Point)) := bnd (loopP (fun (s1 : Int × Int × (List S_api_Point)) => if decide (s1.1 < s1.2.1) then bnd (idx s1.2.2 s1.2.1) fun x2 => bnd (idx s1.2.2 s1.1) fun x3 => bnd (some (s1.2.2.set s1.1.toNat x2)) fun l1 => bnd (idx l1 s1.2.1) fun x4 => bnd (some (l1.set s1.2.1.toNat x3)) fun l2 => some (.go (addI s1.1 1, subI s1.2.1 1, l2)) else some (.out s1.2.2)) (0, subI (s0.length : Int) 1, s0)) fun (x1 : (List S_api_Point)) => some x1

/-- (tarnfell/road.ground).way -/
def road_ground_way_p (g0 : S_road_ground) (p0 : S_road_prices) (to0 : Int)  : Option ((List S_api_Point)) := bnd (road_ground_hops_p g0 p0) fun r1 => bnd (road_ground_point_p g0 to0) fun r2 => bnd (loopP (fun (s1 : Int × (List S_api_Point)) => bnd (idx r1 s1.1) fun x2 => if decide (x2 > 0) then bnd (road_ground_before_p g0 p0 r1 s1.1) fun r3 => bnd (road_ground_point_p g0 r3) fun r4 => bnd (app s1.2 ([r4] : List S_api_Point)) fun l1 => some (.go (r3, l1)) else some (.out s1.2)) (to0, ([r2] : List S_api_Point))) fun (x1 : (List S_api_Point)) => bnd (slices_Reverse_api_Point_api_Point_p x1) fun r5 => some r5

/-- tarnfell/road.Way -/
def road_Way_p (f0 : S_api_Field) (s0 : S_api_RoadRules) (from0 : S_api_Point) (to0 : S_api_Point)  : Option ((List S_api_Point) × Nat × Int) := bnd (road_check_p f0 s0) fun r1 => if (r1 != 0) then some ([], 0, r1) else bnd (road_inside_p f0 ([from0, to0] : List S_api_Point)) fun r2 => if (r2 != 0) then some ([], 0, r2) else bnd (road_pricesFrom_p f0 s0 from0) fun r3 => bnd (field_Place_p f0.Region to0.X to0.Y) fun r4 => bnd (idx r3.1.ok r4.1) fun x1 => if !x1 then some ([], 0, 11) else bnd (idx r3.1.price r4.1) fun x2 => bnd (road_ground_way_p (⟨f0, s0⟩ : S_road_ground) r3.1 r4.1) fun r5 => some (r5, x2, 0)

/-- tarnfell/tarnlaw2.leads -/
def tarnlaw2_leads_p   : Option (Bool) := bnd (road_Way_p (⟨(⟨0, 0, 2, 1⟩ : S_api_Region), ([0, 0] : List Nat)⟩ : S_api_Field) (⟨0, 0, 1065353216, 0, 0, []⟩ : S_api_RoadRules) (⟨0, 0⟩ : S_api_Point) (⟨1, 0⟩ : S_api_Point)) fun r1 => some ((r1.2.2 == 0) && (((r1.1.length : Int) == 2) && (feq .f32 r1.2.1 1065353216)))

/-- tarnfell/tarnref2.Cell -/
def tarnref2_Cell_p (r0 : S_api_Region) (x0 : Int) (y0 : Int)  : Option (Int) := some (subI (addI (mulI (subI y0 r0.Y) r0.W) x0) r0.X)

/-- tarnfell/tarnref2.Values -/
def tarnref2_Values_p (f0 : S_api_Field) (way0 : List S_api_Point)  : Option ((List Nat)) := bnd (forS (fun (i1 : Nat) (s1 : (List Nat)) => bnd (idx way0 (i1 : Int)) fun x2 => bnd (tarnref2_Cell_p f0.Region x2.X x2.Y) fun r1 => bnd (idx f0.V r1) fun x3 => bnd (app s1 ([x3] : List Nat)) fun l1 => some l1) way0.length 0 ([] : List Nat)) fun (x1 : (List Nat)) => some x1

/-- math.Sqrt -/
def math_Sqrt_p (x0 : Nat)  : Option (Nat) := bnd (fsqrt .f64 x0) fun r1 => some r1

/-- tarnfell/tarnref2.Root -/
def tarnref2_Root_p (v0 : Nat)  : Option (Nat) := bnd (fconv .f32 .f64 v0) fun r1 => bnd (math_Sqrt_p r1) fun r2 => bnd (fconv .f64 .f32 r2) fun r3 => some r3

/-- tarnfell/tarnref2.Long -/
def tarnref2_Long_p (d0 : Int)  : Option (Nat) := if ((remI d0 2) == 1) then bnd (tarnref2_Root_p 1073741824) fun r1 => some r1 else some 1065353216

/-- tarnfell/tarnref2.Reach -/
def tarnref2_Reach_p (d0 : Int) (n0 : Int)  : Option (Nat) := if (n0 == 1) then bnd (tarnref2_Long_p d0) fun r1 => some r1 else if ((remI d0 2) == 1) then bnd (tarnref2_Root_p 1073741824) fun r2 => bnd (fmul .f32 (fofI .f32 n0) r2) fun r3 => some r3 else some (fofI .f32 n0)

/-- tarnfell/tarnref2.Lengths -/
def tarnref2_Lengths_p (way0 : List S_api_Point)  : Option ((List Nat)) := bnd (loopP (fun (s1 : Int × (List Nat)) => if decide (s1.1 < (way0.length : Int)) then bnd (idx way0 (subI s1.1 1)) fun x2 => bnd (idx way0 s1.1) fun x3 => bnd (tarnref2_Leap_p x2 x3) fun r1 => bnd (tarnref2_Reach_p r1.1 r1.2) fun r2 => bnd (app s1.2 ([r2] : List Nat)) fun l1 => some (.go (addI s1.1 1, l1)) else some (.out s1.2)) (1, ([] : List Nat))) fun (x1 : (List Nat)) => some x1

/-- tarnfell/tarnref2.Abs -/
def tarnref2_Abs_p (v0 : Nat)  : Option (Nat) := some ((bitsI .andNot .u32 (v0 : Int) 2147483648).toNat)

/-- slices.Equal[[]float32,float32] -/
def slices_Equal_float32_float32_p (s10 : List Nat) (s20 : List Nat)  : Option (Bool) := if ((s10.length : Int) != (s20.length : Int)) then some false else bnd (forI (fun (i1 : Nat) (s2 : Unit) => bnd (idx s10 (i1 : Int)) fun x2 => bnd (idx s20 (i1 : Int)) fun x3 => if fne .f32 x2 x3 then some (.out false) else some (.go ())) s10.length 0 ()) fun (x1 : Ctl (Unit) (Bool)) => (match x1 with | .go s1 => some true | .out e0 => some e0)

/-- tarnfell/tarnlaw2.within -/
def tarnlaw2_within_p (n0 : Int) (low0 : Int) (high0 : Int)  : Option (Bool) := some ((decide (n0 ≥ low0)) && (decide (n0 ≤ high0)))

/-- tarnfell/tarnlaw2.when -/
def tarnlaw2_when_p (is0 : Bool) (e0 : Int)  : Option (Int) := if is0 then some e0 else some 0

/-- tarnfell/tarnref2.BedOf -/
def tarnref2_BedOf_v2_p (f0 : S_api_Field) (way0 : List S_api_Point) (how0 : Int) (grade0 : Nat)  : Option ((List Nat)) := none

/-- tarnfell/tarnref2.BedOf -/
def tarnref2_BedOf_v3_p (f0 : S_api_Field) (way0 : List S_api_Point) (how0 : Int) (grade0 : Nat)  : Option ((List Nat)) := none

/-- tarnfell/tarnref2.Values -/
def tarnref2_Values_v1_p (f0 : S_api_Field) (way0 : List S_api_Point)  : Option ((List Nat)) := bnd (forS (fun (i1 : Nat) (s1 : (List Nat)) => bnd (idx way0 (i1 : Int)) fun x2 => bnd (tarnref2_Cell_p f0.Region x2.X x2.Y) fun r1 => bnd (idx f0.V r1) fun x3 => bnd (app s1 ([x3] : List Nat)) fun l1 => some l1) way0.length 0 ([] : List Nat)) fun (x1 : (List Nat)) => some x1

/-- tarnfell/tarnref2.BedOf$1 -/
def tarnref2_BedOf_1_p (i0 : Int) (by0 : Int) (long0 : Nat) (p0 : Nat) (p00 : Int) (p000 : List Nat)  : Option ((List Nat)) := bnd (fmul .f32 p0 long0) fun r1 => bnd (if (p00 == 1) then bnd (idx p000 by0) fun x1 => bnd (idx p000 by0) fun x2 => bnd (fsub .f32 x2 r1) fun r2 => bnd (idx p000 i0) fun x3 => bnd (idx p000 i0) fun x4 => some (fgt .f32 r2 x4) else some false) fun (c1 : Bool) => bnd (if c1 then bnd (idx p000 by0) fun x5 => bnd (fsub .f32 x5 r1) fun r3 => bnd (idx p000 i0) fun x6 => bnd (some (p000.set i0.toNat r3)) fun l1 => some l1 else some p000) fun (s1 : (List Nat)) => bnd (if (p00 == 2) then bnd (idx s1 by0) fun x7 => bnd (idx s1 by0) fun x8 => bnd (fadd .f32 x8 r1) fun r4 => bnd (idx s1 i0) fun x9 => bnd (idx s1 i0) fun x10 => some (flt .f32 r4 x10) else some false) fun (c2 : Bool) => if c2 then bnd (idx s1 by0) fun x11 => bnd (fadd .f32 x11 r1) fun r5 => bnd (idx s1 i0) fun x12 => bnd (some (s1.set i0.toNat r5)) fun l2 => some l2 else some s1

/-- tarnfell/tarnref2.BedOf -/
def tarnref2_BedOf_v1_p (f0 : S_api_Field) (way0 : List S_api_Point) (how0 : Int) (grade0 : Nat)  : Option ((List Nat)) := bnd (tarnref2_Lengths_p way0) fun r1 => if (how0 == 3) then bnd (tarnref2_BedOf_v2_p f0 way0 2 grade0) fun r2 => bnd (tarnref2_BedOf_v3_p f0 way0 1 grade0) fun r3 => bnd (forS (fun (i1 : Nat) (s1 : (List Nat)) => bnd (idx s1 (i1 : Int)) fun x2 => bnd (idx r3 (i1 : Int)) fun x3 => bnd (fadd .f32 x2 x3) fun r4 => bnd (fmul .f32 r4 1056964608) fun r5 => bnd (some (s1.set (i1 : Int).toNat r5)) fun l1 => some l1) r2.length 0 r2) fun (x1 : (List Nat)) => some x1 else bnd (tarnref2_Values_v1_p f0 way0) fun r6 => bnd (loopP (fun (s2 : Int × (List Nat)) => if decide (s2.1 < (r6.length : Int)) then bnd (idx r1 (subI s2.1 1)) fun x5 => bnd (tarnref2_BedOf_1_p s2.1 (subI s2.1 1) x5 grade0 how0 s2.2) fun r7 => some (.go (addI s2.1 1, r7)) else some (.out s2.2)) (1, r6)) fun (x4 : (List Nat)) => bnd (loopP (fun (s3 : Int × (List Nat)) => if decide (s3.1 ≥ 0) then bnd (idx r1 s3.1) fun x7 => bnd (tarnref2_BedOf_1_p s3.1 (addI s3.1 1) x7 grade0 how0 s3.2) fun r8 => some (.go (subI s3.1 1, r8)) else some (.out s3.2)) (subI (r6.length : Int) 2, x4)) fun (x6 : (List Nat)) => some x6

/-- tarnfell/tarnref2.BedOf -/
def tarnref2_BedOf_v4_p (f0 : S_api_Field) (way0 : List S_api_Point) (how0 : Int) (grade0 : Nat)  : Option ((List Nat)) := bnd (tarnref2_Lengths_p way0) fun r1 => if (how0 == 3) then bnd (tarnref2_BedOf_v2_p f0 way0 2 grade0) fun r2 => bnd (tarnref2_BedOf_v3_p f0 way0 1 grade0) fun r3 => bnd (forS (fun (i1 : Nat) (s1 : (List Nat)) => bnd (idx s1 (i1 : Int)) fun x2 => bnd (idx r3 (i1 : Int)) fun x3 => bnd (fadd .f32 x2 x3) fun r4 => bnd (fmul .f32 r4 1056964608) fun r5 => bnd (some (s1.set (i1 : Int).toNat r5)) fun l1 => some l1) r2.length 0 r2) fun (x1 : (List Nat)) => some x1 else bnd (tarnref2_Values_v1_p f0 way0) fun r6 => bnd (loopP (fun (s2 : Int × (List Nat)) => if decide (s2.1 < (r6.length : Int)) then bnd (idx r1 (subI s2.1 1)) fun x5 => bnd (tarnref2_BedOf_1_p s2.1 (subI s2.1 1) x5 grade0 how0 s2.2) fun r7 => some (.go (addI s2.1 1, r7)) else some (.out s2.2)) (1, r6)) fun (x4 : (List Nat)) => bnd (loopP (fun (s3 : Int × (List Nat)) => if decide (s3.1 ≥ 0) then bnd (idx r1 s3.1) fun x7 => bnd (tarnref2_BedOf_1_p s3.1 (addI s3.1 1) x7 grade0 how0 s3.2) fun r8 => some (.go (subI s3.1 1, r8)) else some (.out s3.2)) (subI (r6.length : Int) 2, x4)) fun (x6 : (List Nat)) => some x6

/-- tarnfell/tarnref2.BedOf -/
def tarnref2_BedOf_p (f0 : S_api_Field) (way0 : List S_api_Point) (how0 : Int) (grade0 : Nat)  : Option ((List Nat)) := bnd (tarnref2_Lengths_p way0) fun r1 => if (how0 == 3) then bnd (tarnref2_BedOf_v1_p f0 way0 2 grade0) fun r2 => bnd (tarnref2_BedOf_v4_p f0 way0 1 grade0) fun r3 => bnd (forS (fun (i1 : Nat) (s1 : (List Nat)) => bnd (idx s1 (i1 : Int)) fun x2 => bnd (idx r3 (i1 : Int)) fun x3 => bnd (fadd .f32 x2 x3) fun r4 => bnd (fmul .f32 r4 1056964608) fun r5 => bnd (some (s1.set (i1 : Int).toNat r5)) fun l1 => some l1) r2.length 0 r2) fun (x1 : (List Nat)) => some x1 else bnd (tarnref2_Values_v1_p f0 way0) fun r6 => bnd (loopP (fun (s2 : Int × (List Nat)) => if decide (s2.1 < (r6.length : Int)) then bnd (idx r1 (subI s2.1 1)) fun x5 => bnd (tarnref2_BedOf_1_p s2.1 (subI s2.1 1) x5 grade0 how0 s2.2) fun r7 => some (.go (addI s2.1 1, r7)) else some (.out s2.2)) (1, r6)) fun (x4 : (List Nat)) => bnd (loopP (fun (s3 : Int × (List Nat)) => if decide (s3.1 ≥ 0) then bnd (idx r1 s3.1) fun x7 => bnd (tarnref2_BedOf_1_p s3.1 (addI s3.1 1) x7 grade0 how0 s3.2) fun r8 => some (.go (subI s3.1 1, r8)) else some (.out s3.2)) (subI (r6.length : Int) 2, x4)) fun (x6 : (List Nat)) => some x6

/-- tarnfell/tarnlaw2.bits$1 -/
def tarnlaw2_bits_1_p (x0 : Nat) (y0 : Nat)  : Option (Bool) := some ((x0 : Int) == (y0 : Int))

/-- slices.EqualFunc[[]float32,[]float32,float32,float32] -/
def slices_EqualFunc_float32_float32_float32_float32_p (s10 : List Nat) (s20 : List Nat)  : Option (Bool) := if ((s10.length : Int) != (s20.length : Int)) then some false else bnd (forI (fun (i1 : Nat) (s2 : Unit) => bnd (idx s10 (i1 : Int)) fun x2 => bnd (idx s20 (i1 : Int)) fun x3 => bnd (tarnlaw2_bits_1_p x2 x3) fun r1 => if !r1 then some (.out false) else some (.go ())) s10.length 0 ()) fun (x1 : Ctl (Unit) (Bool)) => (match x1 with | .go s1 => some true | .out e0 => some e0)

/-- tarnfell/tarnlaw2.bits -/
def tarnlaw2_bits_p (a0 : List Nat) (b0 : List Nat)  : Option (Bool) := bnd (slices_EqualFunc_float32_float32_float32_float32_p a0 b0) fun r1 => some r1

/-- tarnfell/tarnlaw2.BedsMatch -/
def tarnlaw2_BedsMatch_p (f0 : S_api_Field) (way0 : List S_api_Point) (how0 : Int) (grade0 : Nat)  : Option (Bool) := bnd (road_Bed_p f0 way0 how0 grade0) fun r1 => bnd (road_Grades_p f0 way0) fun r2 => bnd (tarnref2_FieldError_p f0) fun r3 => bnd (tarnref2_WayError_p f0 way0) fun r4 => bnd (tarnlaw2_first_p ([r3, r4] : List Int)) fun r5 => bnd (bnd (tarnlaw2_leads_p) fun r6 => if !r6 then some true else some (r5 != 0)) fun (c1 : Bool) => if c1 then bnd (bnd (tarnlaw2_leads_p) fun r7 => if r7 then if ((r1.1.length : Int) == 0) then if (r1.2 == r5) then if ((r2.1.length : Int) == 0) then some (r2.2 == r5) else some false else some false else some false else some false) fun (c2 : Bool) => some c2 else bnd (tarnref2_Values_p f0 way0) fun r8 => bnd (tarnref2_Lengths_p way0) fun r9 => bnd (forS (fun (i1 : Nat) (s1 : (List Nat)) => bnd (idx r9 (i1 : Int)) fun x2 => bnd (idx r8 (addI (i1 : Int) 1)) fun x3 => bnd (idx r8 (i1 : Int)) fun x4 => bnd (fsub .f32 x3 x4) fun r10 => bnd (tarnref2_Abs_p r10) fun r11 => bnd (fdiv .f32 r11 x2) fun r12 => bnd (app s1 ([r12] : List Nat)) fun l1 => some l1) r9.length 0 ([] : List Nat)) fun (x1 : (List Nat)) => bnd (tarnref2_NumberError_p x1) fun r13 => bnd (if (r13 != 0) then if ((decide ((r2.1.length : Int) > 0)) || (r2.2 != 3)) then some (.out false) else some (.go ()) else bnd (if (r2.2 != 0) then some true else bnd (slices_Equal_float32_float32_p r2.1 x1) fun r14 => some (!r14)) fun (c3 : Bool) => if c3 then some (.out false) else some (.go ())) fun (x5 : Ctl (Unit) (Bool)) => (match x5 with | .go s2 => bnd (tarnlaw2_within_p how0 1 3) fun r15 => bnd (tarnlaw2_when_p (!r15) 1) fun r16 => bnd (tarnref2_NumberError_p ([grade0] : List Nat)) fun r17 => bnd (tarnlaw2_when_p ((flt .f32 grade0 0) || (fgt .f32 grade0 1149239296)) 3) fun r18 => bnd (tarnlaw2_first_p ([r16, r17, r18] : List Int)) fun r19 => if (r19 != 0) then some (((r1.1.length : Int) == 0) && (r1.2 == r19)) else bnd (tarnref2_BedOf_p f0 way0 how0 grade0) fun r20 => bnd (tarnref2_NumberError_p r20) fun r21 => if (r21 != 0) then some (((r1.1.length : Int) == 0) && (r1.2 == 3)) else bnd (if (r1.2 == 0) then bnd (tarnlaw2_bits_p r1.1 r20) fun r22 => some r22 else some false) fun (c4 : Bool) => some c4 | .out e0 => some e0)

end Go.Proofs.Ythibohbaaljnkaa
