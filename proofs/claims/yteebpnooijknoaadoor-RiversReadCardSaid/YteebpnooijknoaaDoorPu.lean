/- Own text, by program: functions of the program as pure functions. -/
import Derived.Test.YteebpnooijknoaaDoorTy
namespace Go.Proofs.YteebpnooijknoaaDoor
open Sx
set_option linter.all false



/-- internal/stringslite.HasPrefix -/
def internal_stringslite_HasPrefix_p (s0 : ByteArray) (prefix0 : ByteArray)  : Option (Bool) := bnd (if decide ((s0.size : Int) ≥ (prefix0.size : Int)) then bnd (strSlc s0 0 (prefix0.size : Int)) fun z1 => some (strEq z1 prefix0) else some false) fun (c1 : Bool) => some c1

/-- internal/stringslite.CutPrefix -/
def internal_stringslite_CutPrefix_p (s0 : ByteArray) (prefix0 : ByteArray)  : Option (ByteArray × Bool) := bnd (internal_stringslite_HasPrefix_p s0 prefix0) fun r1 => if !r1 then some (s0, false) else bnd (strSlc s0 (prefix0.size : Int) (s0.size : Int)) fun z1 => some (z1, true)

/-- strings.CutPrefix -/
def strings_CutPrefix_p (s0 : ByteArray) (prefix0 : ByteArray)  : Option (ByteArray × Bool) := bnd (internal_stringslite_CutPrefix_p s0 prefix0) fun r1 => some (r1.1, r1.2)

/-- tarnfell/field.digits -/
def field_digits_p (s0 : ByteArray)  : Option (Int) := bnd (loopP (fun (s1 : Int) => bnd (if decide (s1 < (s0.size : Int)) then bnd (strIdx s0 s1) fun x2 => if decide ((byteI x2) ≥ 48) then bnd (strIdx s0 s1) fun x3 => some (decide ((byteI x3) ≤ 57)) else some false else some false) fun (c1 : Bool) => if c1 then some (.go (addI s1 1)) else some (.out s1)) 0) fun (x1 : Int) => some x1


/-- tarnfell/field.Integer -/
def field_Integer_p (s0 : ByteArray)  : Option (Int × Bool) := bnd (strings_CutPrefix_p s0 (⟨#[45]⟩ : ByteArray)) fun r1 => bnd (if strEq r1.1 (⟨#[]⟩ : ByteArray) then some true else bnd (field_digits_p r1.1) fun r2 => if (r2 != (r1.1.size : Int)) then some true else bnd (strIdx r1.1 0) fun x1 => if ((byteI x1) == 48) then if decide ((r1.1.size : Int) > 1) then some true else some r1.2 else some false) fun (c1 : Bool) => if c1 then some (0, false) else bnd (atoiP s0) fun r3 => some (r3.1, r3.2)

/-- tarnfell/water.Toward -/
def water_Toward_p (d0 : Int)  : Option (S_api_Point) := bnd (idx ([(⟨1, 0⟩ : S_api_Point), (⟨1, 1⟩ : S_api_Point), (⟨0, 1⟩ : S_api_Point), (⟨(-1), 1⟩ : S_api_Point), (⟨(-1), 0⟩ : S_api_Point), (⟨(-1), (-1)⟩ : S_api_Point), (⟨0, (-1)⟩ : S_api_Point), (⟨1, (-1)⟩ : S_api_Point)] : List S_api_Point) d0) fun x1 => some x1

/-- tarnfell/water.readRiver -/
def water_readRiver_p (line0 : ByteArray)  : Option (S_api_River × Bool) := bnd (splitP line0 (⟨#[32]⟩ : ByteArray)) fun r1 => bnd (if ((r1.length : Int) != 7) then some true else bnd (idx r1 0) fun x1 => some (!(strEq x1 (⟨#[114, 105, 118, 101, 114]⟩ : ByteArray)))) fun (c1 : Bool) => if c1 then some ((⟨[], 0, 0, 0⟩ : S_api_River), false) else bnd (forI (fun (i1 : Nat) (s2 : Int × Int × Int × Int × Int) => bnd (idx r1 (addI (i1 : Int) 1)) fun x3 => bnd (field_Integer_p x3) fun r2 => bnd (idx ([s2.1, s2.2.1, s2.2.2.1, s2.2.2.2.1, s2.2.2.2.2] : List Int) (i1 : Int)) fun x4 => if !r2.2 then some (.out ((⟨[], 0, 0, 0⟩ : S_api_River), false)) else some (.go ((bif (i1 : Int).toNat == 0 then r2.1 else s2.1), (bif (i1 : Int).toNat == 1 then r2.1 else s2.2.1), (bif (i1 : Int).toNat == 2 then r2.1 else s2.2.2.1), (bif (i1 : Int).toNat == 3 then r2.1 else s2.2.2.2.1), (bif (i1 : Int).toNat == 4 then r2.1 else s2.2.2.2.2)))) 5 0 (0, 0, 0, 0, 0)) fun (x2 : Ctl (Int × Int × Int × Int × Int) ((S_api_River × Bool))) => (match x2 with | .go s1 => bnd (idx ([s1.1, s1.2.1, s1.2.2.1, s1.2.2.2.1, s1.2.2.2.2] : List Int) 3) fun x5 => bnd (idx ([s1.1, s1.2.1, s1.2.2.1, s1.2.2.2.1, s1.2.2.2.2] : List Int) 4) fun x6 => bnd (idx ([s1.1, s1.2.1, s1.2.2.1, s1.2.2.2.1, s1.2.2.2.2] : List Int) 0) fun x7 => bnd (idx ([s1.1, s1.2.1, s1.2.2.1, s1.2.2.2.1, s1.2.2.2.2] : List Int) 1) fun x8 => bnd (idx ([s1.1, s1.2.1, s1.2.2.1, s1.2.2.2.1, s1.2.2.2.2] : List Int) 2) fun x9 => bnd (idx r1 6) fun x10 => if strEq x10 (⟨#[45]⟩ : ByteArray) then some ((⟨([(⟨x5, x6⟩ : S_api_Point)] : List S_api_Point), x7, x8, x9⟩ : S_api_River), true) else bnd (loopP (fun (s4 : Int × (List S_api_Point) × Int × Int) => bnd (idx r1 6) fun x12 => if decide (s4.1 < (x12.size : Int)) then bnd (idx r1 6) fun x13 => bnd (strIdx x13 s4.1) fun x14 => bnd (some (subI (IntKind.wrap .i64 (byteI x14)) 48)) fun d_1 => if ((decide (d_1 < 0)) || (decide (d_1 ≥ 8))) then some (.out (.out ((⟨[], 0, 0, 0⟩ : S_api_River), false))) else bnd (water_Toward_p d_1) fun r3 => bnd (app s4.2.1 ([(⟨addI s4.2.2.1 r3.X, addI s4.2.2.2 r3.Y⟩ : S_api_Point)] : List S_api_Point)) fun l1 => some (.go (addI s4.1 1, l1, addI s4.2.2.1 r3.X, addI s4.2.2.2 r3.Y)) else some (.out (.go (s4.2.1, s4.2.2.1, s4.2.2.2)))) (0, ([(⟨x5, x6⟩ : S_api_Point)] : List S_api_Point), x5, x6)) fun (x11 : Ctl ((List S_api_Point) × Int × Int) ((S_api_River × Bool))) => (match x11 with | .go s3 => some ((⟨s3.1, x7, x8, x9⟩ : S_api_River), decide ((s3.1.length : Int) > 1)) | .out e0 => some e0) | .out e0 => some e0)

/-- tarnfell/noise.CheckPlace -/
def noise_CheckPlace_p (x0 : Int) (y0 : Int)  : Option (Int) := if ((decide (x0 < (-4194304))) || ((decide (x0 > 4194304)) || ((decide (y0 < (-4194304))) || (decide (y0 > 4194304))))) then some 5 else some 0

/-- tarnfell/water.Direction -/
def water_Direction_p (a0 : S_api_Point) (b0 : S_api_Point)  : Option (Int) := bnd (forI (fun (i1 : Nat) (s2 : Unit) => bnd (water_Toward_p (i1 : Int)) fun r1 => if (((addI a0.X r1.X) == b0.X) && ((addI a0.Y r1.Y) == b0.Y)) then some (.out (i1 : Int)) else some (.go ())) 8 0 ()) fun (x1 : Ctl (Unit) (Int)) => (match x1 with | .go s1 => some (-1) | .out e0 => some e0)

/-- tarnfell/water.checkRiver -/
def water_checkRiver_p (r0 : S_api_River) (many0 : Int)  : Option (Int) := if ((r0.Points.length : Int) == 0) then some 10 else if ((decide (r0.Amount < 0)) || ((decide (r0.Amount > 1099511627776)) || ((decide (r0.Order < 1)) || (decide (r0.Order > 100))))) then some 3 else if ((decide (r0.Into < (-1))) || (decide (r0.Into ≥ many0))) then some 11 else bnd (forI (fun (i1 : Nat) (s2 : Unit) => bnd (idx r0.Points (i1 : Int)) fun x2 => bnd (noise_CheckPlace_p x2.X x2.Y) fun r1 => if (r1 != 0) then some (.out 5) else some (.go ())) r0.Points.length 0 ()) fun (x1 : Ctl (Unit) (Int)) => (match x1 with | .go s1 => bnd (slc r0.Points 1 (r0.Points.length : Int)) fun l1 => bnd (forI (fun (i2 : Nat) (s4 : Unit) => bnd (idx l1 (i2 : Int)) fun x4 => bnd (idx r0.Points (i2 : Int)) fun x5 => bnd (water_Direction_p x5 x4) fun r2 => if (r2 == (-1)) then some (.out 2) else some (.go ())) l1.length 0 ()) fun (x3 : Ctl (Unit) (Int)) => (match x3 with | .go s3 => some 0 | .out e0 => some e0) | .out e0 => some e0)

/-- tarnfell/water.checkRivers -/
def water_checkRivers_p (l0 : List S_api_River)  : Option (Int) := if decide ((l0.length : Int) > 65536) then some 4 else bnd (forI (fun (i1 : Nat) (s2 : Unit) => bnd (idx l0 (i1 : Int)) fun x2 => bnd (water_checkRiver_p x2 (l0.length : Int)) fun r1 => if (r1 != 0) then some (.out r1) else some (.go ())) l0.length 0 ()) fun (x1 : Ctl (Unit) (Int)) => (match x1 with | .go s1 => some 0 | .out e0 => some e0)

/-- tarnfell/water.ParseRivers -/
def water_ParseRivers_p (text0 : ByteArray)  : Option ((List S_api_River) × Int × Int) := if decide ((text0.size : Int) > 4194304) then some ([], 0, 4) else bnd (loopP (fun (s2 : ByteArray × Int × (List S_api_River)) => if !(strEq s2.1 (⟨#[]⟩ : ByteArray)) then bnd (cutP s2.1 (⟨#[10]⟩ : ByteArray)) fun r1 => bnd (water_readRiver_p r1.1) fun r2 => if ((!r1.2.2) || (!r2.2)) then some (.out (.out ([], s2.2.1, 9))) else bnd (app s2.2.2 ([r2.1] : List S_api_River)) fun l1 => some (.go (r1.2.1, addI s2.2.1 1, l1)) else some (.out (.go s2.2.2))) (text0, 0, ([] : List S_api_River))) fun (x1 : Ctl ((List S_api_River)) (((List S_api_River) × Int × Int))) => (match x1 with | .go s1 => bnd (water_checkRivers_p s1) fun r3 => if (r3 != 0) then some ([], 0, r3) else some (s1, 0, 0) | .out e0 => some e0)

/-- tarnfell/field.side -/
def field_side_p (n0 : Int)  : Option (Bool) := some ((decide (n0 ≥ 1)) && (decide (n0 ≤ 512)))

/-- tarnfell/field.CheckRegion -/
def field_CheckRegion_p (r0 : S_api_Region)  : Option (Int) := bnd (bnd (field_side_p r0.W) fun r1 => if !r1 then some true else bnd (field_side_p r0.H) fun r2 => some (!r2)) fun (c1 : Bool) => if c1 then some 3 else if decide ((mulI r0.W r0.H) > 65536) then some 4 else if ((decide (r0.X < (-4194304))) || ((decide (r0.Y < (-4194304))) || ((decide (r0.X > (subI 4194304 r0.W))) || (decide (r0.Y > (subI 4194304 r0.H)))))) then some 5 else some 0

/-- tarnfell/field.finite -/
def field_finite_p (v0 : Nat)  : Option (Bool) := some ((fge .f32 v0 4286578687) && (fle .f32 v0 2139095039))

/-- tarnfell/field.height -/
def field_height_p (v0 : Nat)  : Option (Bool) := some ((fge .f32 v0 3380609024) && (fle .f32 v0 1233125376))

/-- tarnfell/field.Heights -/
def field_Heights_p (l0 : List Nat)  : Option (Int) := bnd (forI (fun (i1 : Nat) (s2 : Unit) => bnd (idx l0 (i1 : Int)) fun x2 => bnd (field_finite_p x2) fun r1 => if !r1 then some (.out 2) else some (.go ())) l0.length 0 ()) fun (x1 : Ctl (Unit) (Int)) => (match x1 with | .go s1 => bnd (forI (fun (i2 : Nat) (s4 : Unit) => bnd (idx l0 (i2 : Int)) fun x4 => bnd (field_height_p x4) fun r2 => if !r2 then some (.out 3) else some (.go ())) l0.length 0 ()) fun (x3 : Ctl (Unit) (Int)) => (match x3 with | .go s3 => some 0 | .out e0 => some e0) | .out e0 => some e0)

/-- tarnfell/field.Check -/
def field_Check_p (f0 : S_api_Field)  : Option (Int) := bnd (field_CheckRegion_p f0.Region) fun r1 => if (r1 != 0) then some r1 else if ((f0.V.length : Int) != (mulI f0.Region.W f0.Region.H)) then some 2 else bnd (field_Heights_p f0.V) fun r2 => some r2

/-- tarnfell/water.border -/
def water_border_p (r0 : S_api_Region) (k0 : Int)  : Option (Bool) := bnd (guardP (r0.W != 0)) fun u1 => some (((remI k0 r0.W) == 0) || (((quoI k0 r0.W) == 0) || (((remI k0 r0.W) == (subI r0.W 1)) || ((quoI k0 r0.W) == (subI r0.H 1)))))

/-- (tarnfell/water.spills).Len -/
def water_spills_Len_p (s0 : List S_water_spill)  : Option (Int) := some (s0.length : Int)

/-- (tarnfell/water.spills).Less -/
def water_spills_Less_p (s0 : List S_water_spill) (i0 : Int) (j0 : Int)  : Option (Bool) := bnd (bnd (idx s0 i0) fun x1 => bnd (idx s0 j0) fun x2 => if flt .f32 x1.v x2.v then some true else bnd (idx s0 i0) fun x3 => bnd (idx s0 j0) fun x4 => if feq .f32 x3.v x4.v then bnd (idx s0 i0) fun x5 => bnd (idx s0 j0) fun x6 => some (decide (x5.k < x6.k)) else some false) fun (c1 : Bool) => some c1

/-- (tarnfell/water.spills).Swap -/
def water_spills_Swap_p (s0 : List S_water_spill) (i0 : Int) (j0 : Int)  : Option ((List S_water_spill)) := bnd (idx s0 j0) fun x1 => bnd (idx s0 i0) fun x2 => bnd (some (s0.set i0.toNat x1)) fun l1 => bnd (idx l1 j0) fun x3 => bnd (some (l1.set j0.toNat x2)) fun l2 => some l2

/-- container/heap.down -/
def container_heap_down_p (h0 : List S_water_spill) (i00 : Int) (n0 : Int)  : Option (Bool × (List S_water_spill)) := bnd (loopP (fun (s1 : Int × (List S_water_spill)) => if ((decide ((addI (mulI 2 s1.1) 1) ≥ n0)) || (decide ((addI (mulI 2 s1.1) 1) < 0))) then some (.out (s1.1, s1.2)) else bnd (some (addI (addI (mulI 2 s1.1) 1) 1)) fun j2_1 => bnd (if decide (j2_1 < n0) then bnd (water_spills_Less_p s1.2 j2_1 (addI (mulI 2 s1.1) 1)) fun r1 => some r1 else some false) fun (c1 : Bool) => bnd (if c1 then some j2_1 else some (addI (mulI 2 s1.1) 1)) fun (s2 : Int) => bnd (water_spills_Less_p s1.2 s2 s1.1) fun r2 => if !r2 then some (.out (s1.1, s1.2)) else bnd (water_spills_Swap_p s1.2 s1.1 s2) fun r3 => some (.go (s2, r3))) (i00, h0)) fun (x1 : Int × (List S_water_spill)) => some (decide (x1.1 > i00), x1.2)

/-- container/heap.Init -/
def container_heap_Init_p (h0 : List S_water_spill)  : Option ((List S_water_spill)) := bnd (water_spills_Len_p h0) fun r1 => bnd (loopP (fun (s1 : Int × (List S_water_spill)) => if decide (s1.1 ≥ 0) then bnd (container_heap_down_p s1.2 s1.1 r1) fun r2 => some (.go (subI s1.1 1, r2.2)) else some (.out s1.2)) (subI (quoI r1 2) 1, h0)) fun (x1 : (List S_water_spill)) => some x1

/-- (*tarnfell/water.spills).Pop -/
def water_spills_Pop_p (s0 : List S_water_spill)  : Option (S_water_spill × (List S_water_spill)) := bnd (idx s0 (subI (s0.length : Int) 1)) fun x1 => bnd (slc s0 0 (subI (s0.length : Int) 1)) fun l1 => some (x1, l1)

/-- container/heap.Pop -/
def container_heap_Pop_p (h0 : List S_water_spill)  : Option (S_water_spill × (List S_water_spill)) := bnd (water_spills_Len_p h0) fun r1 => bnd (water_spills_Swap_p h0 0 (subI r1 1)) fun r2 => bnd (container_heap_down_p r2 0 (subI r1 1)) fun r3 => bnd (water_spills_Pop_p r3.2) fun r4 => some (r4.1, r4.2)

/-- tarnfell/water.beside -/
def water_beside_p (r0 : S_api_Region) (k0 : Int) (d0 : Int)  : Option (Int × Bool) := bnd (water_Toward_p d0) fun r1 => bnd (guardP (r0.W != 0)) fun u1 => if ((decide ((addI (remI k0 r0.W) r1.X) < 0)) || ((decide ((addI (quoI k0 r0.W) r1.Y) < 0)) || ((decide ((addI (remI k0 r0.W) r1.X) ≥ r0.W)) || (decide ((addI (quoI k0 r0.W) r1.Y) ≥ r0.H))))) then some (0, false) else some (addI (mulI (addI (quoI k0 r0.W) r1.Y) r0.W) (addI (remI k0 r0.W) r1.X), true)

/-- (*tarnfell/water.spills).Push -/
def water_spills_Push_p (s0 : List S_water_spill) (x0 : S_water_spill)  : Option ((List S_water_spill)) := bnd (app s0 ([x0] : List S_water_spill)) fun l1 => some l1

/-- container/heap.up -/
def container_heap_up_p (h0 : List S_water_spill) (j0 : Int)  : Option ((List S_water_spill)) := bnd (loopP (fun (s1 : Int × (List S_water_spill)) => bnd (if ((quoI (subI s1.1 1) 2) == s1.1) then some true else bnd (water_spills_Less_p s1.2 s1.1 (quoI (subI s1.1 1) 2)) fun r1 => some (!r1)) fun (c1 : Bool) => if c1 then some (.out s1.2) else bnd (water_spills_Swap_p s1.2 (quoI (subI s1.1 1) 2) s1.1) fun r2 => some (.go (quoI (subI s1.1 1) 2, r2))) (j0, h0)) fun (x1 : (List S_water_spill)) => some x1

/-- container/heap.Push -/
def container_heap_Push_p (h0 : List S_water_spill) (x0 : S_water_spill)  : Option ((List S_water_spill)) := bnd (water_spills_Push_p h0 x0) fun r1 => bnd (water_spills_Len_p r1) fun r2 => bnd (container_heap_up_p r1 (subI r2 1)) fun r3 => some r3

/-- tarnfell/water.filled$1 -/
def water_filled_1_p (n0 : Int) (d0 : Int) (p0 : S_api_Field) (p00 : S_water_spill) (p000 : Nat) (p0000 : List Bool) (p00000 : List Bool) (p000000 : List Nat) (p0000000 : List S_water_spill)  : Option ((List Bool) × (List Nat) × (List S_water_spill)) := bnd (idx p0.V n0) fun x1 => bnd (fadd .f32 p00.v p000) fun r1 => bnd (if fgt .f32 r1 x1 then some r1 else some x1) fun (s1 : Nat) => bnd (bnd (idx p0000 n0) fun x2 => bnd (idx p0000 n0) fun x3 => if !x3 then bnd (idx p00000 n0) fun x4 => bnd (idx p00000 n0) fun x5 => if !x5 then some true else bnd (idx p000000 n0) fun x6 => bnd (idx p000000 n0) fun x7 => some (flt .f32 s1 x7) else some false) fun (c1 : Bool) => if c1 then bnd (idx p000000 n0) fun x8 => bnd (some (p000000.set n0.toNat s1)) fun l1 => bnd (idx p00000 n0) fun x9 => bnd (some (p00000.set n0.toNat true)) fun l2 => bnd (container_heap_Push_p p0000000 (⟨s1, n0⟩ : S_water_spill)) fun r2 => some (l2, l1, r2) else some (p00000, p000000, p0000000)

/-- tarnfell/water.Neighbours -/
def water_Neighbours_p (r0 : S_api_Region) (k0 : Int) (each0_c0 : S_api_Field) (each0_c1 : S_water_spill) (each0_c2 : Nat) (each0_c3 : List Bool) (each0_c4 : List Bool) (each0_c5 : List Nat) (each0_c6 : List S_water_spill)  : Option ((List Bool) × (List Nat) × (List S_water_spill)) := bnd (forS (fun (i1 : Nat) (s1 : (List Bool) × (List Nat) × (List S_water_spill)) => bnd (bnd (water_beside_p r0 k0 (i1 : Int)) fun r1 => if r1.2 then bnd (water_filled_1_p r1.1 (i1 : Int) each0_c0 each0_c1 each0_c2 each0_c3 s1.1 s1.2.1 s1.2.2) fun r2 => some (r2.1, r2.2.1, r2.2.2) else some (s1.1, s1.2.1, s1.2.2)) fun (s2 : (List Bool) × (List Nat) × (List S_water_spill)) => some (s2.1, s2.2.1, s2.2.2)) 8 0 (each0_c4, each0_c5, each0_c6)) fun (x1 : (List Bool) × (List Nat) × (List S_water_spill)) => some (x1.1, x1.2.1, x1.2.2)

/-- tarnfell/water.filled -/
def water_filled_p (f0 : S_api_Field) (slope0 : Nat)  : Option ((List Nat)) := bnd (mk2 (0 : Nat) (f0.V.length : Int) (f0.V.length : Int)) fun l1 => bnd (mk2 (false : Bool) (f0.V.length : Int) (f0.V.length : Int)) fun l2 => bnd (mk2 (false : Bool) (f0.V.length : Int) (f0.V.length : Int)) fun l3 => bnd (forS (fun (i1 : Nat) (s1 : (List S_water_spill) × (List Bool) × (List Nat)) => bnd (bnd (idx f0.V (i1 : Int)) fun x2 => bnd (water_border_p f0.Region (i1 : Int)) fun r1 => if r1 then bnd (app s1.1 ([(⟨x2, (i1 : Int)⟩ : S_water_spill)] : List S_water_spill)) fun l4 => bnd (idx s1.2.2 (i1 : Int)) fun x3 => bnd (some (s1.2.2.set (i1 : Int).toNat x2)) fun l5 => bnd (idx s1.2.1 (i1 : Int)) fun x4 => bnd (some (s1.2.1.set (i1 : Int).toNat true)) fun l6 => some (l4, l6, l5) else some (s1.1, s1.2.1, s1.2.2)) fun (s2 : (List S_water_spill) × (List Bool) × (List Nat)) => some (s2.1, s2.2.1, s2.2.2)) f0.V.length 0 (([] : List S_water_spill), l3, l1)) fun (x1 : (List S_water_spill) × (List Bool) × (List Nat)) => bnd (container_heap_Init_p x1.1) fun r2 => bnd (loopP (fun (s3 : (List S_water_spill) × (List Bool) × (List Bool) × (List Nat)) => if decide ((s3.1.length : Int) > 0) then bnd (container_heap_Pop_p s3.1) fun r3 => bnd (idx s3.2.2.1 r3.1.k) fun x6 => if x6 then some (.go (r3.2, s3.2.1, s3.2.2.1, s3.2.2.2)) else bnd (idx s3.2.2.1 r3.1.k) fun x7 => bnd (some (s3.2.2.1.set r3.1.k.toNat true)) fun l7 => bnd (water_Neighbours_p f0.Region r3.1.k f0 r3.1 slope0 l7 s3.2.1 s3.2.2.2 r3.2) fun r4 => some (.go (r4.2.2, r4.1, l7, r4.2.1)) else some (.out (s3.1, s3.2.1, s3.2.2.1, s3.2.2.2))) (r2, x1.2.1, l2, x1.2.2)) fun (x5 : (List S_water_spill) × (List Bool) × (List Bool) × (List Nat)) => some x5.2.2.2

/-- tarnfell/field.Result -/
def field_Result_p (f0 : S_api_Field)  : Option (S_api_Field × Int) := bnd (forI (fun (i1 : Nat) (s2 : Unit) => bnd (idx f0.V (i1 : Int)) fun x2 => bnd (field_height_p x2) fun r1 => if !r1 then some (.out ((⟨(⟨0, 0, 0, 0⟩ : S_api_Region), []⟩ : S_api_Field), 3)) else some (.go ())) f0.V.length 0 ()) fun (x1 : Ctl (Unit) ((S_api_Field × Int))) => (match x1 with | .go s1 => some (f0, 0) | .out e0 => some e0)

/-- tarnfell/water.Filled -/
def water_Filled_p (f0 : S_api_Field) (slope0 : Nat)  : Option (S_api_Field × Int) := bnd (field_Check_p f0) fun r1 => if (r1 != 0) then some ((⟨(⟨0, 0, 0, 0⟩ : S_api_Region), []⟩ : S_api_Field), r1) else bnd (field_Heights_p ([slope0] : List Nat)) fun r2 => if (r2 != 0) then some ((⟨(⟨0, 0, 0, 0⟩ : S_api_Region), []⟩ : S_api_Field), r2) else if ((flt .f32 slope0 0) || (fgt .f32 slope0 1149239296)) then some ((⟨(⟨0, 0, 0, 0⟩ : S_api_Region), []⟩ : S_api_Field), 3) else bnd (water_filled_p f0 slope0) fun r3 => bnd (field_Result_p (⟨f0.Region, r3⟩ : S_api_Field)) fun r4 => some (r4.1, r4.2)

/-- tarnfell/tarnlaw2.flows -/
def tarnlaw2_flows_p   : Option (Bool) := bnd (water_Filled_p (⟨(⟨0, 0, 3, 3⟩ : S_api_Region), ([1084227584, 1084227584, 1084227584, 1084227584, 0, 1084227584, 1084227584, 1084227584, 1084227584] : List Nat)⟩ : S_api_Field) 0) fun r1 => bnd (if (r1.2 == 0) then if ((r1.1.V.length : Int) == 9) then bnd (idx r1.1.V 4) fun x1 => some (feq .f32 x1 1084227584) else some false else some false) fun (c1 : Bool) => some c1

/-- tarnfell/tarnref2.Step -/
def tarnref2_Step_p (d0 : Int)  : Option (Int × Int) := bnd (idx ([1, 1, 0, (-1), (-1), (-1), 0, 1] : List Int) d0) fun x1 => bnd (idx ([0, 1, 1, 1, 0, (-1), (-1), (-1)] : List Int) d0) fun x2 => some (x1, x2)

/-- tarnfell/tarnref2.Direction -/
def tarnref2_Direction_p (a0 : S_api_Point) (b0 : S_api_Point)  : Option (Int) := bnd (forI (fun (i1 : Nat) (s2 : Unit) => bnd (tarnref2_Step_p (i1 : Int)) fun r1 => if (((subI b0.X a0.X) == r1.1) && ((subI b0.Y a0.Y) == r1.2)) then some (.out (i1 : Int)) else some (.go ())) 8 0 ()) fun (x1 : Ctl (Unit) (Int)) => (match x1 with | .go s1 => some (-1) | .out e0 => some e0)

/-- tarnfell/tarnref2.RiverError -/
def tarnref2_RiverError_p (l0 : List S_api_River)  : Option (Int) := if decide ((l0.length : Int) > 65536) then some 4 else bnd (forI (fun (i1 : Nat) (s2 : Unit) => bnd (idx l0 (i1 : Int)) fun x2 => if ((x2.Points.length : Int) == 0) then some (.out 10) else if ((decide (x2.Amount < 0)) || ((decide (x2.Amount > 1099511627776)) || ((decide (x2.Order < 1)) || (decide (x2.Order > 100))))) then some (.out 3) else if ((decide (x2.Into < (-1))) || (decide (x2.Into ≥ (l0.length : Int)))) then some (.out 11) else bnd (forI (fun (i2 : Nat) (s4 : Unit) => bnd (idx x2.Points (i2 : Int)) fun x4 => if ((decide (x4.X < (-4194304))) || ((decide (x4.X > 4194304)) || ((decide (x4.Y < (-4194304))) || (decide (x4.Y > 4194304))))) then some (.out 5) else some (.go ())) x2.Points.length 0 ()) fun (x3 : Ctl (Unit) (Int)) => (match x3 with | .go s3 => bnd (forI (fun (i3 : Nat) (s6 : Unit) => bnd (idx x2.Points (i3 : Int)) fun x6 => bnd (if decide ((i3 : Int) > 0) then bnd (idx x2.Points (subI (i3 : Int) 1)) fun x7 => bnd (tarnref2_Direction_p x7 x6) fun r1 => some (decide (r1 < 0)) else some false) fun (c1 : Bool) => if c1 then some (.out 2) else some (.go ())) x2.Points.length 0 ()) fun (x5 : Ctl (Unit) (Int)) => (match x5 with | .go s5 => some (.go ()) | .out e0 => some (.out e0)) | .out e0 => some (.out e0))) l0.length 0 ()) fun (x1 : Ctl (Unit) (Int)) => (match x1 with | .go s1 => some 0 | .out e0 => some e0)


/-- tarnfell/tarnlaw2.riverText -/
def tarnlaw2_riverText_p (l0 : List S_api_River)  : Option (ByteArray) := bnd (forS (fun (i1 : Nat) (s1 : ByteArray) => bnd (idx l0 (i1 : Int)) fun x2 => bnd (idx x2.Points 0) fun x3 => bnd (itoaP x2.Amount) fun r1 => bnd (strAdd (⟨#[114, 105, 118, 101, 114, 32]⟩ : ByteArray) r1) fun r2 => bnd (strAdd r2 (⟨#[32]⟩ : ByteArray)) fun r3 => bnd (itoaP x2.Order) fun r4 => bnd (strAdd r3 r4) fun r5 => bnd (strAdd r5 (⟨#[32]⟩ : ByteArray)) fun r6 => bnd (itoaP x2.Into) fun r7 => bnd (strAdd r6 r7) fun r8 => bnd (strAdd r8 (⟨#[32]⟩ : ByteArray)) fun r9 => bnd (itoaP x3.X) fun r10 => bnd (strAdd r9 r10) fun r11 => bnd (strAdd r11 (⟨#[32]⟩ : ByteArray)) fun r12 => bnd (itoaP x3.Y) fun r13 => bnd (strAdd r12 r13) fun r14 => bnd (strAdd r14 (⟨#[32]⟩ : ByteArray)) fun r15 => bnd (strAdd s1 r15) fun r16 => bnd (slc x2.Points 1 (x2.Points.length : Int)) fun l1 => bnd (forS (fun (i2 : Nat) (s2 : ByteArray) => bnd (idx x2.Points (i2 : Int)) fun x5 => bnd (idx x2.Points (addI (i2 : Int) 1)) fun x6 => bnd (tarnref2_Direction_p x5 x6) fun r17 => bnd (itoaP r17) fun r18 => bnd (strAdd s2 r18) fun r19 => some r19) l1.length 0 r16) fun (x4 : ByteArray) => bnd (if ((x2.Points.length : Int) == 1) then bnd (strAdd x4 (⟨#[45]⟩ : ByteArray)) fun r20 => some r20 else some x4) fun (s3 : ByteArray) => bnd (strAdd s3 (⟨#[10]⟩ : ByteArray)) fun r21 => some r21) l0.length 0 (⟨#[]⟩ : ByteArray)) fun (x1 : ByteArray) => some x1


/-- tarnfell/tarnlaw2.within -/
def tarnlaw2_within_p (n0 : Int) (low0 : Int) (high0 : Int)  : Option (Bool) := some ((decide (n0 ≥ low0)) && (decide (n0 ≤ high0)))

/-- slices.Index[[]tarnfell/api.Errno,tarnfell/api.Errno] -/
def slices_Index_api_Errno_api_Errno_p (s0 : List Int) (v0 : Int)  : Option (Int) := bnd (forI (fun (i1 : Nat) (s2 : Unit) => bnd (idx s0 (i1 : Int)) fun x2 => if (v0 == x2) then some (.out (i1 : Int)) else some (.go ())) s0.length 0 ()) fun (x1 : Ctl (Unit) (Int)) => (match x1 with | .go s1 => some (-1) | .out e0 => some e0)

/-- slices.Contains[[]tarnfell/api.Errno,tarnfell/api.Errno] -/
def slices_Contains_api_Errno_api_Errno_p (s0 : List Int) (v0 : Int)  : Option (Bool) := bnd (slices_Index_api_Errno_api_Errno_p s0 v0) fun r1 => some (decide (r1 ≥ 0))

/-- tarnfell/tarnlaw2.RiversRead -/
def tarnlaw2_RiversRead_p (text0 : ByteArray)  : Option (Bool) := bnd (water_ParseRivers_p text0) fun r1 => bnd (bnd (tarnlaw2_flows_p) fun r2 => if !r2 then some true else some (decide ((text0.size : Int) > 10000))) fun (c1 : Bool) => if c1 then bnd (tarnlaw2_flows_p) fun r3 => some r3 else if (r1.2.2 == 0) then bnd (if (r1.2.1 == 0) then bnd (tarnref2_RiverError_p r1.1) fun r4 => if (r4 == 0) then bnd (tarnlaw2_riverText_p r1.1) fun r5 => some (strEq r5 text0) else some false else some false) fun (c2 : Bool) => some c2 else bnd (countP text0 (⟨#[10]⟩ : ByteArray)) fun r6 => if (r1.2.2 == 9) then bnd (if ((r1.1.length : Int) == 0) then bnd (tarnlaw2_within_p r1.2.1 0 r6) fun r7 => some r7 else some false) fun (c3 : Bool) => some c3 else if ((r1.1.length : Int) == 0) then if (r1.2.1 == 0) then bnd (slices_Contains_api_Errno_api_Errno_p ([3, 11, 5] : List Int) r1.2.2) fun r8 => some r8 else some false else some false

end Go.Proofs.YteebpnooijknoaaDoor
