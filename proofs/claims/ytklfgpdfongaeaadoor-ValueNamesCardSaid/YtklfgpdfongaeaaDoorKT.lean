/- The data types of this translation. -/
import Derived.Test.YtklfgpdfongaeaaDoorKA
import Derived.Test.YtklfgpdfongaeaaDoorTypes
namespace Go.Proofs.YtklfgpdfongaeaaDoor
open Go Go.RowKit
set_option linter.unusedSimpArgs false
set_option linter.unusedVariables false
structure api_Value where
  Kind : UInt8
  Num : Int
  Bits : UInt64
  Text : List UInt8
  deriving DecidableEq, Inhabited
def R_api_Value : Rep api_Value := viaR (fun x => (x.Kind, x.Num, x.Bits, x.Text, ())) (prodR u8R (prodR i64R (prodR u64R (prodR strR unitR))))
theorem pt_api_Value_Kind (x : api_Value) : Part R_api_Value x 0 u8R x.Kind (fun y => { x with Kind := y }) := (Part.fst).via (fun _ => rfl)
theorem pt_api_Value_Num (x : api_Value) : Part R_api_Value x 1 i64R x.Num (fun y => { x with Num := y }) := (Part.snd Part.fst).via (fun _ => rfl)
theorem pt_api_Value_Bits (x : api_Value) : Part R_api_Value x 2 u64R x.Bits (fun y => { x with Bits := y }) := (Part.snd (Part.snd Part.fst)).via (fun _ => rfl)
theorem pt_api_Value_Text (x : api_Value) : Part R_api_Value x 3 strR x.Text (fun y => { x with Text := y }) := (Part.snd (Part.snd (Part.snd Part.fst))).via (fun _ => rfl)
structure value_number where
  neg : Bool
  end_ : Bool
  m : UInt64
  e : Int
  deriving DecidableEq, Inhabited
def R_value_number : Rep value_number := viaR (fun x => (x.neg, x.end_, x.m, x.e, ())) (prodR boolR (prodR boolR (prodR u64R (prodR i64R unitR))))
theorem pt_value_number_neg (x : value_number) : Part R_value_number x 0 boolR x.neg (fun y => { x with neg := y }) := (Part.fst).via (fun _ => rfl)
theorem pt_value_number_end_ (x : value_number) : Part R_value_number x 1 boolR x.end_ (fun y => { x with end_ := y }) := (Part.snd Part.fst).via (fun _ => rfl)
theorem pt_value_number_m (x : value_number) : Part R_value_number x 2 u64R x.m (fun y => { x with m := y }) := (Part.snd (Part.snd Part.fst)).via (fun _ => rfl)
theorem pt_value_number_e (x : value_number) : Part R_value_number x 3 i64R x.e (fun y => { x with e := y }) := (Part.snd (Part.snd (Part.snd Part.fst))).via (fun _ => rfl)
theorem zr98 : Zr (arrR 64 u8R) (Value.cells (.agg #[.int .u8 (0), .int .u8 (0), .int .u8 (0), .int .u8 (0), .int .u8 (0), .int .u8 (0), .int .u8 (0), .int .u8 (0), .int .u8 (0), .int .u8 (0), .int .u8 (0), .int .u8 (0), .int .u8 (0), .int .u8 (0), .int .u8 (0), .int .u8 (0), .int .u8 (0), .int .u8 (0), .int .u8 (0), .int .u8 (0), .int .u8 (0), .int .u8 (0), .int .u8 (0), .int .u8 (0), .int .u8 (0), .int .u8 (0), .int .u8 (0), .int .u8 (0), .int .u8 (0), .int .u8 (0), .int .u8 (0), .int .u8 (0), .int .u8 (0), .int .u8 (0), .int .u8 (0), .int .u8 (0), .int .u8 (0), .int .u8 (0), .int .u8 (0), .int .u8 (0), .int .u8 (0), .int .u8 (0), .int .u8 (0), .int .u8 (0), .int .u8 (0), .int .u8 (0), .int .u8 (0), .int .u8 (0), .int .u8 (0), .int .u8 (0), .int .u8 (0), .int .u8 (0), .int .u8 (0), .int .u8 (0), .int .u8 (0), .int .u8 (0), .int .u8 (0), .int .u8 (0), .int .u8 (0), .int .u8 (0), .int .u8 (0), .int .u8 (0), .int .u8 (0), .int .u8 (0)])).toList (Vector.replicate 64 0) := Zr.arr (c := (Value.cells (.int .u8 (0))).toList) (Zr.num rfl) rfl
theorem zr24 : Zr R_api_Value (Value.cells (.agg #[.int .u8 (0), .int .i64 (0), .int .u64 (0), .string ByteArray.empty])).toList (⟨0, 0, 0, []⟩ : api_Value) := Zr.via (Zr.prod (Zr.num rfl) (Zr.prod (Zr.num rfl) (Zr.prod (Zr.num rfl) (Zr.prod Zr.str Zr.unit rfl) rfl) rfl) rfl)
theorem zr79 : Zr R_value_number (Value.cells (.agg #[.bool false, .bool false, .int .u64 (0), .int .i64 (0)])).toList (⟨false, false, 0, 0⟩ : value_number) := Zr.via (Zr.prod Zr.bool (Zr.prod Zr.bool (Zr.prod (Zr.num rfl) (Zr.prod (Zr.num rfl) Zr.unit rfl) rfl) rfl) rfl)
theorem sc1 : Sc Tryd.prog 1 := ⟨_, Tryd.underlying1, trivial⟩
theorem ty1 : TyIs Tryd.prog 1 false 1 := .sc sc1
theorem ty2 : TyIs Tryd.prog 2 false 1 := .sc sc2
theorem ty3 : TyIs Tryd.prog 3 false 1 := .sc sc3
theorem ty4 : TyIs Tryd.prog 4 false 1 := .sc sc4
theorem ty5 : TyIs Tryd.prog 5 false 1 := .sc sc5
theorem ty6 : TyIs Tryd.prog 6 false 1 := .sc sc6
theorem ty7 : TyIs Tryd.prog 7 true 4 := .ag ag7 ti7
theorem ty8 : TyIs Tryd.prog 8 true 4 := .ag ag8 ti8
theorem ty9 : TyIs Tryd.prog 9 false 1 := .sc sc9
theorem ty10 : TyIs Tryd.prog 10 false 1 := .sc sc10
theorem ty11 : TyIs Tryd.prog 11 false 1 := .sc sc11
theorem ty12 : TyIs Tryd.prog 12 false 1 := .sc sc12
theorem ty13 : TyIs Tryd.prog 13 true 2 := .ag ag13 ti13
theorem ty14 : TyIs Tryd.prog 14 true 2 := .ag ag14 ti14
theorem ty15 : TyIs Tryd.prog 15 false 1 := .sc sc15
theorem ty16 : TyIs Tryd.prog 16 false 1 := .sc sc16
theorem ty17 : TyIs Tryd.prog 17 false 1 := .sc sc17
theorem ty18 : TyIs Tryd.prog 18 true 1 := .ag ag18 ti18
theorem ty19 : TyIs Tryd.prog 19 true 1 := .ag ag19 ti19
theorem ty21 : TyIs Tryd.prog 21 false 1 := .sc sc21
theorem ty22 : TyIs Tryd.prog 22 false 1 := .sc sc22
theorem ty23 : TyIs Tryd.prog 23 true 4 := .ag ag23 ti23
theorem ty24 : TyIs Tryd.prog 24 true 4 := .ag ag24 ti24
theorem sc25 : Sc Tryd.prog 25 := ⟨_, Tryd.underlying25, trivial⟩
theorem ty25 : TyIs Tryd.prog 25 false 1 := .sc sc25
theorem sc26 : Sc Tryd.prog 26 := ⟨_, Tryd.underlying26, trivial⟩
theorem ty26 : TyIs Tryd.prog 26 false 1 := .sc sc26
theorem ty27 : TyIs Tryd.prog 27 false 1 := .sc sc27
theorem sc29 : Sc Tryd.prog 29 := ⟨_, Tryd.underlying29, trivial⟩
theorem ty29 : TyIs Tryd.prog 29 false 1 := .sc sc29
theorem sc30 : Sc Tryd.prog 30 := ⟨_, Tryd.underlying30, trivial⟩
theorem ty30 : TyIs Tryd.prog 30 false 1 := .sc sc30
theorem sc31 : Sc Tryd.prog 31 := ⟨_, Tryd.underlying31, trivial⟩
theorem ty31 : TyIs Tryd.prog 31 false 1 := .sc sc31
theorem sc32 : Sc Tryd.prog 32 := ⟨_, Tryd.underlying32, trivial⟩
theorem ty32 : TyIs Tryd.prog 32 false 1 := .sc sc32
theorem ty33 : TyIs Tryd.prog 33 false 1 := .sc sc33
theorem sc34 : Sc Tryd.prog 34 := ⟨_, Tryd.underlying34, trivial⟩
theorem ty34 : TyIs Tryd.prog 34 false 1 := .sc sc34
theorem sc35 : Sc Tryd.prog 35 := ⟨_, Tryd.underlying35, trivial⟩
theorem ty35 : TyIs Tryd.prog 35 false 1 := .sc sc35
theorem sc36 : Sc Tryd.prog 36 := ⟨_, Tryd.underlying36, trivial⟩
theorem ty36 : TyIs Tryd.prog 36 false 1 := .sc sc36
theorem sc37 : Sc Tryd.prog 37 := ⟨_, Tryd.underlying37, trivial⟩
theorem ty37 : TyIs Tryd.prog 37 false 1 := .sc sc37
theorem ty38 : TyIs Tryd.prog 38 false 1 := .sc sc38
theorem sc39 : Sc Tryd.prog 39 := ⟨_, Tryd.underlying39, trivial⟩
theorem ty39 : TyIs Tryd.prog 39 false 1 := .sc sc39
theorem ty40 : TyIs Tryd.prog 40 false 1 := .sc sc40
theorem sc42 : Sc Tryd.prog 42 := ⟨_, Tryd.underlying42, trivial⟩
theorem ty42 : TyIs Tryd.prog 42 false 1 := .sc sc42
theorem sc43 : Sc Tryd.prog 43 := ⟨_, Tryd.underlying43, trivial⟩
theorem ty43 : TyIs Tryd.prog 43 false 1 := .sc sc43
theorem sc45 : Sc Tryd.prog 45 := ⟨_, Tryd.underlying45, trivial⟩
theorem ty45 : TyIs Tryd.prog 45 false 1 := .sc sc45
theorem sc47 : Sc Tryd.prog 47 := ⟨_, Tryd.underlying47, trivial⟩
theorem ty47 : TyIs Tryd.prog 47 false 1 := .sc sc47
theorem sc48 : Sc Tryd.prog 48 := ⟨_, Tryd.underlying48, trivial⟩
theorem ty48 : TyIs Tryd.prog 48 false 1 := .sc sc48
theorem sc50 : Sc Tryd.prog 50 := ⟨_, Tryd.underlying50, trivial⟩
theorem ty50 : TyIs Tryd.prog 50 false 1 := .sc sc50
theorem sc52 : Sc Tryd.prog 52 := ⟨_, Tryd.underlying52, trivial⟩
theorem ty52 : TyIs Tryd.prog 52 false 1 := .sc sc52
theorem sc54 : Sc Tryd.prog 54 := ⟨_, Tryd.underlying54, trivial⟩
theorem ty54 : TyIs Tryd.prog 54 false 1 := .sc sc54
theorem sc55 : Sc Tryd.prog 55 := ⟨_, Tryd.underlying55, trivial⟩
theorem ty55 : TyIs Tryd.prog 55 false 1 := .sc sc55
theorem sc56 : Sc Tryd.prog 56 := ⟨_, Tryd.underlying56, trivial⟩
theorem ty56 : TyIs Tryd.prog 56 false 1 := .sc sc56
theorem sc57 : Sc Tryd.prog 57 := ⟨_, Tryd.underlying57, trivial⟩
theorem ty57 : TyIs Tryd.prog 57 false 1 := .sc sc57
theorem sc58 : Sc Tryd.prog 58 := ⟨_, Tryd.underlying58, trivial⟩
theorem ty58 : TyIs Tryd.prog 58 false 1 := .sc sc58
theorem sc59 : Sc Tryd.prog 59 := ⟨_, Tryd.underlying59, trivial⟩
theorem ty59 : TyIs Tryd.prog 59 false 1 := .sc sc59
theorem sc60 : Sc Tryd.prog 60 := ⟨_, Tryd.underlying60, trivial⟩
theorem ty60 : TyIs Tryd.prog 60 false 1 := .sc sc60
theorem sc62 : Sc Tryd.prog 62 := ⟨_, Tryd.underlying62, trivial⟩
theorem ty62 : TyIs Tryd.prog 62 false 1 := .sc sc62
theorem sc63 : Sc Tryd.prog 63 := ⟨_, Tryd.underlying63, trivial⟩
theorem ty63 : TyIs Tryd.prog 63 false 1 := .sc sc63
theorem sc64 : Sc Tryd.prog 64 := ⟨_, Tryd.underlying64, trivial⟩
theorem ty64 : TyIs Tryd.prog 64 false 1 := .sc sc64
theorem sc65 : Sc Tryd.prog 65 := ⟨_, Tryd.underlying65, trivial⟩
theorem ty65 : TyIs Tryd.prog 65 false 1 := .sc sc65
theorem sc66 : Sc Tryd.prog 66 := ⟨_, Tryd.underlying66, trivial⟩
theorem ty66 : TyIs Tryd.prog 66 false 1 := .sc sc66
theorem sc68 : Sc Tryd.prog 68 := ⟨_, Tryd.underlying68, trivial⟩
theorem ty68 : TyIs Tryd.prog 68 false 1 := .sc sc68
theorem sc70 : Sc Tryd.prog 70 := ⟨_, Tryd.underlying70, trivial⟩
theorem ty70 : TyIs Tryd.prog 70 false 1 := .sc sc70
theorem sc71 : Sc Tryd.prog 71 := ⟨_, Tryd.underlying71, trivial⟩
theorem ty71 : TyIs Tryd.prog 71 false 1 := .sc sc71
theorem sc73 : Sc Tryd.prog 73 := ⟨_, Tryd.underlying73, trivial⟩
theorem ty73 : TyIs Tryd.prog 73 false 1 := .sc sc73
theorem sc75 : Sc Tryd.prog 75 := ⟨_, Tryd.underlying75, trivial⟩
theorem ty75 : TyIs Tryd.prog 75 false 1 := .sc sc75
theorem sc76 : Sc Tryd.prog 76 := ⟨_, Tryd.underlying76, trivial⟩
theorem ty76 : TyIs Tryd.prog 76 false 1 := .sc sc76
theorem sc77 : Sc Tryd.prog 77 := ⟨_, Tryd.underlying77, trivial⟩
theorem ty77 : TyIs Tryd.prog 77 false 1 := .sc sc77
theorem ty78 : TyIs Tryd.prog 78 true 4 := .ag ag78 ti78
theorem ty79 : TyIs Tryd.prog 79 true 4 := .ag ag79 ti79
theorem sc80 : Sc Tryd.prog 80 := ⟨_, Tryd.underlying80, trivial⟩
theorem ty80 : TyIs Tryd.prog 80 false 1 := .sc sc80
theorem sc81 : Sc Tryd.prog 81 := ⟨_, Tryd.underlying81, trivial⟩
theorem ty81 : TyIs Tryd.prog 81 false 1 := .sc sc81
theorem sc82 : Sc Tryd.prog 82 := ⟨_, Tryd.underlying82, trivial⟩
theorem ty82 : TyIs Tryd.prog 82 false 1 := .sc sc82
theorem sc83 : Sc Tryd.prog 83 := ⟨_, Tryd.underlying83, trivial⟩
theorem ty83 : TyIs Tryd.prog 83 false 1 := .sc sc83
theorem sc84 : Sc Tryd.prog 84 := ⟨_, Tryd.underlying84, trivial⟩
theorem ty84 : TyIs Tryd.prog 84 false 1 := .sc sc84
theorem sc85 : Sc Tryd.prog 85 := ⟨_, Tryd.underlying85, trivial⟩
theorem ty85 : TyIs Tryd.prog 85 false 1 := .sc sc85
theorem sc86 : Sc Tryd.prog 86 := ⟨_, Tryd.underlying86, trivial⟩
theorem ty86 : TyIs Tryd.prog 86 false 1 := .sc sc86
theorem sc87 : Sc Tryd.prog 87 := ⟨_, Tryd.underlying87, trivial⟩
theorem ty87 : TyIs Tryd.prog 87 false 1 := .sc sc87
theorem sc89 : Sc Tryd.prog 89 := ⟨_, Tryd.underlying89, trivial⟩
theorem ty89 : TyIs Tryd.prog 89 false 1 := .sc sc89
theorem sc90 : Sc Tryd.prog 90 := ⟨_, Tryd.underlying90, trivial⟩
theorem ty90 : TyIs Tryd.prog 90 false 1 := .sc sc90
theorem sc91 : Sc Tryd.prog 91 := ⟨_, Tryd.underlying91, trivial⟩
theorem ty91 : TyIs Tryd.prog 91 false 1 := .sc sc91
theorem sc92 : Sc Tryd.prog 92 := ⟨_, Tryd.underlying92, trivial⟩
theorem ty92 : TyIs Tryd.prog 92 false 1 := .sc sc92
theorem sc94 : Sc Tryd.prog 94 := ⟨_, Tryd.underlying94, trivial⟩
theorem ty94 : TyIs Tryd.prog 94 false 1 := .sc sc94
theorem sc95 : Sc Tryd.prog 95 := ⟨_, Tryd.underlying95, trivial⟩
theorem ty95 : TyIs Tryd.prog 95 false 1 := .sc sc95
theorem sc96 : Sc Tryd.prog 96 := ⟨_, Tryd.underlying96, trivial⟩
theorem ty96 : TyIs Tryd.prog 96 false 1 := .sc sc96
theorem sc97 : Sc Tryd.prog 97 := ⟨_, Tryd.underlying97, trivial⟩
theorem ty97 : TyIs Tryd.prog 97 false 1 := .sc sc97
theorem ty98 : TyIs Tryd.prog 98 true 64 := .ag ag98 ti98
theorem sc99 : Sc Tryd.prog 99 := ⟨_, Tryd.underlying99, trivial⟩
theorem ty99 : TyIs Tryd.prog 99 false 1 := .sc sc99
theorem sc100 : Sc Tryd.prog 100 := ⟨_, Tryd.underlying100, trivial⟩
theorem ty100 : TyIs Tryd.prog 100 false 1 := .sc sc100
theorem ty101 : TyIs Tryd.prog 101 true 4 := .ag ag101 ti101
theorem ty102 : TyIs Tryd.prog 102 true 4 := .ag ag102 ti102
theorem ty103 : TyIs Tryd.prog 103 true 0 := .ag ag103 ti103
theorem ty104 : TyIs Tryd.prog 104 true 0 := .ag ag104 ti104
theorem ty105 : TyIs Tryd.prog 105 true 0 := .ag ag105 ti105
theorem sc106 : Sc Tryd.prog 106 := ⟨_, Tryd.underlying106, trivial⟩
theorem ty106 : TyIs Tryd.prog 106 false 1 := .sc sc106
theorem ty107 : TyIs Tryd.prog 107 false 1 := .sc sc107
theorem ty108 : TyIs Tryd.prog 108 false 1 := .sc sc108
theorem ty109 : TyIs Tryd.prog 109 false 1 := .sc sc109
theorem sc110 : Sc Tryd.prog 110 := ⟨_, Tryd.underlying110, trivial⟩
theorem ty110 : TyIs Tryd.prog 110 false 1 := .sc sc110
theorem ty111 : TyIs Tryd.prog 111 false 1 := .sc sc111
theorem ty112 : TyIs Tryd.prog 112 false 1 := .sc sc112
theorem ty113 : TyIs Tryd.prog 113 false 1 := .sc sc113
theorem ty114 : TyIs Tryd.prog 114 true 11 := .ag ag114 ti114
theorem ty115 : TyIs Tryd.prog 115 true 11 := .ag ag115 ti115
def gtab1 : Vector UInt8 64 := #v[0, 1, 56, 2, 57, 49, 28, 3, 61, 58, 42, 50, 38, 29, 17, 4, 62, 47, 59, 36, 45, 43, 51, 22, 53, 39, 33, 30, 24, 18, 12, 5, 63, 55, 48, 27, 60, 41, 37, 16, 46, 35, 44, 21, 52, 32, 23, 11, 54, 26, 40, 15, 34, 20, 31, 10, 25, 14, 19, 9, 13, 8, 7, 6]
end Go.Proofs.YtklfgpdfongaeaaDoor
