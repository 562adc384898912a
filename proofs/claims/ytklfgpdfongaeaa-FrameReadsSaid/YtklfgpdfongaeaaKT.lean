/- The data types of this translation. -/
import Derived.Test.YtklfgpdfongaeaaKA
import Derived.Test.YtklfgpdfongaeaaTypes
namespace Go.Proofs.Ytklfgpdfongaeaa
open Go Go.RowKit
set_option linter.unusedSimpArgs false
set_option linter.unusedVariables false
structure api_Value where
  Kind : UInt8
  Num : Int
  Bits : UInt64
  Text : List UInt8
  deriving DecidableEq, Inhabited
def R_api_Value : Rep api_Value := viaR (fun x => (x.Kind, x.Num, x.Bits, x.Text, ())) (prodR u8R (prodR i64R (prodR u64R (prodR strR unitR))))
theorem pt_api_Value_Kind (x : api_Value) : Part R_api_Value x 0 u8R x.Kind (fun y => { x with Kind := y }) := (Part.fst).via (fun _ => rfl)
theorem pt_api_Value_Num (x : api_Value) : Part R_api_Value x 1 i64R x.Num (fun y => { x with Num := y }) := (Part.snd Part.fst).via (fun _ => rfl)
theorem pt_api_Value_Bits (x : api_Value) : Part R_api_Value x 2 u64R x.Bits (fun y => { x with Bits := y }) := (Part.snd (Part.snd Part.fst)).via (fun _ => rfl)
theorem pt_api_Value_Text (x : api_Value) : Part R_api_Value x 3 strR x.Text (fun y => { x with Text := y }) := (Part.snd (Part.snd (Part.snd Part.fst))).via (fun _ => rfl)
structure api_Session where
  State : UInt8
  Faults : Int
  Frames : Int
  Ops : Int
  deriving DecidableEq, Inhabited
def R_api_Session : Rep api_Session := viaR (fun x => (x.State, x.Faults, x.Frames, x.Ops, ())) (prodR u8R (prodR i64R (prodR i64R (prodR i64R unitR))))
theorem pt_api_Session_State (x : api_Session) : Part R_api_Session x 0 u8R x.State (fun y => { x with State := y }) := (Part.fst).via (fun _ => rfl)
theorem pt_api_Session_Faults (x : api_Session) : Part R_api_Session x 1 i64R x.Faults (fun y => { x with Faults := y }) := (Part.snd Part.fst).via (fun _ => rfl)
theorem pt_api_Session_Frames (x : api_Session) : Part R_api_Session x 2 i64R x.Frames (fun y => { x with Frames := y }) := (Part.snd (Part.snd Part.fst)).via (fun _ => rfl)
theorem pt_api_Session_Ops (x : api_Session) : Part R_api_Session x 3 i64R x.Ops (fun y => { x with Ops := y }) := (Part.snd (Part.snd (Part.snd Part.fst))).via (fun _ => rfl)
structure api_Frame where
  Kind : UInt8
  N : UInt64
  IDs : List (Vector UInt8 32)
  Ops : List (List UInt8)
  deriving DecidableEq, Inhabited
def R_api_Frame : Rep api_Frame := viaR (fun x => (x.Kind, x.N, x.IDs, x.Ops, ())) (prodR u8R (prodR u64R (prodR (sliceR (arrR 32 u8R)) (prodR (sliceR (sliceR u8R)) unitR))))
theorem pt_api_Frame_Kind (x : api_Frame) : Part R_api_Frame x 0 u8R x.Kind (fun y => { x with Kind := y }) := (Part.fst).via (fun _ => rfl)
theorem pt_api_Frame_N (x : api_Frame) : Part R_api_Frame x 1 u64R x.N (fun y => { x with N := y }) := (Part.snd Part.fst).via (fun _ => rfl)
theorem pt_api_Frame_IDs (x : api_Frame) : Part R_api_Frame x 2 (sliceR (arrR 32 u8R)) x.IDs (fun y => { x with IDs := y }) := (Part.snd (Part.snd Part.fst)).via (fun _ => rfl)
theorem pt_api_Frame_Ops (x : api_Frame) : Part R_api_Frame x 3 (sliceR (sliceR u8R)) x.Ops (fun y => { x with Ops := y }) := (Part.snd (Part.snd (Part.snd Part.fst))).via (fun _ => rfl)
structure api_Doing where
  Kind : UInt8
  Frame : api_Frame
  deriving DecidableEq, Inhabited
def R_api_Doing : Rep api_Doing := viaR (fun x => (x.Kind, x.Frame, ())) (prodR u8R (prodR R_api_Frame unitR))
theorem pt_api_Doing_Kind (x : api_Doing) : Part R_api_Doing x 0 u8R x.Kind (fun y => { x with Kind := y }) := (Part.fst).via (fun _ => rfl)
theorem pt_api_Doing_Frame (x : api_Doing) : Part R_api_Doing x 1 R_api_Frame x.Frame (fun y => { x with Frame := y }) := (Part.snd Part.fst).via (fun _ => rfl)
structure api_Meet where
  A : Int
  B : Int
  deriving DecidableEq, Inhabited
def R_api_Meet : Rep api_Meet := viaR (fun x => (x.A, x.B, ())) (prodR i64R (prodR i64R unitR))
theorem pt_api_Meet_A (x : api_Meet) : Part R_api_Meet x 0 i64R x.A (fun y => { x with A := y }) := (Part.fst).via (fun _ => rfl)
theorem pt_api_Meet_B (x : api_Meet) : Part R_api_Meet x 1 i64R x.B (fun y => { x with B := y }) := (Part.snd Part.fst).via (fun _ => rfl)
structure session_rule where
  state : UInt8
  kind : UInt8
  next : UInt8
  do_ : UInt8
  deriving DecidableEq, Inhabited
def R_session_rule : Rep session_rule := viaR (fun x => (x.state, x.kind, x.next, x.do_, ())) (prodR u8R (prodR u8R (prodR u8R (prodR u8R unitR))))
theorem pt_session_rule_state (x : session_rule) : Part R_session_rule x 0 u8R x.state (fun y => { x with state := y }) := (Part.fst).via (fun _ => rfl)
theorem pt_session_rule_kind (x : session_rule) : Part R_session_rule x 1 u8R x.kind (fun y => { x with kind := y }) := (Part.snd Part.fst).via (fun _ => rfl)
theorem pt_session_rule_next (x : session_rule) : Part R_session_rule x 2 u8R x.next (fun y => { x with next := y }) := (Part.snd (Part.snd Part.fst)).via (fun _ => rfl)
theorem pt_session_rule_do_ (x : session_rule) : Part R_session_rule x 3 u8R x.do_ (fun y => { x with do_ := y }) := (Part.snd (Part.snd (Part.snd Part.fst))).via (fun _ => rfl)
theorem zr101 : Zr (arrR 32 u8R) (Value.cells (.agg #[.int .u8 (0), .int .u8 (0), .int .u8 (0), .int .u8 (0), .int .u8 (0), .int .u8 (0), .int .u8 (0), .int .u8 (0), .int .u8 (0), .int .u8 (0), .int .u8 (0), .int .u8 (0), .int .u8 (0), .int .u8 (0), .int .u8 (0), .int .u8 (0), .int .u8 (0), .int .u8 (0), .int .u8 (0), .int .u8 (0), .int .u8 (0), .int .u8 (0), .int .u8 (0), .int .u8 (0), .int .u8 (0), .int .u8 (0), .int .u8 (0), .int .u8 (0), .int .u8 (0), .int .u8 (0), .int .u8 (0), .int .u8 (0)])).toList (Vector.replicate 32 0) := Zr.arr (c := (Value.cells (.int .u8 (0))).toList) (Zr.num rfl) rfl
theorem zr143 : Zr (arrR 5 u64R) (Value.cells (.agg #[.int .u64 (0), .int .u64 (0), .int .u64 (0), .int .u64 (0), .int .u64 (0)])).toList (Vector.replicate 5 0) := Zr.arr (c := (Value.cells (.int .u64 (0))).toList) (Zr.num rfl) rfl
theorem zr148 : Zr (arrR 5 boolR) (Value.cells (.agg #[.bool false, .bool false, .bool false, .bool false, .bool false])).toList (Vector.replicate 5 false) := Zr.arr (c := (Value.cells (.bool false)).toList) Zr.bool rfl
theorem zr149 : Zr (arrR 5 (arrR 5 boolR)) (Value.cells (.agg #[.bool false, .bool false, .bool false, .bool false, .bool false, .bool false, .bool false, .bool false, .bool false, .bool false, .bool false, .bool false, .bool false, .bool false, .bool false, .bool false, .bool false, .bool false, .bool false, .bool false, .bool false, .bool false, .bool false, .bool false, .bool false])).toList (Vector.replicate 5 (Vector.replicate 5 false)) := Zr.arr (c := (Value.cells (.agg #[.bool false, .bool false, .bool false, .bool false, .bool false])).toList) zr148 rfl
theorem zr48 : Zr R_api_Value (Value.cells (.agg #[.int .u8 (0), .int .i64 (0), .int .u64 (0), .string ByteArray.empty])).toList (⟨0, 0, 0, []⟩ : api_Value) := Zr.via (Zr.prod (Zr.num rfl) (Zr.prod (Zr.num rfl) (Zr.prod (Zr.num rfl) (Zr.prod Zr.str Zr.unit rfl) rfl) rfl) rfl)
theorem zr66 : Zr R_api_Session (Value.cells (.agg #[.int .u8 (0), .int .i64 (0), .int .i64 (0), .int .i64 (0)])).toList (⟨0, 0, 0, 0⟩ : api_Session) := Zr.via (Zr.prod (Zr.num rfl) (Zr.prod (Zr.num rfl) (Zr.prod (Zr.num rfl) (Zr.prod (Zr.num rfl) Zr.unit rfl) rfl) rfl) rfl)
theorem zr105 : Zr R_api_Frame (Value.cells (.agg #[.int .u8 (0), .int .u64 (0), .slice none 0 0, .slice none 0 0])).toList (⟨0, 0, [], []⟩ : api_Frame) := Zr.via (Zr.prod (Zr.num rfl) (Zr.prod (Zr.num rfl) (Zr.prod Zr.slice (Zr.prod Zr.slice Zr.unit rfl) rfl) rfl) rfl)
theorem zr136 : Zr R_api_Doing (Value.cells (.agg #[.int .u8 (0), .int .u8 (0), .int .u64 (0), .slice none 0 0, .slice none 0 0])).toList (⟨0, (⟨0, 0, [], []⟩ : api_Frame)⟩ : api_Doing) := Zr.via (Zr.prod (Zr.num rfl) (Zr.prod zr105 Zr.unit rfl) rfl)
theorem zr145 : Zr R_api_Meet (Value.cells (.agg #[.int .i64 (0), .int .i64 (0)])).toList (⟨0, 0⟩ : api_Meet) := Zr.via (Zr.prod (Zr.num rfl) (Zr.prod (Zr.num rfl) Zr.unit rfl) rfl)
theorem zr161 : Zr R_session_rule (Value.cells (.agg #[.int .u8 (0), .int .u8 (0), .int .u8 (0), .int .u8 (0)])).toList (⟨0, 0, 0, 0⟩ : session_rule) := Zr.via (Zr.prod (Zr.num rfl) (Zr.prod (Zr.num rfl) (Zr.prod (Zr.num rfl) (Zr.prod (Zr.num rfl) Zr.unit rfl) rfl) rfl) rfl)
theorem sc1 : Sc Try.prog 1 := ⟨_, Try.underlying1, trivial⟩
theorem ty1 : TyIs Try.prog 1 false 1 := .sc sc1
theorem ty2 : TyIs Try.prog 2 false 1 := .sc sc2
theorem ty3 : TyIs Try.prog 3 false 1 := .sc sc3
theorem ty4 : TyIs Try.prog 4 false 1 := .sc sc4
theorem ty5 : TyIs Try.prog 5 false 1 := .sc sc5
theorem ty6 : TyIs Try.prog 6 false 1 := .sc sc6
theorem ty7 : TyIs Try.prog 7 true 4 := .ag ag7 ti7
theorem ty8 : TyIs Try.prog 8 true 4 := .ag ag8 ti8
theorem ty9 : TyIs Try.prog 9 false 1 := .sc sc9
theorem ty10 : TyIs Try.prog 10 false 1 := .sc sc10
theorem ty11 : TyIs Try.prog 11 false 1 := .sc sc11
theorem ty12 : TyIs Try.prog 12 false 1 := .sc sc12
theorem ty13 : TyIs Try.prog 13 true 2 := .ag ag13 ti13
theorem ty14 : TyIs Try.prog 14 true 2 := .ag ag14 ti14
theorem ty15 : TyIs Try.prog 15 false 1 := .sc sc15
theorem ty16 : TyIs Try.prog 16 false 1 := .sc sc16
theorem ty17 : TyIs Try.prog 17 false 1 := .sc sc17
theorem ty18 : TyIs Try.prog 18 true 1 := .ag ag18 ti18
theorem ty19 : TyIs Try.prog 19 true 1 := .ag ag19 ti19
theorem ty21 : TyIs Try.prog 21 false 1 := .sc sc21
theorem ty22 : TyIs Try.prog 22 false 1 := .sc sc22
theorem ty23 : TyIs Try.prog 23 false 1 := .sc sc23
theorem ty24 : TyIs Try.prog 24 false 1 := .sc sc24
theorem sc26 : Sc Try.prog 26 := ⟨_, Try.underlying26, trivial⟩
theorem ty26 : TyIs Try.prog 26 false 1 := .sc sc26
theorem sc28 : Sc Try.prog 28 := ⟨_, Try.underlying28, trivial⟩
theorem ty28 : TyIs Try.prog 28 false 1 := .sc sc28
theorem sc29 : Sc Try.prog 29 := ⟨_, Try.underlying29, trivial⟩
theorem ty29 : TyIs Try.prog 29 false 1 := .sc sc29
theorem sc30 : Sc Try.prog 30 := ⟨_, Try.underlying30, trivial⟩
theorem ty30 : TyIs Try.prog 30 false 1 := .sc sc30
theorem ty31 : TyIs Try.prog 31 false 1 := .sc sc31
theorem ty32 : TyIs Try.prog 32 false 1 := .sc sc32
theorem sc34 : Sc Try.prog 34 := ⟨_, Try.underlying34, trivial⟩
theorem ty34 : TyIs Try.prog 34 false 1 := .sc sc34
theorem sc36 : Sc Try.prog 36 := ⟨_, Try.underlying36, trivial⟩
theorem ty36 : TyIs Try.prog 36 false 1 := .sc sc36
theorem sc38 : Sc Try.prog 38 := ⟨_, Try.underlying38, trivial⟩
theorem ty38 : TyIs Try.prog 38 false 1 := .sc sc38
theorem sc40 : Sc Try.prog 40 := ⟨_, Try.underlying40, trivial⟩
theorem ty40 : TyIs Try.prog 40 false 1 := .sc sc40
theorem sc41 : Sc Try.prog 41 := ⟨_, Try.underlying41, trivial⟩
theorem ty41 : TyIs Try.prog 41 false 1 := .sc sc41
theorem sc42 : Sc Try.prog 42 := ⟨_, Try.underlying42, trivial⟩
theorem ty42 : TyIs Try.prog 42 false 1 := .sc sc42
theorem sc43 : Sc Try.prog 43 := ⟨_, Try.underlying43, trivial⟩
theorem ty43 : TyIs Try.prog 43 false 1 := .sc sc43
theorem sc44 : Sc Try.prog 44 := ⟨_, Try.underlying44, trivial⟩
theorem ty44 : TyIs Try.prog 44 false 1 := .sc sc44
theorem sc45 : Sc Try.prog 45 := ⟨_, Try.underlying45, trivial⟩
theorem ty45 : TyIs Try.prog 45 false 1 := .sc sc45
theorem sc46 : Sc Try.prog 46 := ⟨_, Try.underlying46, trivial⟩
theorem ty46 : TyIs Try.prog 46 false 1 := .sc sc46
theorem ty47 : TyIs Try.prog 47 true 4 := .ag ag47 ti47
theorem ty48 : TyIs Try.prog 48 true 4 := .ag ag48 ti48
theorem sc50 : Sc Try.prog 50 := ⟨_, Try.underlying50, trivial⟩
theorem ty50 : TyIs Try.prog 50 false 1 := .sc sc50
theorem sc52 : Sc Try.prog 52 := ⟨_, Try.underlying52, trivial⟩
theorem ty52 : TyIs Try.prog 52 false 1 := .sc sc52
theorem sc53 : Sc Try.prog 53 := ⟨_, Try.underlying53, trivial⟩
theorem ty53 : TyIs Try.prog 53 false 1 := .sc sc53
theorem sc54 : Sc Try.prog 54 := ⟨_, Try.underlying54, trivial⟩
theorem ty54 : TyIs Try.prog 54 false 1 := .sc sc54
theorem sc55 : Sc Try.prog 55 := ⟨_, Try.underlying55, trivial⟩
theorem ty55 : TyIs Try.prog 55 false 1 := .sc sc55
theorem sc56 : Sc Try.prog 56 := ⟨_, Try.underlying56, trivial⟩
theorem ty56 : TyIs Try.prog 56 false 1 := .sc sc56
theorem sc57 : Sc Try.prog 57 := ⟨_, Try.underlying57, trivial⟩
theorem ty57 : TyIs Try.prog 57 false 1 := .sc sc57
theorem sc58 : Sc Try.prog 58 := ⟨_, Try.underlying58, trivial⟩
theorem ty58 : TyIs Try.prog 58 false 1 := .sc sc58
theorem sc59 : Sc Try.prog 59 := ⟨_, Try.underlying59, trivial⟩
theorem ty59 : TyIs Try.prog 59 false 1 := .sc sc59
theorem sc61 : Sc Try.prog 61 := ⟨_, Try.underlying61, trivial⟩
theorem ty61 : TyIs Try.prog 61 false 1 := .sc sc61
theorem sc63 : Sc Try.prog 63 := ⟨_, Try.underlying63, trivial⟩
theorem ty63 : TyIs Try.prog 63 false 1 := .sc sc63
theorem sc64 : Sc Try.prog 64 := ⟨_, Try.underlying64, trivial⟩
theorem ty64 : TyIs Try.prog 64 false 1 := .sc sc64
theorem ty65 : TyIs Try.prog 65 true 4 := .ag ag65 ti65
theorem ty66 : TyIs Try.prog 66 true 4 := .ag ag66 ti66
theorem ty67 : TyIs Try.prog 67 false 1 := .sc sc67
theorem sc69 : Sc Try.prog 69 := ⟨_, Try.underlying69, trivial⟩
theorem ty69 : TyIs Try.prog 69 false 1 := .sc sc69
theorem sc71 : Sc Try.prog 71 := ⟨_, Try.underlying71, trivial⟩
theorem ty71 : TyIs Try.prog 71 false 1 := .sc sc71
theorem sc72 : Sc Try.prog 72 := ⟨_, Try.underlying72, trivial⟩
theorem ty72 : TyIs Try.prog 72 false 1 := .sc sc72
theorem sc73 : Sc Try.prog 73 := ⟨_, Try.underlying73, trivial⟩
theorem ty73 : TyIs Try.prog 73 false 1 := .sc sc73
theorem sc74 : Sc Try.prog 74 := ⟨_, Try.underlying74, trivial⟩
theorem ty74 : TyIs Try.prog 74 false 1 := .sc sc74
theorem sc75 : Sc Try.prog 75 := ⟨_, Try.underlying75, trivial⟩
theorem ty75 : TyIs Try.prog 75 false 1 := .sc sc75
theorem sc77 : Sc Try.prog 77 := ⟨_, Try.underlying77, trivial⟩
theorem ty77 : TyIs Try.prog 77 false 1 := .sc sc77
theorem sc79 : Sc Try.prog 79 := ⟨_, Try.underlying79, trivial⟩
theorem ty79 : TyIs Try.prog 79 false 1 := .sc sc79
theorem sc80 : Sc Try.prog 80 := ⟨_, Try.underlying80, trivial⟩
theorem ty80 : TyIs Try.prog 80 false 1 := .sc sc80
theorem sc81 : Sc Try.prog 81 := ⟨_, Try.underlying81, trivial⟩
theorem ty81 : TyIs Try.prog 81 false 1 := .sc sc81
theorem sc82 : Sc Try.prog 82 := ⟨_, Try.underlying82, trivial⟩
theorem ty82 : TyIs Try.prog 82 false 1 := .sc sc82
theorem ty83 : TyIs Try.prog 83 false 1 := .sc sc83
theorem sc84 : Sc Try.prog 84 := ⟨_, Try.underlying84, trivial⟩
theorem ty84 : TyIs Try.prog 84 false 1 := .sc sc84
theorem sc85 : Sc Try.prog 85 := ⟨_, Try.underlying85, trivial⟩
theorem ty85 : TyIs Try.prog 85 false 1 := .sc sc85
theorem sc87 : Sc Try.prog 87 := ⟨_, Try.underlying87, trivial⟩
theorem ty87 : TyIs Try.prog 87 false 1 := .sc sc87
theorem sc88 : Sc Try.prog 88 := ⟨_, Try.underlying88, trivial⟩
theorem ty88 : TyIs Try.prog 88 false 1 := .sc sc88
theorem sc89 : Sc Try.prog 89 := ⟨_, Try.underlying89, trivial⟩
theorem ty89 : TyIs Try.prog 89 false 1 := .sc sc89
theorem sc91 : Sc Try.prog 91 := ⟨_, Try.underlying91, trivial⟩
theorem ty91 : TyIs Try.prog 91 false 1 := .sc sc91
theorem sc93 : Sc Try.prog 93 := ⟨_, Try.underlying93, trivial⟩
theorem ty93 : TyIs Try.prog 93 false 1 := .sc sc93
theorem sc94 : Sc Try.prog 94 := ⟨_, Try.underlying94, trivial⟩
theorem ty94 : TyIs Try.prog 94 false 1 := .sc sc94
theorem sc96 : Sc Try.prog 96 := ⟨_, Try.underlying96, trivial⟩
theorem ty96 : TyIs Try.prog 96 false 1 := .sc sc96
theorem sc97 : Sc Try.prog 97 := ⟨_, Try.underlying97, trivial⟩
theorem ty97 : TyIs Try.prog 97 false 1 := .sc sc97
theorem sc98 : Sc Try.prog 98 := ⟨_, Try.underlying98, trivial⟩
theorem ty98 : TyIs Try.prog 98 false 1 := .sc sc98
theorem sc99 : Sc Try.prog 99 := ⟨_, Try.underlying99, trivial⟩
theorem ty99 : TyIs Try.prog 99 false 1 := .sc sc99
theorem sc100 : Sc Try.prog 100 := ⟨_, Try.underlying100, trivial⟩
theorem ty100 : TyIs Try.prog 100 false 1 := .sc sc100
theorem ty101 : TyIs Try.prog 101 true 32 := .ag ag101 ti101
theorem ty102 : TyIs Try.prog 102 true 32 := .ag ag102 ti102
theorem ty103 : TyIs Try.prog 103 false 1 := .sc sc103
theorem ty104 : TyIs Try.prog 104 true 4 := .ag ag104 ti104
theorem ty105 : TyIs Try.prog 105 true 4 := .ag ag105 ti105
theorem sc106 : Sc Try.prog 106 := ⟨_, Try.underlying106, trivial⟩
theorem ty106 : TyIs Try.prog 106 false 1 := .sc sc106
theorem sc107 : Sc Try.prog 107 := ⟨_, Try.underlying107, trivial⟩
theorem ty107 : TyIs Try.prog 107 false 1 := .sc sc107
theorem sc108 : Sc Try.prog 108 := ⟨_, Try.underlying108, trivial⟩
theorem ty108 : TyIs Try.prog 108 false 1 := .sc sc108
theorem sc109 : Sc Try.prog 109 := ⟨_, Try.underlying109, trivial⟩
theorem ty109 : TyIs Try.prog 109 false 1 := .sc sc109
theorem ty110 : TyIs Try.prog 110 false 1 := .sc sc110
theorem sc112 : Sc Try.prog 112 := ⟨_, Try.underlying112, trivial⟩
theorem ty112 : TyIs Try.prog 112 false 1 := .sc sc112
theorem sc114 : Sc Try.prog 114 := ⟨_, Try.underlying114, trivial⟩
theorem ty114 : TyIs Try.prog 114 false 1 := .sc sc114
theorem sc115 : Sc Try.prog 115 := ⟨_, Try.underlying115, trivial⟩
theorem ty115 : TyIs Try.prog 115 false 1 := .sc sc115
theorem sc116 : Sc Try.prog 116 := ⟨_, Try.underlying116, trivial⟩
theorem ty116 : TyIs Try.prog 116 false 1 := .sc sc116
theorem sc117 : Sc Try.prog 117 := ⟨_, Try.underlying117, trivial⟩
theorem ty117 : TyIs Try.prog 117 false 1 := .sc sc117
theorem sc118 : Sc Try.prog 118 := ⟨_, Try.underlying118, trivial⟩
theorem ty118 : TyIs Try.prog 118 false 1 := .sc sc118
theorem sc120 : Sc Try.prog 120 := ⟨_, Try.underlying120, trivial⟩
theorem ty120 : TyIs Try.prog 120 false 1 := .sc sc120
theorem sc122 : Sc Try.prog 122 := ⟨_, Try.underlying122, trivial⟩
theorem ty122 : TyIs Try.prog 122 false 1 := .sc sc122
theorem sc123 : Sc Try.prog 123 := ⟨_, Try.underlying123, trivial⟩
theorem ty123 : TyIs Try.prog 123 false 1 := .sc sc123
theorem sc124 : Sc Try.prog 124 := ⟨_, Try.underlying124, trivial⟩
theorem ty124 : TyIs Try.prog 124 false 1 := .sc sc124
theorem sc125 : Sc Try.prog 125 := ⟨_, Try.underlying125, trivial⟩
theorem ty125 : TyIs Try.prog 125 false 1 := .sc sc125
theorem sc126 : Sc Try.prog 126 := ⟨_, Try.underlying126, trivial⟩
theorem ty126 : TyIs Try.prog 126 false 1 := .sc sc126
theorem sc127 : Sc Try.prog 127 := ⟨_, Try.underlying127, trivial⟩
theorem ty127 : TyIs Try.prog 127 false 1 := .sc sc127
theorem sc128 : Sc Try.prog 128 := ⟨_, Try.underlying128, trivial⟩
theorem ty128 : TyIs Try.prog 128 false 1 := .sc sc128
theorem sc129 : Sc Try.prog 129 := ⟨_, Try.underlying129, trivial⟩
theorem ty129 : TyIs Try.prog 129 false 1 := .sc sc129
theorem sc130 : Sc Try.prog 130 := ⟨_, Try.underlying130, trivial⟩
theorem ty130 : TyIs Try.prog 130 false 1 := .sc sc130
theorem sc131 : Sc Try.prog 131 := ⟨_, Try.underlying131, trivial⟩
theorem ty131 : TyIs Try.prog 131 false 1 := .sc sc131
theorem sc132 : Sc Try.prog 132 := ⟨_, Try.underlying132, trivial⟩
theorem ty132 : TyIs Try.prog 132 false 1 := .sc sc132
theorem ty133 : TyIs Try.prog 133 false 1 := .sc sc133
theorem sc134 : Sc Try.prog 134 := ⟨_, Try.underlying134, trivial⟩
theorem ty134 : TyIs Try.prog 134 false 1 := .sc sc134
theorem ty135 : TyIs Try.prog 135 true 5 := .ag ag135 ti135
theorem ty136 : TyIs Try.prog 136 true 5 := .ag ag136 ti136
theorem sc137 : Sc Try.prog 137 := ⟨_, Try.underlying137, trivial⟩
theorem ty137 : TyIs Try.prog 137 false 1 := .sc sc137
theorem sc138 : Sc Try.prog 138 := ⟨_, Try.underlying138, trivial⟩
theorem ty138 : TyIs Try.prog 138 false 1 := .sc sc138
theorem sc139 : Sc Try.prog 139 := ⟨_, Try.underlying139, trivial⟩
theorem ty139 : TyIs Try.prog 139 false 1 := .sc sc139
theorem sc140 : Sc Try.prog 140 := ⟨_, Try.underlying140, trivial⟩
theorem ty140 : TyIs Try.prog 140 false 1 := .sc sc140
theorem sc141 : Sc Try.prog 141 := ⟨_, Try.underlying141, trivial⟩
theorem ty141 : TyIs Try.prog 141 false 1 := .sc sc141
theorem ty142 : TyIs Try.prog 142 false 1 := .sc sc142
theorem ty143 : TyIs Try.prog 143 true 5 := .ag ag143 ti143
theorem ty144 : TyIs Try.prog 144 true 2 := .ag ag144 ti144
theorem ty145 : TyIs Try.prog 145 true 2 := .ag ag145 ti145
theorem sc146 : Sc Try.prog 146 := ⟨_, Try.underlying146, trivial⟩
theorem ty146 : TyIs Try.prog 146 false 1 := .sc sc146
theorem ty147 : TyIs Try.prog 147 false 1 := .sc sc147
theorem ty148 : TyIs Try.prog 148 true 5 := .ag ag148 ti148
theorem ty149 : TyIs Try.prog 149 true 25 := .ag ag149 ti149
theorem sc150 : Sc Try.prog 150 := ⟨_, Try.underlying150, trivial⟩
theorem ty150 : TyIs Try.prog 150 false 1 := .sc sc150
theorem sc151 : Sc Try.prog 151 := ⟨_, Try.underlying151, trivial⟩
theorem ty151 : TyIs Try.prog 151 false 1 := .sc sc151
theorem sc152 : Sc Try.prog 152 := ⟨_, Try.underlying152, trivial⟩
theorem ty152 : TyIs Try.prog 152 false 1 := .sc sc152
theorem sc153 : Sc Try.prog 153 := ⟨_, Try.underlying153, trivial⟩
theorem ty153 : TyIs Try.prog 153 false 1 := .sc sc153
theorem sc155 : Sc Try.prog 155 := ⟨_, Try.underlying155, trivial⟩
theorem ty155 : TyIs Try.prog 155 false 1 := .sc sc155
theorem sc156 : Sc Try.prog 156 := ⟨_, Try.underlying156, trivial⟩
theorem ty156 : TyIs Try.prog 156 false 1 := .sc sc156
theorem sc157 : Sc Try.prog 157 := ⟨_, Try.underlying157, trivial⟩
theorem ty157 : TyIs Try.prog 157 false 1 := .sc sc157
theorem sc158 : Sc Try.prog 158 := ⟨_, Try.underlying158, trivial⟩
theorem ty158 : TyIs Try.prog 158 false 1 := .sc sc158
theorem sc159 : Sc Try.prog 159 := ⟨_, Try.underlying159, trivial⟩
theorem ty159 : TyIs Try.prog 159 false 1 := .sc sc159
theorem ty160 : TyIs Try.prog 160 true 4 := .ag ag160 ti160
theorem ty161 : TyIs Try.prog 161 true 4 := .ag ag161 ti161
theorem sc163 : Sc Try.prog 163 := ⟨_, Try.underlying163, trivial⟩
theorem ty163 : TyIs Try.prog 163 false 1 := .sc sc163
theorem sc165 : Sc Try.prog 165 := ⟨_, Try.underlying165, trivial⟩
theorem ty165 : TyIs Try.prog 165 false 1 := .sc sc165
theorem sc166 : Sc Try.prog 166 := ⟨_, Try.underlying166, trivial⟩
theorem ty166 : TyIs Try.prog 166 false 1 := .sc sc166
theorem sc167 : Sc Try.prog 167 := ⟨_, Try.underlying167, trivial⟩
theorem ty167 : TyIs Try.prog 167 false 1 := .sc sc167
theorem sc169 : Sc Try.prog 169 := ⟨_, Try.underlying169, trivial⟩
theorem ty169 : TyIs Try.prog 169 false 1 := .sc sc169
theorem sc170 : Sc Try.prog 170 := ⟨_, Try.underlying170, trivial⟩
theorem ty170 : TyIs Try.prog 170 false 1 := .sc sc170
theorem sc171 : Sc Try.prog 171 := ⟨_, Try.underlying171, trivial⟩
theorem ty171 : TyIs Try.prog 171 false 1 := .sc sc171
theorem sc172 : Sc Try.prog 172 := ⟨_, Try.underlying172, trivial⟩
theorem ty172 : TyIs Try.prog 172 false 1 := .sc sc172
theorem sc173 : Sc Try.prog 173 := ⟨_, Try.underlying173, trivial⟩
theorem ty173 : TyIs Try.prog 173 false 1 := .sc sc173
theorem sc174 : Sc Try.prog 174 := ⟨_, Try.underlying174, trivial⟩
theorem ty174 : TyIs Try.prog 174 false 1 := .sc sc174
theorem sc175 : Sc Try.prog 175 := ⟨_, Try.underlying175, trivial⟩
theorem ty175 : TyIs Try.prog 175 false 1 := .sc sc175
theorem sc177 : Sc Try.prog 177 := ⟨_, Try.underlying177, trivial⟩
theorem ty177 : TyIs Try.prog 177 false 1 := .sc sc177
theorem sc178 : Sc Try.prog 178 := ⟨_, Try.underlying178, trivial⟩
theorem ty178 : TyIs Try.prog 178 false 1 := .sc sc178
theorem sc179 : Sc Try.prog 179 := ⟨_, Try.underlying179, trivial⟩
theorem ty179 : TyIs Try.prog 179 false 1 := .sc sc179
theorem ty180 : TyIs Try.prog 180 false 1 := .sc sc180
theorem sc181 : Sc Try.prog 181 := ⟨_, Try.underlying181, trivial⟩
theorem ty181 : TyIs Try.prog 181 false 1 := .sc sc181
theorem sc182 : Sc Try.prog 182 := ⟨_, Try.underlying182, trivial⟩
theorem ty182 : TyIs Try.prog 182 false 1 := .sc sc182
theorem sc183 : Sc Try.prog 183 := ⟨_, Try.underlying183, trivial⟩
theorem ty183 : TyIs Try.prog 183 false 1 := .sc sc183
theorem sc184 : Sc Try.prog 184 := ⟨_, Try.underlying184, trivial⟩
theorem ty184 : TyIs Try.prog 184 false 1 := .sc sc184
theorem sc185 : Sc Try.prog 185 := ⟨_, Try.underlying185, trivial⟩
theorem ty185 : TyIs Try.prog 185 false 1 := .sc sc185
theorem sc186 : Sc Try.prog 186 := ⟨_, Try.underlying186, trivial⟩
theorem ty186 : TyIs Try.prog 186 false 1 := .sc sc186
theorem sc187 : Sc Try.prog 187 := ⟨_, Try.underlying187, trivial⟩
theorem ty187 : TyIs Try.prog 187 false 1 := .sc sc187
theorem sc188 : Sc Try.prog 188 := ⟨_, Try.underlying188, trivial⟩
theorem ty188 : TyIs Try.prog 188 false 1 := .sc sc188
theorem sc189 : Sc Try.prog 189 := ⟨_, Try.underlying189, trivial⟩
theorem ty189 : TyIs Try.prog 189 false 1 := .sc sc189
theorem ty190 : TyIs Try.prog 190 true 4 := .ag ag190 ti190
theorem ty191 : TyIs Try.prog 191 true 4 := .ag ag191 ti191
theorem ty192 : TyIs Try.prog 192 true 0 := .ag ag192 ti192
theorem ty193 : TyIs Try.prog 193 true 0 := .ag ag193 ti193
theorem ty194 : TyIs Try.prog 194 true 0 := .ag ag194 ti194
theorem sc195 : Sc Try.prog 195 := ⟨_, Try.underlying195, trivial⟩
theorem ty195 : TyIs Try.prog 195 false 1 := .sc sc195
theorem ty196 : TyIs Try.prog 196 false 1 := .sc sc196
theorem ty197 : TyIs Try.prog 197 false 1 := .sc sc197
theorem ty198 : TyIs Try.prog 198 false 1 := .sc sc198
theorem sc199 : Sc Try.prog 199 := ⟨_, Try.underlying199, trivial⟩
theorem ty199 : TyIs Try.prog 199 false 1 := .sc sc199
theorem ty200 : TyIs Try.prog 200 false 1 := .sc sc200
theorem ty201 : TyIs Try.prog 201 false 1 := .sc sc201
theorem ty202 : TyIs Try.prog 202 false 1 := .sc sc202
theorem ty203 : TyIs Try.prog 203 true 11 := .ag ag203 ti203
theorem ty204 : TyIs Try.prog 204 true 11 := .ag ag204 ti204
end Go.Proofs.Ytklfgpdfongaeaa
