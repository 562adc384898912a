/- Functions and what the code of each does. -/
import Derived.Test.YtklfgpdfongaeaaDoorKQ
import Derived.Test.YtklfgpdfongaeaaDoorKJ
namespace Go.Proofs.YtklfgpdfongaeaaDoor
open Go Go.RowKit
set_option linter.unusedSimpArgs false
set_option linter.unusedVariables false

def braidref05_Exponent (a0 : UInt64) : Option (Int) :=
  some (w64 (((a0 % 9223372036854775808) / 4503599627370496).toNat : Int)) >>= fun y1 =>
  some y1
set_option maxRecDepth 100000 in
theorem braidref05_Exponent_ok (a0 : UInt64) : Spec Tryd.prog 74 [.rd u64R a0] [] (braidref05_Exponent a0) (fun r nv => ⟨[.rd i64R r], []⟩) := by
  refine spec 7 Tryd.func74 rfl rfl rfl fun H w => ?_
  refine gSeq <| gReg <| R rfl (asg rfl) <| gNil <| eThen <| gSeq <| gReg <| R rfl (mv rfl) <| R rfl (U.rem rfl rfl (by decide)) <| R rfl (U.quo rfl rfl (by decide)) <| R rfl (U.toI rfl Tryd.underlying22 Tryd.underlying3) <| R rfl (asg rfl) <| lName 2 rfl fun y1 => gNil <| eThen <| gRet <| eRet [] [] rfl (eE rfl <| eN) (rN)


def braidref05_Fraction (a0 : UInt64) : Option (UInt64) :=
  some (a0 % 4503599627370496) >>= fun y1 =>
  some y1
set_option maxRecDepth 100000 in
theorem braidref05_Fraction_ok (a0 : UInt64) : Spec Tryd.prog 75 [.rd u64R a0] [] (braidref05_Fraction a0) (fun r nv => ⟨[.rd u64R r], []⟩) := by
  refine spec 5 Tryd.func75 rfl rfl rfl fun H w => ?_
  refine gSeq <| gReg <| R rfl (asg rfl) <| gNil <| eThen <| gSeq <| gReg <| R rfl (mv rfl) <| R rfl (U.rem rfl rfl (by decide)) <| R rfl (asg rfl) <| lName 2 rfl fun y1 => gNil <| eThen <| gRet <| eRet [] [] rfl (eE rfl <| eN) (rN)


def braidref05_Class (a0 : UInt64) : Option (UInt8) :=
  braidref05_Exponent a0 >>= fun r1 =>
  braidref05_Fraction a0 >>= fun r3 =>
  orRet (if r1 == 0 then
    if r3 == 0 then
      some (.inl 1)
    else
      some (.inr ())
  else
    some (.inr ())) fun s5 =>
  if r1 == 0 then
    some 2
  else
    if decide (r1 < 2047) then
      some 3
    else
      if r3 == 0 then
        some 4
      else
        some 5
set_option maxRecDepth 100000 in
theorem braidref05_Class_ok (a0 : UInt64) : Spec Tryd.prog 66 [.rd u64R a0] [] (braidref05_Class a0) (fun r nv => ⟨[.rd u8R r], []⟩) := by
  refine spec 21 Tryd.func66 rfl rfl rfl fun H w => ?_
  refine gSeq <| gReg <| R rfl (asg rfl) <| gNil <| eThen <| gSeq <| gReg <| R rfl (mv rfl) <| call [] [] rfl Tryd.func74 rfl rfl (braidref05_Exponent_ok _) (aQ rfl <| aN) rN fun r1 n2 => R rfl (mv rfl) <| call [] [] rfl Tryd.func75 rfl rfl (braidref05_Fraction_ok _) (aQ rfl <| aN) rN fun r3 n4 => R rfl (asg rfl) <| R rfl (asg rfl) <| gNil <| eThen <| gMidR (fun (s5 : Unit) aa ww => Sta (ctx 21 H [] w) [(3, .rd i64R r1), (4, .rd u64R r3)] [] aa ww) ?_ (fun s5 => ?_)
  · skip
    refine gSeq <| gReg <| R rfl (mv rfl) <| R rfl (I.eql rfl rfl) <| R rfl (mv rfl) <| lSplit 11 rfl (fun h6 => ?_) (fun h6 => ?_)
    · skip
      refine lKn 10 rfl h6 <| lRun (gd rfl rfl rfl rfl) rfl rfl (mv rfl) <| lRun (gd rfl rfl rfl rfl) rfl rfl (U.eql rfl rfl) <| R rfl (pkT rfl rfl) <| gNil <| eThen <| gIf rfl rfl (fun h7 => ?_) (fun h7 => ?_)
      · skip
        refine gKn 13 rfl h7 <| gSeq <| gReg <| R rfl (asg rfl) <| gNil <| eThen <| gRet <| eMret <| eRet [] [] rfl (eE rfl <| eN) (rN)
      · skip
        refine gKn 13 rfl h7 <| gSkip <| eMidR (fun aa ww h => h.sub [] (sS rfl <| sS rfl <| sN) (rN))
    · skip
      refine lKn 10 rfl h6 <| lSkip (gd rfl rfl rfl rfl) rfl rfl <| lSkip (gd rfl rfl rfl rfl) rfl rfl <| R rfl (pkF rfl rfl) <| gNil <| eThen <| gFalse rfl <| gSkip <| eMidR (fun aa ww h => h.sub [] (sS rfl <| sS rfl <| sN) (rN))
  · skip
    refine gSeq <| gSeq <| gReg <| R rfl (mv rfl) <| R rfl (I.eql rfl rfl) <| gNil <| eThen <| gIf rfl rfl (fun h8 => ?_) (fun h8 => ?_)
    · skip
      refine gSeq <| gReg <| R rfl (asg rfl) <| gNil <| eThen <| gRet <| eTret <| eRet [] [] rfl (eE rfl <| eN) (rN)
    · skip
      refine gSkip <| eThen <| gSeq <| gSeq <| gReg <| R rfl (mv rfl) <| R rfl (I.lss rfl rfl) <| gNil <| eThen <| gIf rfl rfl (fun h9 => ?_) (fun h9 => ?_)
      · skip
        refine gSeq <| gReg <| R rfl (asg rfl) <| gNil <| eThen <| gRet <| eTret <| eRet [] [] rfl (eE rfl <| eN) (rN)
      · skip
        refine gSkip <| eThen <| gSeq <| gSeq <| gReg <| R rfl (mv rfl) <| R rfl (U.eql rfl rfl) <| gNil <| eThen <| gIf rfl rfl (fun h10 => ?_) (fun h10 => ?_)
        · skip
          refine gSeq <| gReg <| R rfl (asg rfl) <| gNil <| eThen <| gRet <| eTret <| eRet [] [] rfl (eE rfl <| eN) (rN)
        · skip
          refine gSkip <| eThen <| gSeq <| gReg <| R rfl (asg rfl) <| gNil <| eThen <| gRet <| eRet [] [] rfl (eE rfl <| eN) (rN)


def braidref05_Canon (a0 : UInt64) : Option (UInt64) :=
  braidref05_Class a0 >>= fun r1 =>
  if r1 == 5 then
    some 9221120237041090560
  else
    some a0
set_option maxRecDepth 100000 in
theorem braidref05_Canon_ok (a0 : UInt64) : Spec Tryd.prog 42 [.rd u64R a0] [] (braidref05_Canon a0) (fun r nv => ⟨[.rd u64R r], []⟩) := by
  refine spec 7 Tryd.func42 rfl rfl rfl fun H w => ?_
  refine gSeq <| gReg <| R rfl (asg rfl) <| gNil <| eThen <| gSeq <| gSeq <| gReg <| R rfl (mv rfl) <| call [] [] rfl Tryd.func66 rfl rfl (braidref05_Class_ok _) (aQ rfl <| aN) rN fun r1 n2 => R rfl (B.eql rfl rfl) <| gNil <| eThen <| gIf rfl rfl (fun h3 => ?_) (fun h3 => ?_)
  · skip
    refine gSeq <| gReg <| R rfl (asg rfl) <| gNil <| eThen <| gRet <| eTret <| eRet [] [] rfl (eE rfl <| eN) (rN)
  · skip
    refine gSkip <| eThen <| gSeq <| gReg <| R rfl (mv rfl) <| R rfl (asg rfl) <| gNil <| eThen <| gRet <| eRet [] [] rfl (eE rfl <| eN) (rN)

def braidref05_Printable_L0 (a0 : List UInt8) (s2 : Int) : Option (Sum (Sum Bool Unit) Int) :=
  if decide (s2 < (a0.length : Int)) then
    idx a0 s2 >>= fun x4 =>
    if decide (x4 < 32) then
      some (.inl (.inl false))
    else
      idx a0 s2 >>= fun x7 =>
      if decide (126 < x7) then
        some (.inl (.inl false))
      else
        some (.inr (w64 (s2 + 1)))
  else
    some (.inl (.inr ()))
def braidref05_Printable (a0 : List UInt8) : Option (Bool) :=
  orRet (iter (braidref05_Printable_L0 a0) 0) fun s1 =>
  some true
set_option maxRecDepth 100000 in
theorem braidref05_Printable_ok (a0 : List UInt8) : Spec Tryd.prog 43 [.rd strR a0] [] (braidref05_Printable a0) (fun r nv => ⟨[.rd boolR r], []⟩) := by
  refine spec 20 Tryd.func43 rfl rfl rfl fun H w => ?_
  refine gSeq <| gReg <| R rfl (asg rfl) <| gNil <| eThen <| gMidR (fun (s1 : Unit) aa ww => Sta (ctx 20 H [] w) [] [] aa ww) ?_ (fun s1 => ?_)
  · skip
    refine gSeq <| gReg <| R rfl (asg rfl) <| gNil <| eThen <| gLoop (fun (s2 : Int) aa ww => Sta (ctx 20 H [] w) [(0, .rd strR a0), (3, .rd i64R s2)] [] aa ww) (fun aa ww h => h.sub [] (sS rfl <| sS rfl <| sN) (rN)) (fun s2 => ?_)
    refine gSeq <| gSeq <| gReg <| R rfl (mv rfl) <| R rfl (mv rfl) <| R rfl (lenT rfl rfl Tryd.underlying9) <| R rfl (I.lss rfl rfl) <| gNil <| eThen <| gIf rfl rfl (fun h3 => ?_) (fun h3 => ?_)
    · skip
      refine gSkip <| eThen <| gSeq <| gBlk <| gSeq <| gReg <| R rfl (mv rfl) <| R rfl (mv rfl) <| lBind fun x4 h5 => R rfl (idxT rfl rfl Tryd.underlying9 (idx_some h5).1 (idx_some h5).2.1) <| R rfl (B.lss rfl rfl) <| R rfl (mv rfl) <| lSplit 14 rfl (fun h6 => ?_) (fun h6 => ?_)
      · skip
        refine lKn 13 rfl h6 <| lSkip (gd rfl rfl rfl rfl) rfl rfl <| lSkip (gd rfl rfl rfl rfl) rfl rfl <| lSkip (gd rfl rfl rfl rfl) rfl rfl <| lSkip (gd rfl rfl rfl rfl) rfl rfl <| R rfl (pkT rfl rfl) <| gNil <| eThen <| gTrue rfl <| gSeq <| gReg <| R rfl (asg rfl) <| gNil <| eThen <| gRet <| eBret <| eTret <| eLret <| eMret <| eRet [] [] rfl (eE rfl <| eN) (rN)
      · skip
        refine lKn 13 rfl h6 <| lRun (gd rfl rfl rfl rfl) rfl rfl (mv rfl) <| lRun (gd rfl rfl rfl rfl) rfl rfl (mv rfl) <| lBind fun x7 h8 => lRun (gd rfl rfl rfl rfl) rfl rfl (idxT rfl rfl Tryd.underlying9 (idx_some h8).1 (idx_some h8).2.1) <| lRun (gd rfl rfl rfl rfl) rfl rfl (B.gtr rfl rfl) <| R rfl (pkF rfl rfl) <| gNil <| eThen <| gIf rfl rfl (fun h9 => ?_) (fun h9 => ?_)
        · skip
          refine gKn 18 rfl h9 <| gSeq <| gReg <| R rfl (asg rfl) <| gNil <| eThen <| gRet <| eBret <| eTret <| eLret <| eMret <| eRet [] [] rfl (eE rfl <| eN) (rN)
        · skip
          refine gKn 18 rfl h9 <| gSkip <| eBlk <| eThen <| gReg <| R rfl (mv rfl) <| R rfl (I.add rfl rfl) <| R rfl (asg rfl) <| gNil <| eNext (fun aa ww h => h.sub [] (sS rfl <| sS rfl <| sN) (rN))
    · skip
      refine gExit <| eTexit <| eLeave <| eMidR (fun aa ww h => h.sub [] (sN) (rN))
  · skip
    refine gSeq <| gReg <| R rfl (asg rfl) <| gNil <| eThen <| gRet <| eRet [] [] rfl (eE rfl <| eN) (rN)


def braidref05_Check (a0 : api_Value) : Option (Int) :=
  if a0.Kind == 1 then
    if a0.Bits == 0 then
      if a0.Text == [] then
        some 0
      else
        some 8
    else
      some 8
  else
    if a0.Kind == 2 then
      (if a0.Num == 0 then
        if a0.Text == [] then
          braidref05_Canon a0.Bits >>= fun r9 =>
          some (r9 == a0.Bits)
        else
          some false
      else
        some false) >>= fun s6 =>
      if s6 then
        some 0
      else
        some 8
    else
      if a0.Kind == 3 then
        (if a0.Num == 0 then
          if a0.Bits == 0 then
            if decide ((a0.Text.length : Int) ≤ 30) then
              braidref05_Printable a0.Text >>= fun r17 =>
              some r17
            else
              some false
          else
            some false
        else
          some false) >>= fun s13 =>
        if s13 then
          some 0
        else
          some 8
      else
        some 8
set_option maxRecDepth 100000 in
theorem braidref05_Check_ok (a0 : api_Value) : Spec Tryd.prog 26 [.rd R_api_Value a0] [] (braidref05_Check a0) (fun r nv => ⟨[.rd i64R r], []⟩) := by
  refine spec 54 Tryd.func26 rfl rfl rfl fun H w => ?_
  refine gSeq <| gReg <| Eb rfl (bx 1 rfl) fun v1 => R rfl (asg rfl) <| gNil <| eThen <| gSeq <| gSeq <| gReg <| R rfl (faB 1 rfl rfl Tryd.underlying24 rfl (by exact ti5)) <| R rfl (ld 1 rfl rfl ((Foc.here).part (pt_api_Value_Kind _)) ty5 rfl) <| gNil <| eThen <| gBlk <| gSeq <| gReg <| R rfl (B.eql rfl rfl) <| R rfl (asg rfl) <| gNil <| eThen <| gIf rfl rfl (fun h2 => ?_) (fun h2 => ?_)
  · skip
    refine gKn 6 rfl h2 <| gSeq <| gReg <| R rfl (faB 1 rfl rfl Tryd.underlying24 rfl (by exact ti22)) <| R rfl (ld 1 rfl rfl ((Foc.here).part (pt_api_Value_Bits _)) ty22 rfl) <| R rfl (U.eql rfl rfl) <| R rfl (mv rfl) <| lSplit 10 rfl (fun h3 => ?_) (fun h3 => ?_)
    · skip
      refine lKn 9 rfl h3 <| lRun (gd rfl rfl rfl rfl) rfl rfl (faB 1 rfl rfl Tryd.underlying24 rfl (by exact ti9)) <| lRun (gd rfl rfl rfl rfl) rfl rfl (ld 1 rfl rfl ((Foc.here).part (pt_api_Value_Text _)) ty9 rfl) <| lRun (gd rfl rfl rfl rfl) rfl rfl (eqS rfl rfl) <| R rfl (pkT rfl rfl) <| gNil <| eThen <| gIf rfl rfl (fun h4 => ?_) (fun h4 => ?_)
      · skip
        refine gKn 13 rfl h4 <| gSeq <| gReg <| R rfl (asg rfl) <| gNil <| eThen <| gRet <| eBret <| eTret <| eRet [] [] rfl (eE rfl <| eN) (rN)
      · skip
        refine gKn 13 rfl h4 <| gSkip <| eBlk <| eThen <| gSeq <| gReg <| R rfl (asg rfl) <| gNil <| eThen <| gRet <| eRet [] [] rfl (eE rfl <| eN) (rN)
    · skip
      refine lKn 9 rfl h3 <| lSkip (gd rfl rfl rfl rfl) rfl rfl <| lSkip (gd rfl rfl rfl rfl) rfl rfl <| lSkip (gd rfl rfl rfl rfl) rfl rfl <| R rfl (pkF rfl rfl) <| gNil <| eThen <| gFalse rfl <| gSkip <| eBlk <| eThen <| gSeq <| gReg <| R rfl (asg rfl) <| gNil <| eThen <| gRet <| eRet [] [] rfl (eE rfl <| eN) (rN)
  · skip
    refine gKn 6 rfl h2 <| gSeq <| gReg <| R rfl (B.eql rfl rfl) <| R rfl (asg rfl) <| gNil <| eThen <| gIf rfl rfl (fun h5 => ?_) (fun h5 => ?_)
    · skip
      refine gKn 16 rfl h5 <| gMid (fun (s6 : Bool) aa ww => Sta (ctx 54 H [] w) [(32, .rd boolR s6)] [] aa ww) ?_ (fun s6 => ?_)
      · skip
        refine gRegH [] mixed rfl rfl <| hTake 0 rfl (by kernel_rfl) (by kernel_rfl) (by kernel_rfl) (gd0 rfl) rfl rfl (faB 1 rfl rfl Tryd.underlying24 rfl (by exact ti2)) <| hTake 1 rfl (by kernel_rfl) (by kernel_rfl) (by kernel_rfl) (gd0 rfl) rfl rfl (ld 1 rfl rfl ((Foc.here).part (pt_api_Value_Num _)) ty2 rfl) <| hTake 2 rfl (by kernel_rfl) (by kernel_rfl) (by kernel_rfl) (gd0 rfl) rfl rfl (I.eql rfl rfl) <| hTake 3 rfl (by kernel_rfl) (by kernel_rfl) (by kernel_rfl) (gd0 rfl) rfl rfl (mv rfl) <| hIf 20 rfl rfl (fun h7 => ?_) (fun h7 => ?_)
        · skip
          refine hKn 19 rfl rfl h7 <| hTake 4 rfl (by kernel_rfl) (by kernel_rfl) (by kernel_rfl) (gd rfl rfl rfl rfl) rfl rfl (faB 1 rfl rfl Tryd.underlying24 rfl (by exact ti9)) <| hTake 5 rfl (by kernel_rfl) (by kernel_rfl) (by kernel_rfl) (gd rfl rfl rfl rfl) rfl rfl (ld 1 rfl rfl ((Foc.here).part (pt_api_Value_Text _)) ty9 rfl) <| hTake 6 rfl (by kernel_rfl) (by kernel_rfl) (by kernel_rfl) (gd rfl rfl rfl rfl) rfl rfl (eqS rfl rfl) <| hTake 7 rfl (by kernel_rfl) (by kernel_rfl) (by kernel_rfl) (gd0 rfl) rfl rfl (pkT rfl rfl) <| hTake 8 rfl (by kernel_rfl) (by kernel_rfl) (by kernel_rfl) (gd0 rfl) rfl rfl (mv rfl) <| hIf 25 rfl rfl (fun h8 => ?_) (fun h8 => ?_)
          · skip
            refine hKn 23 rfl rfl h8 <| hKn 24 rfl rfl h8 <| hTake 9 rfl (by kernel_rfl) (by kernel_rfl) (by kernel_rfl) (gd rfl rfl rfl rfl) rfl rfl (faB 1 rfl rfl Tryd.underlying24 rfl (by exact ti22)) <| hTake 10 rfl (by kernel_rfl) (by kernel_rfl) (by kernel_rfl) (gd rfl rfl rfl rfl) rfl rfl (ld 1 rfl rfl ((Foc.here).part (pt_api_Value_Bits _)) ty22 rfl) <| hTake 12 rfl (by kernel_rfl) (by kernel_rfl) (by kernel_rfl) (gd rfl rfl rfl rfl) rfl rfl (faB 1 rfl rfl Tryd.underlying24 rfl (by exact ti22)) <| hTake 13 rfl (by kernel_rfl) (by kernel_rfl) (by kernel_rfl) (gd rfl rfl rfl rfl) rfl rfl (ld 1 rfl rfl ((Foc.here).part (pt_api_Value_Bits _)) ty22 rfl) <| hCallF 11 [] [] rfl (by kernel_rfl) rfl (gd rfl rfl rfl rfl) rfl Tryd.func42 rfl rfl (braidref05_Canon_ok _) (aQ rfl <| aN) rN rfl (fun _ _ => flat_num) fun r9 n10 => hTake 14 rfl (by kernel_rfl) (by kernel_rfl) (by kernel_rfl) (gd rfl rfl rfl rfl) rfl rfl (U.eql rfl rfl) <| hTake 15 rfl (by kernel_rfl) (by kernel_rfl) (by kernel_rfl) (gd0 rfl) rfl rfl (pkT rfl rfl) <| hDone (by kernel_rfl) <| eMid (fun aa ww h => h.sub [] (sS rfl <| sN) (rN))
          · skip
            refine hKn 23 rfl rfl h8 <| hKn 24 rfl rfl h8 <| hSkip 9 rfl (by kernel_rfl) (by kernel_rfl) (by kernel_rfl) (gd rfl rfl rfl rfl) rfl rfl <| hSkip 10 rfl (by kernel_rfl) (by kernel_rfl) (by kernel_rfl) (gd rfl rfl rfl rfl) rfl rfl <| hSkip 11 rfl (by kernel_rfl) (by kernel_rfl) (by kernel_rfl) (gd rfl rfl rfl rfl) rfl rfl <| hSkip 12 rfl (by kernel_rfl) (by kernel_rfl) (by kernel_rfl) (gd rfl rfl rfl rfl) rfl rfl <| hSkip 13 rfl (by kernel_rfl) (by kernel_rfl) (by kernel_rfl) (gd rfl rfl rfl rfl) rfl rfl <| hSkip 14 rfl (by kernel_rfl) (by kernel_rfl) (by kernel_rfl) (gd rfl rfl rfl rfl) rfl rfl <| hTake 15 rfl (by kernel_rfl) (by kernel_rfl) (by kernel_rfl) (gd0 rfl) rfl rfl (pkF rfl rfl) <| hDone (by kernel_rfl) <| eMid (fun aa ww h => h.sub [] (sS rfl <| sN) (rN))
        · skip
          refine hKn 19 rfl rfl h7 <| hSkip 4 rfl (by kernel_rfl) (by kernel_rfl) (by kernel_rfl) (gd rfl rfl rfl rfl) rfl rfl <| hSkip 5 rfl (by kernel_rfl) (by kernel_rfl) (by kernel_rfl) (gd rfl rfl rfl rfl) rfl rfl <| hSkip 6 rfl (by kernel_rfl) (by kernel_rfl) (by kernel_rfl) (gd rfl rfl rfl rfl) rfl rfl <| hTake 7 rfl (by kernel_rfl) (by kernel_rfl) (by kernel_rfl) (gd0 rfl) rfl rfl (pkF rfl rfl) <| hTake 8 rfl (by kernel_rfl) (by kernel_rfl) (by kernel_rfl) (gd0 rfl) rfl rfl (mv rfl) <| hSkip 9 rfl (by kernel_rfl) (by kernel_rfl) (by kernel_rfl) (gd rfl rfl rfl rfl) rfl rfl <| hSkip 10 rfl (by kernel_rfl) (by kernel_rfl) (by kernel_rfl) (gd rfl rfl rfl rfl) rfl rfl <| hSkip 11 rfl (by kernel_rfl) (by kernel_rfl) (by kernel_rfl) (gd rfl rfl rfl rfl) rfl rfl <| hSkip 12 rfl (by kernel_rfl) (by kernel_rfl) (by kernel_rfl) (gd rfl rfl rfl rfl) rfl rfl <| hSkip 13 rfl (by kernel_rfl) (by kernel_rfl) (by kernel_rfl) (gd rfl rfl rfl rfl) rfl rfl <| hSkip 14 rfl (by kernel_rfl) (by kernel_rfl) (by kernel_rfl) (gd rfl rfl rfl rfl) rfl rfl <| hTake 15 rfl (by kernel_rfl) (by kernel_rfl) (by kernel_rfl) (gd0 rfl) rfl rfl (pkF rfl rfl) <| hDone (by kernel_rfl) <| eMid (fun aa ww h => h.sub [] (sS rfl <| sN) (rN))
      · skip
        refine gIf rfl rfl (fun h11 => ?_) (fun h11 => ?_)
        · skip
          refine gSeq <| gReg <| R rfl (asg rfl) <| gNil <| eThen <| gRet <| eBret <| eTret <| eRet [] [] rfl (eE rfl <| eN) (rN)
        · skip
          refine gSkip <| eBlk <| eThen <| gSeq <| gReg <| R rfl (asg rfl) <| gNil <| eThen <| gRet <| eRet [] [] rfl (eE rfl <| eN) (rN)
    · skip
      refine gKn 16 rfl h5 <| gSeq <| gReg <| R rfl (B.eql rfl rfl) <| R rfl (asg rfl) <| gNil <| eThen <| gIf rfl rfl (fun h12 => ?_) (fun h12 => ?_)
      · skip
        refine gKn 34 rfl h12 <| gMid (fun (s13 : Bool) aa ww => Sta (ctx 54 H [] w) [(53, .rd boolR s13)] [] aa ww) ?_ (fun s13 => ?_)
        · skip
          refine gReg <| R rfl (faB 1 rfl rfl Tryd.underlying24 rfl (by exact ti2)) <| R rfl (ld 1 rfl rfl ((Foc.here).part (pt_api_Value_Num _)) ty2 rfl) <| R rfl (I.eql rfl rfl) <| R rfl (mv rfl) <| lSplit 38 rfl (fun h14 => ?_) (fun h14 => ?_)
          · skip
            refine lKn 37 rfl h14 <| lRun (gd rfl rfl rfl rfl) rfl rfl (faB 1 rfl rfl Tryd.underlying24 rfl (by exact ti22)) <| lRun (gd rfl rfl rfl rfl) rfl rfl (ld 1 rfl rfl ((Foc.here).part (pt_api_Value_Bits _)) ty22 rfl) <| lRun (gd rfl rfl rfl rfl) rfl rfl (U.eql rfl rfl) <| R rfl (pkT rfl rfl) <| R rfl (mv rfl) <| lSplit 43 rfl (fun h15 => ?_) (fun h15 => ?_)
            · skip
              refine lKn 41 rfl h15 <| lKn 42 rfl h15 <| lRun (gd rfl rfl rfl rfl) rfl rfl (faB 1 rfl rfl Tryd.underlying24 rfl (by exact ti9)) <| lRun (gd rfl rfl rfl rfl) rfl rfl (ld 1 rfl rfl ((Foc.here).part (pt_api_Value_Text _)) ty9 rfl) <| lRun (gd rfl rfl rfl rfl) rfl rfl (lenT rfl rfl Tryd.underlying9) <| lRun (gd rfl rfl rfl rfl) rfl rfl (I.leq rfl rfl) <| R rfl (pkT rfl rfl) <| R rfl (mv rfl) <| lSplit 49 rfl (fun h16 => ?_) (fun h16 => ?_)
              · skip
                refine lKn 47 rfl h16 <| lKn 48 rfl h16 <| lRun (gd rfl rfl rfl rfl) rfl rfl (faB 1 rfl rfl Tryd.underlying24 rfl (by exact ti9)) <| lRun (gd rfl rfl rfl rfl) rfl rfl (ld 1 rfl rfl ((Foc.here).part (pt_api_Value_Text _)) ty9 rfl) <| callg [] [] (gd rfl rfl rfl rfl) rfl Tryd.func43 rfl rfl (braidref05_Printable_ok _) (aQ rfl <| aN) rN fun r17 n18 => R rfl (pkT rfl rfl) <| gNil <| eMid (fun aa ww h => h.sub [] (sS rfl <| sN) (rN))
              · skip
                refine lKn 47 rfl h16 <| lKn 48 rfl h16 <| lSkip (gd rfl rfl rfl rfl) rfl rfl <| lSkip (gd rfl rfl rfl rfl) rfl rfl <| lSkip (gd rfl rfl rfl rfl) rfl rfl <| R rfl (pkF rfl rfl) <| gNil <| eMid (fun aa ww h => h.sub [] (sS rfl <| sN) (rN))
            · skip
              refine lKn 41 rfl h15 <| lKn 42 rfl h15 <| lSkip (gd rfl rfl rfl rfl) rfl rfl <| lSkip (gd rfl rfl rfl rfl) rfl rfl <| lSkip (gd rfl rfl rfl rfl) rfl rfl <| lSkip (gd rfl rfl rfl rfl) rfl rfl <| R rfl (pkF rfl rfl) <| R rfl (mv rfl) <| lSkip (gd rfl rfl rfl rfl) rfl rfl <| lSkip (gd rfl rfl rfl rfl) rfl rfl <| lSkip (gd rfl rfl rfl rfl) rfl rfl <| R rfl (pkF rfl rfl) <| gNil <| eMid (fun aa ww h => h.sub [] (sS rfl <| sN) (rN))
          · skip
            refine lKn 37 rfl h14 <| lSkip (gd rfl rfl rfl rfl) rfl rfl <| lSkip (gd rfl rfl rfl rfl) rfl rfl <| lSkip (gd rfl rfl rfl rfl) rfl rfl <| R rfl (pkF rfl rfl) <| R rfl (mv rfl) <| lSkip (gd rfl rfl rfl rfl) rfl rfl <| lSkip (gd rfl rfl rfl rfl) rfl rfl <| lSkip (gd rfl rfl rfl rfl) rfl rfl <| lSkip (gd rfl rfl rfl rfl) rfl rfl <| R rfl (pkF rfl rfl) <| R rfl (mv rfl) <| lSkip (gd rfl rfl rfl rfl) rfl rfl <| lSkip (gd rfl rfl rfl rfl) rfl rfl <| lSkip (gd rfl rfl rfl rfl) rfl rfl <| R rfl (pkF rfl rfl) <| gNil <| eMid (fun aa ww h => h.sub [] (sS rfl <| sN) (rN))
        · skip
          refine gIf rfl rfl (fun h19 => ?_) (fun h19 => ?_)
          · skip
            refine gSeq <| gReg <| R rfl (asg rfl) <| gNil <| eThen <| gRet <| eBret <| eTret <| eRet [] [] rfl (eE rfl <| eN) (rN)
          · skip
            refine gSkip <| eBlk <| eThen <| gSeq <| gReg <| R rfl (asg rfl) <| gNil <| eThen <| gRet <| eRet [] [] rfl (eE rfl <| eN) (rN)
      · skip
        refine gKn 34 rfl h12 <| gSkip <| eBlk <| eThen <| gSeq <| gReg <| R rfl (asg rfl) <| gNil <| eThen <| gRet <| eRet [] [] rfl (eE rfl <| eN) (rN)


def braidlaw05_fit (a0 : api_Value) : Option (Bool) :=
  if decide ((a0.Text.length : Int) ≤ 100) then
    braidref05_Check a0 >>= fun r3 =>
    some (r3 == 0)
  else
    some false
set_option maxRecDepth 100000 in
theorem braidlaw05_fit_ok (a0 : api_Value) : Spec Tryd.prog 8 [.rd R_api_Value a0] [] (braidlaw05_fit a0) (fun r nv => ⟨[.rd boolR r], []⟩) := by
  refine spec 12 Tryd.func8 rfl rfl rfl fun H w => ?_
  refine gSeq <| gReg <| Eb rfl (bx 1 rfl) fun v1 => R rfl (asg rfl) <| gNil <| eThen <| gSeq <| gReg <| R rfl (faB 1 rfl rfl Tryd.underlying24 rfl (by exact ti9)) <| R rfl (ld 1 rfl rfl ((Foc.here).part (pt_api_Value_Text _)) ty9 rfl) <| R rfl (lenT rfl rfl Tryd.underlying9) <| R rfl (I.leq rfl rfl) <| R rfl (mv rfl) <| lSplit 7 rfl (fun h2 => ?_) (fun h2 => ?_)
  · skip
    refine lKn 6 rfl h2 <| lRun (gd rfl rfl rfl rfl) rfl rfl (ld 1 rfl rfl Foc.here ty24 rfl) <| callg [] [] (gd rfl rfl rfl rfl) rfl Tryd.func26 rfl rfl (braidref05_Check_ok _) (aQ rfl <| aN) rN fun r3 n4 => lRun (gd rfl rfl rfl rfl) rfl rfl (I.eql rfl rfl) <| R rfl (pkT rfl rfl) <| R rfl (asg rfl) <| gNil <| eThen <| gRet <| eRet [] [] rfl (eE rfl <| eN) (rN)
  · skip
    refine lKn 6 rfl h2 <| lSkip (gd rfl rfl rfl rfl) rfl rfl <| lSkip (gd rfl rfl rfl rfl) rfl rfl <| lSkip (gd rfl rfl rfl rfl) rfl rfl <| R rfl (pkF rfl rfl) <| R rfl (asg rfl) <| gNil <| eThen <| gRet <| eRet [] [] rfl (eE rfl <| eN) (rN)


def value_split (a0 : UInt64) : Option (Int × UInt64) :=
  some (andI (w64 ((shr64 a0 52).toNat : Int)) 2047) >>= fun y1 =>
  some (a0 &&& 4503599627370495) >>= fun y2 =>
  some (y1, y2)
set_option maxRecDepth 100000 in
theorem value_split_ok (a0 : UInt64) : Spec Tryd.prog 31 [.rd u64R a0] [] (value_split a0) (fun r nv => ⟨[.rd i64R r.1, .rd u64R r.2], []⟩) := by
  refine spec 10 Tryd.func31 rfl rfl rfl fun H w => ?_
  refine gSeq <| gReg <| R rfl (asg rfl) <| R rfl (asg rfl) <| gNil <| eThen <| gSeq <| gReg <| R rfl (mv rfl) <| R rfl (U.shr rfl rfl (Int.natCast_nonneg _)) <| R rfl (U.toI rfl Tryd.underlying22 Tryd.underlying3) <| R rfl (I.and rfl rfl) <| R rfl (mv rfl) <| R rfl (U.and rfl rfl) <| R rfl (asg rfl) <| lName 2 rfl fun y1 => R rfl (asg rfl) <| lName 3 rfl fun y2 => gNil <| eThen <| gRet <| eRet [] [] rfl (eE rfl <| eE rfl <| eN) (rN)


def value_Class (a0 : UInt64) : Option (UInt8) :=
  value_split a0 >>= fun r1 =>
  (if r1.1 == 2047 then
    some (r1.2 != 0)
  else
    some false) >>= fun s3 =>
  if s3 then
    some 5
  else
    if r1.1 == 2047 then
      some 4
    else
      if r1.1 != 0 then
        some 3
      else
        if r1.2 != 0 then
          some 2
        else
          some 1
set_option maxRecDepth 100000 in
theorem value_Class_ok (a0 : UInt64) : Spec Tryd.prog 12 [.rd u64R a0] [] (value_Class a0) (fun r nv => ⟨[.rd u8R r], []⟩) := by
  refine spec 26 Tryd.func12 rfl rfl rfl fun H w => ?_
  refine gSeq <| gReg <| R rfl (asg rfl) <| gNil <| eThen <| gSeq <| gReg <| R rfl (mv rfl) <| call [] [] rfl Tryd.func31 rfl rfl (value_split_ok _) (aQ rfl <| aN) rN fun r1 n2 => R rfl (mv rfl) <| R rfl (ext rfl rfl) <| R rfl (ext rfl rfl) <| R rfl (asg rfl) <| R rfl (asg rfl) <| gNil <| eThen <| gSeq <| gBlk <| gMid (fun (s3 : Bool) aa ww => Sta (ctx 26 H [] w) [(3, .rd i64R r1.1), (4, .rd u64R r1.2), (10, .rd boolR s3)] [] aa ww) ?_ (fun s3 => ?_)
  · skip
    refine gReg <| R rfl (mv rfl) <| R rfl (I.eql rfl rfl) <| R rfl (mv rfl) <| lSplit 13 rfl (fun h4 => ?_) (fun h4 => ?_)
    · skip
      refine lKn 12 rfl h4 <| lRun (gd rfl rfl rfl rfl) rfl rfl (mv rfl) <| lRun (gd rfl rfl rfl rfl) rfl rfl (U.neq rfl rfl) <| R rfl (pkT rfl rfl) <| R rfl (asg rfl) <| gNil <| eMid (fun aa ww h => h.sub [] (sS rfl <| sS rfl <| sS rfl <| sN) (rN))
    · skip
      refine lKn 12 rfl h4 <| lSkip (gd rfl rfl rfl rfl) rfl rfl <| lSkip (gd rfl rfl rfl rfl) rfl rfl <| R rfl (pkF rfl rfl) <| R rfl (asg rfl) <| gNil <| eMid (fun aa ww h => h.sub [] (sS rfl <| sS rfl <| sS rfl <| sN) (rN))
  · skip
    refine gIf rfl rfl (fun h5 => ?_) (fun h5 => ?_)
    · skip
      refine gSeq <| gReg <| R rfl (asg rfl) <| gNil <| eThen <| gRet <| eBret <| eTret <| eRet [] [] rfl (eE rfl <| eN) (rN)
    · skip
      refine gSeq <| gReg <| R rfl (mv rfl) <| R rfl (I.eql rfl rfl) <| R rfl (asg rfl) <| gNil <| eThen <| gIf rfl rfl (fun h6 => ?_) (fun h6 => ?_)
      · skip
        refine gKn 19 rfl h6 <| gSeq <| gReg <| R rfl (asg rfl) <| gNil <| eThen <| gRet <| eBret <| eTret <| eRet [] [] rfl (eE rfl <| eN) (rN)
      · skip
        refine gKn 19 rfl h6 <| gSeq <| gReg <| R rfl (mv rfl) <| R rfl (I.neq rfl rfl) <| R rfl (asg rfl) <| gNil <| eThen <| gIf rfl rfl (fun h7 => ?_) (fun h7 => ?_)
        · skip
          refine gKn 22 rfl h7 <| gSeq <| gReg <| R rfl (asg rfl) <| gNil <| eThen <| gRet <| eBret <| eTret <| eRet [] [] rfl (eE rfl <| eN) (rN)
        · skip
          refine gKn 22 rfl h7 <| gSeq <| gReg <| R rfl (mv rfl) <| R rfl (U.neq rfl rfl) <| R rfl (asg rfl) <| gNil <| eThen <| gIf rfl rfl (fun h8 => ?_) (fun h8 => ?_)
          · skip
            refine gKn 25 rfl h8 <| gSeq <| gReg <| R rfl (asg rfl) <| gNil <| eThen <| gRet <| eBret <| eTret <| eRet [] [] rfl (eE rfl <| eN) (rN)
          · skip
            refine gKn 25 rfl h8 <| gSkip <| eBlk <| eThen <| gSeq <| gReg <| R rfl (asg rfl) <| gNil <| eThen <| gRet <| eRet [] [] rfl (eE rfl <| eN) (rN)


def value_Canon (a0 : UInt64) : Option (UInt64) :=
  value_Class a0 >>= fun r1 =>
  if r1 == 5 then
    some 9221120237041090560
  else
    some a0
set_option maxRecDepth 100000 in
theorem value_Canon_ok (a0 : UInt64) : Spec Tryd.prog 15 [.rd u64R a0] [] (value_Canon a0) (fun r nv => ⟨[.rd u64R r], []⟩) := by
  refine spec 7 Tryd.func15 rfl rfl rfl fun H w => ?_
  refine gSeq <| gReg <| R rfl (asg rfl) <| gNil <| eThen <| gSeq <| gSeq <| gReg <| R rfl (mv rfl) <| call [] [] rfl Tryd.func12 rfl rfl (value_Class_ok _) (aQ rfl <| aN) rN fun r1 n2 => R rfl (B.eql rfl rfl) <| gNil <| eThen <| gIf rfl rfl (fun h3 => ?_) (fun h3 => ?_)
  · skip
    refine gSeq <| gReg <| R rfl (asg rfl) <| gNil <| eThen <| gRet <| eTret <| eRet [] [] rfl (eE rfl <| eN) (rN)
  · skip
    refine gSkip <| eThen <| gSeq <| gReg <| R rfl (mv rfl) <| R rfl (asg rfl) <| gNil <| eThen <| gRet <| eRet [] [] rfl (eE rfl <| eN) (rN)


def value_Float (a0 : UInt64) : Option (api_Value) :=
  value_Canon a0 >>= fun r2 =>
  some (⟨2, 0, r2, []⟩ : api_Value)
set_option maxRecDepth 100000 in
theorem value_Float_ok (a0 : UInt64) : Spec Tryd.prog 13 [.rd u64R a0] [] (value_Float a0) (fun r nv => ⟨[.rd R_api_Value r], []⟩) := by
  refine spec 6 Tryd.func13 rfl rfl rfl fun H w => ?_
  refine gSeq <| gReg <| Eb rfl (allc 1 ti24 (.zr zr24)) fun v1 => gNil <| eThen <| gSeq <| gReg <| R rfl (mv rfl) <| call [] [] rfl Tryd.func15 rfl rfl (value_Canon_ok _) (aQ rfl <| aN) rN fun r2 n3 => R rfl (bld (x' := (⟨2, 0, r2, []⟩ : api_Value)) [(0, 1), (1, 1), (2, 1), (3, 1)] Tryd.underlying24 ti24 rfl zr24 rfl (Bld.cons (pt_api_Value_Kind _) rfl rfl <| Bld.cons (pt_api_Value_Bits _) rfl rfl <| Bld.done rfl)) <| Es (sto 1 rfl rfl Foc.here rfl ti24) <| gNil <| eThen <| gRet <| eRet [] [] rfl (eC 1 rfl rfl ty24 <| eN) (rN)


def value_Number (a0 : Int) : Option (api_Value) :=
  some (⟨1, a0, 0, []⟩ : api_Value)
set_option maxRecDepth 100000 in
theorem value_Number_ok (a0 : Int) : Spec Tryd.prog 11 [.rd i64R a0] [] (value_Number a0) (fun r nv => ⟨[.rd R_api_Value r], []⟩) := by
  refine spec 5 Tryd.func11 rfl rfl rfl fun H w => ?_
  refine gSeq <| gReg <| Eb rfl (allc 1 ti24 (.zr zr24)) fun v1 => gNil <| eThen <| gSeq <| gReg <| R rfl (mv rfl) <| R rfl (bld (x' := (⟨1, a0, 0, []⟩ : api_Value)) [(0, 1), (1, 1), (2, 1), (3, 1)] Tryd.underlying24 ti24 rfl zr24 rfl (Bld.cons (pt_api_Value_Kind _) rfl rfl <| Bld.cons (pt_api_Value_Num _) rfl rfl <| Bld.done rfl)) <| Es (sto 1 rfl rfl Foc.here rfl ti24) <| gNil <| eThen <| gRet <| eRet [] [] rfl (eC 1 rfl rfl ty24 <| eN) (rN)


def value_Text_1 (a0 : Int) : Option (Bool) :=
  if decide (a0 < 32) then
    some true
  else
    some (decide (126 < a0)) >>= fun y2 =>
    some y2
set_option maxRecDepth 100000 in
theorem value_Text_1_ok (a0 : Int) : Spec Tryd.prog 35 [.rd i32R a0] [] (value_Text_1 a0) (fun r nv => ⟨[.rd boolR r], []⟩) := by
  refine spec 9 Tryd.func35 rfl rfl rfl fun H w => ?_
  refine gSeq <| gReg <| R rfl (asg rfl) <| gNil <| eThen <| gSeq <| gReg <| R rfl (mv rfl) <| R rfl (J.lss rfl rfl) <| R rfl (mv rfl) <| lSplit 5 rfl (fun h1 => ?_) (fun h1 => ?_)
  · skip
    refine lKn 4 rfl h1 <| lSkip (gd rfl rfl rfl rfl) rfl rfl <| lSkip (gd rfl rfl rfl rfl) rfl rfl <| R rfl (pkT rfl rfl) <| R rfl (asg rfl) <| gNil <| eThen <| gRet <| eRet [] [] rfl (eE rfl <| eN) (rN)
  · skip
    refine lKn 4 rfl h1 <| lRun (gd rfl rfl rfl rfl) rfl rfl (mv rfl) <| lRun (gd rfl rfl rfl rfl) rfl rfl (J.gtr rfl rfl) <| R rfl (pkF rfl rfl) <| R rfl (asg rfl) <| lName 2 rfl fun y2 => gNil <| eThen <| gRet <| eRet [] [] rfl (eE rfl <| eN) (rN)

def strings_indexFunc_value_Text_1_L0 (a0 : List UInt8) (a2 : Bool) (s3 : Nat) : Option (Sum (Sum Int Unit) Nat) :=
  if s3 < (a0).length then
    some ((runeAt a0 s3).1 : Int) >>= fun y5 =>
    value_Text_1 y5 >>= fun r6 =>
    if r6 == a2 then
      some (.inl (.inl (s3 : Int)))
    else
      some (.inr (s3 + (runeAt a0 s3).2))
  else
    some (.inl (.inr ()))
def strings_indexFunc_value_Text_1 (a0 : List UInt8) (a2 : Bool) : Option (Int) :=
  orRet (iter (strings_indexFunc_value_Text_1_L0 a0 a2) 0) fun s1 =>
  some (-1)
set_option maxRecDepth 100000 in
theorem strings_indexFunc_value_Text_1_ok (a0 : List UInt8) (a2 : Bool) : Spec Tryd.prog 53 [.rd strR a0, .val (.func (.func 35) #[] #[]), .rd boolR a2] [] (strings_indexFunc_value_Text_1 a0 a2) (fun r nv => ⟨[.rd i64R r], []⟩) := by
  refine spec 21 Tryd.func53 rfl rfl rfl fun H w => ?_
  refine gSeq <| gReg <| R rfl (asg rfl) <| gNil <| eThen <| gMidR (fun (s1 : Unit) aa ww => Sta (ctx 21 H [] w) [] [] aa ww) ?_ (fun s1 => ?_)
  · skip
    refine gSeq <| gReg <| R rfl (mv rfl) <| Ef rfl (rng 1 rfl Tryd.underlying9) fun v2 => gNil <| eThen <| gLoop (fun (s3 : Nat) aa ww => Sta (ctx 21 H [] w) [(1, .val (.func (.func 35) #[] #[])), (2, .rd boolR a2), (10, .val v2)] [(1, some (v2, .iter a0 s3))] aa ww) (fun aa ww h => h.sub [1] (sS rfl <| sS rfl <| sS rfl <| sN) (rR rfl rfl <| rN)) (fun s3 => ?_)
    refine gSeq <| gReg <| lNext 1 rfl rfl rfl (fun h4 => ?_) (fun h4 => ?_)
    · skip
      refine R rfl (ext rfl rfl) <| gNil <| eThen <| gSeq <| gTrue rfl <| gSkip <| eThen <| gBlk <| gSeq <| gReg <| R rfl (ext rfl rfl) <| R rfl (ext rfl rfl) <| R rfl (asg rfl) <| R rfl (asg rfl) <| lName 8 rfl fun y5 => gNil <| eThen <| gSeq <| gReg <| R rfl (mv rfl) <| R rfl (mv rfl) <| callv [] [] (gd0 rfl) rfl rfl Tryd.func35 rfl rfl (value_Text_1_ok _) (aQ rfl <| aN) (cN) rN fun r6 n7 => R rfl (mv rfl) <| R rfl (eqB Tryd.underlying4 rfl rfl) <| gNil <| eThen <| gIf rfl rfl (fun h8 => ?_) (fun h8 => ?_)
      · skip
        refine gSeq <| gReg <| R rfl (mv rfl) <| R rfl (asg rfl) <| gNil <| eThen <| gRet <| eBret <| eLret <| eMret <| eRet [] [] rfl (eE rfl <| eN) (rN)
      · skip
        refine gSkip <| eBlk <| eNext (fun aa ww h => h.sub [1] (sS rfl <| sS rfl <| sS rfl <| sN) (rR rfl rfl <| rN))
    · skip
      refine R rfl (ext rfl rfl) <| gNil <| eThen <| gSeq <| gFalse rfl <| gExit <| eTexit <| eLeave <| eMidR (fun aa ww h => h.sub [] (sN) (rN))
  · skip
    refine gSeq <| gReg <| R rfl (asg rfl) <| gNil <| eThen <| gRet <| eRet [] [] rfl (eE rfl <| eN) (rN)


def strings_IndexFunc_value_Text_1 (a0 : List UInt8) : Option (Int) :=
  strings_indexFunc_value_Text_1 a0 true >>= fun r1 =>
  some r1
set_option maxRecDepth 100000 in
theorem strings_IndexFunc_value_Text_1_ok (a0 : List UInt8) : Spec Tryd.prog 34 [.rd strR a0, .val (.func (.func 35) #[] #[])] [] (strings_IndexFunc_value_Text_1 a0) (fun r nv => ⟨[.rd i64R r], []⟩) := by
  refine spec 8 Tryd.func34 rfl rfl rfl fun H w => ?_
  refine gSeq <| gReg <| R rfl (asg rfl) <| gNil <| eThen <| gSeq <| gReg <| R rfl (mv rfl) <| R rfl (mv rfl) <| call [] [] rfl Tryd.func53 rfl rfl (strings_indexFunc_value_Text_1_ok _ _) (aQ rfl <| aQ rfl <| aQ rfl <| aN) rN fun r1 n2 => R rfl (asg rfl) <| gNil <| eThen <| gRet <| eRet [] [] rfl (eE rfl <| eN) (rN)


def value_Text (a0 : List UInt8) : Option (api_Value × Int) :=
  if decide (30 < (a0.length : Int)) then
    some ((⟨0, 0, 0, []⟩ : api_Value), 4)
  else
    strings_IndexFunc_value_Text_1 a0 >>= fun r3 =>
    if decide (0 ≤ r3) then
      some ((⟨0, 0, 0, []⟩ : api_Value), 8)
    else
      some ((⟨3, 0, 0, a0⟩ : api_Value), 0)
set_option maxRecDepth 100000 in
theorem value_Text_ok (a0 : List UInt8) : Spec Tryd.prog 19 [.rd strR a0] [] (value_Text a0) (fun r nv => ⟨[.rd R_api_Value r.1, .rd i64R r.2], []⟩) := by
  refine spec 14 Tryd.func19 rfl rfl rfl fun H w => ?_
  refine gSeq <| gReg <| Eb rfl (allc 1 ti24 (.zr zr24)) fun v1 => R rfl (asg rfl) <| gNil <| eThen <| gSeq <| gSeq <| gReg <| R rfl (mv rfl) <| R rfl (lenT rfl rfl Tryd.underlying9) <| R rfl (I.gtr rfl rfl) <| gNil <| eThen <| gIf rfl rfl (fun h2 => ?_) (fun h2 => ?_)
  · skip
    refine gSeq <| gReg <| R rfl (bld (x' := (⟨0, 0, 0, []⟩ : api_Value)) [(0, 1), (1, 1), (2, 1), (3, 1)] Tryd.underlying24 ti24 rfl zr24 rfl (Bld.done rfl)) <| Es (sto 1 rfl rfl Foc.here rfl ti24) <| R rfl (asg rfl) <| gNil <| eThen <| gRet <| eTret <| eRet [] [] rfl (eC 1 rfl rfl ty24 <| eE rfl <| eN) (rN)
  · skip
    refine gSkip <| eThen <| gSeq <| gSeq <| gReg <| R rfl (mv rfl) <| call [] [] rfl Tryd.func34 rfl rfl (strings_IndexFunc_value_Text_1_ok _) (aQ rfl <| aQ rfl <| aN) rN fun r3 n4 => R rfl (I.geq rfl rfl) <| gNil <| eThen <| gIf rfl rfl (fun h5 => ?_) (fun h5 => ?_)
    · skip
      refine gSeq <| gReg <| R rfl (bld (x' := (⟨0, 0, 0, []⟩ : api_Value)) [(0, 1), (1, 1), (2, 1), (3, 1)] Tryd.underlying24 ti24 rfl zr24 rfl (Bld.done rfl)) <| Es (sto 1 rfl rfl Foc.here rfl ti24) <| R rfl (asg rfl) <| gNil <| eThen <| gRet <| eTret <| eRet [] [] rfl (eC 1 rfl rfl ty24 <| eE rfl <| eN) (rN)
    · skip
      refine gSkip <| eThen <| gSeq <| gReg <| R rfl (mv rfl) <| R rfl (bld (x' := (⟨3, 0, 0, a0⟩ : api_Value)) [(0, 1), (1, 1), (2, 1), (3, 1)] Tryd.underlying24 ti24 rfl zr24 rfl (Bld.cons (pt_api_Value_Kind _) rfl rfl <| Bld.cons (pt_api_Value_Text _) rfl rfl <| Bld.done rfl)) <| Es (sto 1 rfl rfl Foc.here rfl ti24) <| R rfl (asg rfl) <| gNil <| eThen <| gRet <| eRet [] [] rfl (eC 1 rfl rfl ty24 <| eE rfl <| eN) (rN)


def value_Check (a0 : api_Value) : Option (Int) :=
  (if a0.Kind == 1 then
    value_Number a0.Num >>= fun r5 =>
    some r5
  else
    if a0.Kind == 2 then
      value_Float a0.Bits >>= fun r8 =>
      some r8
    else
      if a0.Kind == 3 then
        value_Text a0.Text >>= fun r11 =>
        some r11.1
      else
        some (⟨0, 0, 0, []⟩ : api_Value)) >>= fun s3 =>
  if !decide (a0 = s3) then
    some 8
  else
    if a0.Kind == 0 then
      some 8
    else
      some 0
set_option maxRecDepth 100000 in
theorem value_Check_ok (a0 : api_Value) : Spec Tryd.prog 18 [.rd R_api_Value a0] [] (value_Check a0) (fun r nv => ⟨[.rd i64R r], []⟩) := by
  refine spec 32 Tryd.func18 rfl rfl rfl fun H w => ?_
  refine gSeq <| gReg <| Eb rfl (bx 1 rfl) fun v1 => R rfl (asg rfl) <| gNil <| eThen <| gSeq <| gReg <| Eb rfl (allc 2 ti24 (.zr zr24)) fun v2 => gNil <| eThen <| gMid (fun (s3 : api_Value) aa ww => Sta (ctx 32 H [] w) [(1, .val (ptrTo v1 0)), (3, .val (ptrTo v2 0))] [(1, some (v1, .box 24 [.rd R_api_Value a0])), (2, some (v2, .box 24 [.rd R_api_Value s3]))] aa ww) ?_ (fun s3 => ?_)
  · skip
    refine gSeq <| gReg <| R rfl (faB 1 rfl rfl Tryd.underlying24 rfl (by exact ti5)) <| R rfl (ld 1 rfl rfl ((Foc.here).part (pt_api_Value_Kind _)) ty5 rfl) <| gNil <| eThen <| gBlk <| gSeq <| gReg <| R rfl (B.eql rfl rfl) <| R rfl (asg rfl) <| gNil <| eThen <| gIf rfl rfl (fun h4 => ?_) (fun h4 => ?_)
    · skip
      refine gKn 7 rfl h4 <| gReg <| R rfl (faB 1 rfl rfl Tryd.underlying24 rfl (by exact ti2)) <| R rfl (ld 1 rfl rfl ((Foc.here).part (pt_api_Value_Num _)) ty2 rfl) <| call [] [] rfl Tryd.func11 rfl rfl (value_Number_ok _) (aQ rfl <| aN) rN fun r5 n6 => Es (sto 2 rfl rfl Foc.here rfl ti24) <| gNil <| eBlk <| eMid (fun aa ww h => h.sub [1, 2] (sS rfl <| sS rfl <| sN) (rR rfl rfl <| rR rfl rfl <| rN))
    · skip
      refine gKn 7 rfl h4 <| gSeq <| gReg <| R rfl (B.eql rfl rfl) <| R rfl (asg rfl) <| gNil <| eThen <| gIf rfl rfl (fun h7 => ?_) (fun h7 => ?_)
      · skip
        refine gKn 12 rfl h7 <| gReg <| R rfl (faB 1 rfl rfl Tryd.underlying24 rfl (by exact ti22)) <| R rfl (ld 1 rfl rfl ((Foc.here).part (pt_api_Value_Bits _)) ty22 rfl) <| call [] [] rfl Tryd.func13 rfl rfl (value_Float_ok _) (aQ rfl <| aN) rN fun r8 n9 => Es (sto 2 rfl rfl Foc.here rfl ti24) <| gNil <| eBlk <| eMid (fun aa ww h => h.sub [1, 2] (sS rfl <| sS rfl <| sN) (rR rfl rfl <| rR rfl rfl <| rN))
      · skip
        refine gKn 12 rfl h7 <| gSeq <| gReg <| R rfl (B.eql rfl rfl) <| R rfl (asg rfl) <| gNil <| eThen <| gIf rfl rfl (fun h10 => ?_) (fun h10 => ?_)
        · skip
          refine gKn 17 rfl h10 <| gReg <| R rfl (faB 1 rfl rfl Tryd.underlying24 rfl (by exact ti9)) <| R rfl (ld 1 rfl rfl ((Foc.here).part (pt_api_Value_Text _)) ty9 rfl) <| call [] [] rfl Tryd.func19 rfl rfl (value_Text_ok _) (aQ rfl <| aN) rN fun r11 n12 => R rfl (mv rfl) <| R rfl (ext rfl rfl) <| R rfl (ext rfl rfl) <| Es (sto 2 rfl rfl Foc.here rfl ti24) <| gNil <| eBlk <| eMid (fun aa ww h => h.sub [1, 2] (sS rfl <| sS rfl <| sN) (rR rfl rfl <| rR rfl rfl <| rN))
        · skip
          refine gKn 17 rfl h10 <| gSkip <| eBlk <| eMid (fun aa ww h => h.sub [1, 2] (sS rfl <| sS rfl <| sN) (rR rfl rfl <| rR rfl rfl <| rN))
  · skip
    refine gSeq <| gSeq <| gReg <| R rfl (ld 1 rfl rfl Foc.here ty24 rfl) <| R rfl (ld 2 rfl rfl Foc.here ty24 rfl) <| R rfl (neA rfl rfl eq24 rfl rfl gq24) <| R rfl (mv rfl) <| lSplit 27 rfl (fun h13 => ?_) (fun h13 => ?_)
    · skip
      refine lKn 26 rfl h13 <| lSkip (gd rfl rfl rfl rfl) rfl rfl <| lSkip (gd rfl rfl rfl rfl) rfl rfl <| lSkip (gd rfl rfl rfl rfl) rfl rfl <| R rfl (pkT rfl rfl) <| gNil <| eThen <| gTrue rfl <| gSeq <| gReg <| R rfl (asg rfl) <| gNil <| eThen <| gRet <| eTret <| eRet [] [] rfl (eE rfl <| eN) (rN)
    · skip
      refine lKn 26 rfl h13 <| lRun (gd rfl rfl rfl rfl) rfl rfl (faB 1 rfl rfl Tryd.underlying24 rfl (by exact ti5)) <| lRun (gd rfl rfl rfl rfl) rfl rfl (ld 1 rfl rfl ((Foc.here).part (pt_api_Value_Kind _)) ty5 rfl) <| lRun (gd rfl rfl rfl rfl) rfl rfl (B.eql rfl rfl) <| R rfl (pkF rfl rfl) <| gNil <| eThen <| gIf rfl rfl (fun h14 => ?_) (fun h14 => ?_)
      · skip
        refine gKn 30 rfl h14 <| gSeq <| gReg <| R rfl (asg rfl) <| gNil <| eThen <| gRet <| eTret <| eRet [] [] rfl (eE rfl <| eN) (rN)
      · skip
        refine gKn 30 rfl h14 <| gSkip <| eThen <| gSeq <| gReg <| R rfl (asg rfl) <| gNil <| eThen <| gRet <| eRet [] [] rfl (eE rfl <| eN) (rN)


def math_bits_Len64 (a0 : UInt64) : Option (Int) :=
  (if decide (4294967296 ≤ a0) then
    some (shr64 a0 32, 32)
  else
    some (a0, 0)) >>= fun s1 =>
  (if decide (65536 ≤ s1.1) then
    some (shr64 s1.1 16) >>= fun y5 =>
    some (w64 (s1.2 + 16)) >>= fun y6 =>
    some (y5, y6)
  else
    some (s1.1, s1.2)) >>= fun s3 =>
  (if decide (256 ≤ s3.1) then
    some (w64 (s3.2 + 8)) >>= fun y9 =>
    some (shr64 s3.1 8, y9)
  else
    some (s3.1, s3.2)) >>= fun s7 =>
  idx ([0, 1, 2, 2, 3, 3, 3, 3, 4, 4, 4, 4, 4, 4, 4, 4, 5, 5, 5, 5, 5, 5, 5, 5, 5, 5, 5, 5, 5, 5, 5, 5, 6, 6, 6, 6, 6, 6, 6, 6, 6, 6, 6, 6, 6, 6, 6, 6, 6, 6, 6, 6, 6, 6, 6, 6, 6, 6, 6, 6, 6, 6, 6, 6, 7, 7, 7, 7, 7, 7, 7, 7, 7, 7, 7, 7, 7, 7, 7, 7, 7, 7, 7, 7, 7, 7, 7, 7, 7, 7, 7, 7, 7, 7, 7, 7, 7, 7, 7, 7, 7, 7, 7, 7, 7, 7, 7, 7, 7, 7, 7, 7, 7, 7, 7, 7, 7, 7, 7, 7, 7, 7, 7, 7, 7, 7, 7, 7, 8, 8, 8, 8, 8, 8, 8, 8, 8, 8, 8, 8, 8, 8, 8, 8, 8, 8, 8, 8, 8, 8, 8, 8, 8, 8, 8, 8, 8, 8, 8, 8, 8, 8, 8, 8, 8, 8, 8, 8, 8, 8, 8, 8, 8, 8, 8, 8, 8, 8, 8, 8, 8, 8, 8, 8, 8, 8, 8, 8, 8, 8, 8, 8, 8, 8, 8, 8, 8, 8, 8, 8, 8, 8, 8, 8, 8, 8, 8, 8, 8, 8, 8, 8, 8, 8, 8, 8, 8, 8, 8, 8, 8, 8, 8, 8, 8, 8, 8, 8, 8, 8, 8, 8, 8, 8, 8, 8, 8, 8, 8, 8, 8, 8, 8, 8, 8, 8, 8, 8, 8, 8, 8, 8, 8, 8, 8, 8] : List UInt8) (s7.1.toUInt8.toNat : Int) >>= fun x10 =>
  some (w64 (s7.2 + (x10.toNat : Int))) >>= fun y12 =>
  some y12
set_option maxRecDepth 100000 in
theorem math_bits_Len64_ok (a0 : UInt64) : Spec Tryd.prog 70 [.rd u64R a0] [] (math_bits_Len64 a0) (fun r nv => ⟨[.rd i64R r], []⟩) := by
  refine spec 25 Tryd.func70 rfl rfl rfl fun H w => ?_
  refine gSeq <| gReg <| R rfl (asg rfl) <| gNil <| eThen <| gMid (fun (s1 : UInt64 × Int) aa ww => Sta (ctx 25 H [] w) [(0, .rd u64R s1.1), (2, .rd i64R s1.2)] [] aa ww) ?_ (fun s1 => ?_)
  · skip
    refine gSeq <| gReg <| R rfl (mv rfl) <| R rfl (U.geq rfl rfl) <| gNil <| eThen <| gIf rfl rfl (fun h2 => ?_) (fun h2 => ?_)
    · skip
      refine gSeq <| gReg <| R rfl (mv rfl) <| R rfl (U.shr rfl rfl (Int.natCast_nonneg _)) <| R rfl (asg rfl) <| gNil <| eThen <| gReg <| R rfl (asg rfl) <| gNil <| eMid (fun aa ww h => h.sub [] (sS rfl <| sS rfl <| sN) (rN))
    · skip
      refine gSkip <| eMid (fun aa ww h => h.sub [] (sS rfl <| sS rfl <| sN) (rN))
  · skip
    refine gMid (fun (s3 : UInt64 × Int) aa ww => Sta (ctx 25 H [] w) [(0, .rd u64R s3.1), (2, .rd i64R s3.2)] [] aa ww) ?_ (fun s3 => ?_)
    · skip
      refine gSeq <| gReg <| R rfl (mv rfl) <| R rfl (U.geq rfl rfl) <| gNil <| eThen <| gIf rfl rfl (fun h4 => ?_) (fun h4 => ?_)
      · skip
        refine gSeq <| gReg <| R rfl (mv rfl) <| R rfl (U.shr rfl rfl (Int.natCast_nonneg _)) <| R rfl (asg rfl) <| lName 0 rfl fun y5 => gNil <| eThen <| gReg <| R rfl (mv rfl) <| R rfl (I.add rfl rfl) <| R rfl (asg rfl) <| lName 2 rfl fun y6 => gNil <| eMid (fun aa ww h => h.sub [] (sS rfl <| sS rfl <| sN) (rN))
      · skip
        refine gSkip <| eMid (fun aa ww h => h.sub [] (sS rfl <| sS rfl <| sN) (rN))
    · skip
      refine gMid (fun (s7 : UInt64 × Int) aa ww => Sta (ctx 25 H [] w) [(0, .rd u64R s7.1), (2, .rd i64R s7.2)] [] aa ww) ?_ (fun s7 => ?_)
      · skip
        refine gSeq <| gReg <| R rfl (mv rfl) <| R rfl (U.geq rfl rfl) <| gNil <| eThen <| gIf rfl rfl (fun h8 => ?_) (fun h8 => ?_)
        · skip
          refine gSeq <| gReg <| R rfl (mv rfl) <| R rfl (U.shr rfl rfl (Int.natCast_nonneg _)) <| R rfl (asg rfl) <| gNil <| eThen <| gReg <| R rfl (mv rfl) <| R rfl (I.add rfl rfl) <| R rfl (asg rfl) <| lName 2 rfl fun y9 => gNil <| eMid (fun aa ww h => h.sub [] (sS rfl <| sS rfl <| sN) (rN))
        · skip
          refine gSkip <| eMid (fun aa ww h => h.sub [] (sS rfl <| sS rfl <| sN) (rN))
      · skip
        refine gSeq <| gReg <| R rfl (mv rfl) <| R rfl (mv rfl) <| R rfl (U.toB rfl Tryd.underlying22 Tryd.underlying5) <| lBind fun x10 h11 => R rfl (idxT rfl rfl Tryd.underlying9 (idx_some h11).1 (idx_some h11).2.1) <| R rfl (B.toI rfl Tryd.underlying5 Tryd.underlying3) <| R rfl (I.add rfl rfl) <| R rfl (asg rfl) <| lName 2 rfl fun y12 => gNil <| eThen <| gRet <| eRet [] [] rfl (eE rfl <| eN) (rN)

def wire_Number_L0 (a0 : UInt64) (y5 : Int) (s12 : (List UInt8) × Int) : Option (Sum ((List UInt8)) ((List UInt8) × Int)) :=
  if decide (s12.2 < y5) then
    chk (0 ≤ w64 (8 * s12.2)) >>= fun u14 =>
    idx s12.1 (w64 (y5 - s12.2)) >>= fun x16 =>
    some (.inr (s12.1.set (w64 (y5 - s12.2) : Int).toNat ((shr64 a0 ((w64 (8 * s12.2) : Int).toNat)).toUInt8), w64 (s12.2 + 1)))
  else
    some (.inl s12.1)
def wire_Number (a0 : UInt64) : Option ((List UInt8)) :=
  if decide (a0 ≤ 247) then
    some [a0.toUInt8]
  else
    math_bits_Len64 a0 >>= fun r3 =>
    some (w64 (Int.tdiv (w64 (r3 + 7)) 8)) >>= fun y5 =>
    mkn 1 0 (w64 (y5 + 1)) >>= fun x6 =>
    idx x6 0 >>= fun x9 =>
    (iter (wire_Number_L0 a0 y5) (x6.set (0 : Int).toNat (UInt8.ofInt (w64 (247 + y5))), 0)) >>= fun s11 =>
    some s11
set_option maxRecDepth 100000 in
theorem wire_Number_ok (a0 : UInt64) : Spec Tryd.prog 52 [.rd u64R a0] [] (wire_Number a0) (fun r nv => ⟨[.val (nv 0)], [(100, some (nv 0, .list u8R 5 r))]⟩) := by
  refine spec 39 Tryd.func52 rfl rfl rfl fun H w => ?_
  refine gSeq <| gReg <| R rfl (asg rfl) <| gNil <| eThen <| gSeq <| gSeq <| gReg <| R rfl (mv rfl) <| R rfl (U.leq rfl rfl) <| gNil <| eThen <| gIf rfl rfl (fun h1 => ?_) (fun h1 => ?_)
  · skip
    refine gSeq <| gReg <| R rfl (mv rfl) <| R rfl (U.toB rfl Tryd.underlying22 Tryd.underlying5) <| Ef rfl (lit (R := u8R) ([a0.toUInt8] : List UInt8) 1 (pP rfl rfl <| pN) rfl Tryd.underlying40 ti5 rfl rfl) fun v2 => R rfl (asg rfl) <| gNil <| eThen <| gRet <| eTret <| eRet [v2] [1] rfl (eE rfl <| eN) (rR rfl rfl <| rN)
  · skip
    refine gSkip <| eThen <| gSeq <| gReg <| R rfl (mv rfl) <| call [] [] rfl Tryd.func70 rfl rfl (math_bits_Len64_ok _) (aQ rfl <| aN) rN fun r3 n4 => R rfl (I.add rfl rfl) <| R rfl (I.quo rfl rfl (by decide)) <| R rfl (asg rfl) <| lName 3 rfl fun y5 => gNil <| eThen <| gSeq <| gReg <| R rfl (mv rfl) <| R rfl (I.add rfl rfl) <| lBind fun x6 h7 => Ef rfl (mks 2 rfl rfl h7 Tryd.underlying40 ti5 (Zr.num rfl) rfl) fun v8 => R rfl (asg rfl) <| gNil <| eThen <| gSeq <| gReg <| R rfl (mv rfl) <| R rfl (mv rfl) <| R rfl (I.add rfl rfl) <| R rfl (I.toB rfl Tryd.underlying3 Tryd.underlying5) <| lBind fun x9 h10 => R rfl (ixO 2 rfl rfl rfl h10 Tryd.underlying40 ti5) <| Es (sto 2 rfl rfl (Foc.el h10) rfl ti5) <| gNil <| eThen <| gMid (fun (s11 : (List UInt8)) aa ww => Sta (ctx 39 H [] w) [(4, .val v8)] [(2, some (v8, .list u8R 5 s11))] aa ww) ?_ (fun s11 => ?_)
    · skip
      refine gSeq <| gReg <| R rfl (mv rfl) <| R rfl (mv rfl) <| gNil <| eThen <| gLoop (fun (s12 : (List UInt8) × Int) aa ww => Sta (ctx 39 H [] w) [(0, .rd u64R a0), (3, .rd i64R y5), (4, .val v8), (23, .rd i64R y5), (24, .rd i64R s12.2)] [(2, some (v8, .list u8R 5 s12.1))] aa ww) (fun aa ww h => h.sub [2] (sS rfl <| sS rfl <| sS rfl <| sS rfl <| sS rfl <| sN) (rR rfl rfl <| rN)) (fun s12 => ?_)
      refine gSeq <| gReg <| R rfl (I.lss rfl rfl) <| gNil <| eThen <| gSeq <| gIf rfl rfl (fun h13 => ?_) (fun h13 => ?_)
      · skip
        refine gSkip <| eThen <| gSeq <| gBlk <| gSeq <| gReg <| R rfl (mv rfl) <| R rfl (asg rfl) <| gNil <| eThen <| gReg <| R rfl (mv rfl) <| R rfl (mv rfl) <| R rfl (mv rfl) <| R rfl (I.sub rfl rfl) <| R rfl (mv rfl) <| R rfl (mv rfl) <| R rfl (I.mul rfl rfl) <| lBind fun u14 h15 => R rfl (U.shr rfl rfl (chk_some h15)) <| R rfl (U.toB rfl Tryd.underlying22 Tryd.underlying5) <| lBind fun x16 h17 => R rfl (ixO 2 rfl rfl rfl h17 Tryd.underlying40 ti5) <| Es (sto 2 rfl rfl (Foc.el h17) rfl ti5) <| gNil <| eBlk <| eThen <| gReg <| R rfl (I.add rfl rfl) <| R rfl (mv rfl) <| gNil <| eNext (fun aa ww h => h.sub [2] (sS rfl <| sS rfl <| sS rfl <| sS rfl <| sS rfl <| sN) (rR rfl rfl <| rN))
      · skip
        refine gExit <| eTexit <| eLeave <| eMid (fun aa ww h => h.sub [2] (sS rfl <| sN) (rR rfl rfl <| rN))
    · skip
      refine gSeq <| gReg <| R rfl (mv rfl) <| R rfl (asg rfl) <| gNil <| eThen <| gRet <| eRet [v8] [2] rfl (eE rfl <| eN) (rR rfl rfl <| rN)


def wire_Signed (a0 : Int) : Option ((List UInt8)) :=
  wire_Number ((shl64 (UInt64.ofInt a0) 1) ^^^ (UInt64.ofInt (shrI a0 63))) >>= fun r1 =>
  some r1
set_option maxRecDepth 100000 in
theorem wire_Signed_ok (a0 : Int) : Spec Tryd.prog 32 [.rd i64R a0] [] (wire_Signed a0) (fun r nv => ⟨[.val (nv 0)], [(100, some (nv 0, .list u8R 5 r))]⟩) := by
  refine spec 11 Tryd.func32 rfl rfl rfl fun H w => ?_
  refine gSeq <| gReg <| R rfl (asg rfl) <| gNil <| eThen <| gSeq <| gReg <| R rfl (mv rfl) <| R rfl (I.toU rfl Tryd.underlying2 Tryd.underlying22) <| R rfl (U.shl rfl rfl (Int.natCast_nonneg _)) <| R rfl (mv rfl) <| R rfl (I.shr rfl rfl (Int.natCast_nonneg _)) <| R rfl (I.toU rfl Tryd.underlying2 Tryd.underlying22) <| R rfl (U.xor rfl rfl) <| call [] [(100, 1)] rfl Tryd.func52 rfl rfl (wire_Number_ok _) (aQ rfl <| aN) rN fun r1 n2 => R rfl (asg rfl) <| gNil <| eThen <| gRet <| eRet [(n2 0)] [1] rfl (eE rfl <| eN) (rR rfl rfl <| rN)


def wire_Bytes (a0 : List UInt8) : Option ((List UInt8) × Int) :=
  if decide (10000 < (a0.length : Int)) then
    some ([], 4)
  else
    wire_Number (UInt64.ofInt (a0.length : Int)) >>= fun r2 =>
    app 1 r2 a0 >>= fun x4 =>
    some (x4, 0)
set_option maxRecDepth 100000 in
theorem wire_Bytes_ok (a0 : List UInt8) : Spec Tryd.prog 33 [.rd (sliceR u8R) a0] [] (wire_Bytes a0) (fun r nv => ⟨[.val (nv 0), .rd i64R r.2], [(100, some (nv 0, .list u8R 5 r.1))]⟩) := by
  refine spec 13 Tryd.func33 rfl rfl rfl fun H w => ?_
  refine gSeq <| gReg <| R rfl (asg rfl) <| R rfl (asg rfl) <| gNil <| eThen <| gSeq <| gSeq <| gReg <| R rfl (mv rfl) <| R rfl (len' rfl .rd rfl Tryd.underlying40) <| R rfl (I.gtr rfl rfl) <| gNil <| eThen <| gIf rfl rfl (fun h1 => ?_) (fun h1 => ?_)
  · skip
    refine gSeq <| gReg <| R rfl (asg rfl) <| R rfl (asg rfl) <| gNil <| eThen <| gRet <| eTret <| eNew u8R 5 1 <| eRet [(.slice none 0 0)] [1] rfl (eE rfl <| eE rfl <| eN) (rR rfl rfl <| rN)
  · skip
    refine gSkip <| eThen <| gSeq <| gReg <| R rfl (mv rfl) <| R rfl (len' rfl .rd rfl Tryd.underlying40) <| R rfl (I.toU rfl Tryd.underlying3 Tryd.underlying22) <| call [] [(100, 2)] rfl Tryd.func52 rfl rfl (wire_Number_ok _) (aQ rfl <| aN) rN fun r2 n3 => R rfl (mv rfl) <| lBind fun x4 h5 => Ef rfl (apn 2 rfl rfl rfl .rd h5 Tryd.underlying40 ti5 rfl rfl rfl) fun v6 => R rfl (asg rfl) <| R rfl (asg rfl) <| gNil <| eThen <| gRet <| eRet [v6] [2] rfl (eE rfl <| eE rfl <| eN) (rR rfl rfl <| rN)

def value_Encode_L1 (a0 : api_Value) (s14 : (List UInt8) × Int) : Option (Sum ((List UInt8)) ((List UInt8) × Int)) :=
  if decide (0 ≤ s14.2) then
    chk (0 ≤ s14.2) >>= fun u17 =>
    app 1 s14.1 [(shr64 a0.Bits ((s14.2 : Int).toNat)).toUInt8] >>= fun x20 =>
    some (w64 (s14.2 - 8)) >>= fun y23 =>
    some (.inr (x20, y23))
  else
    some (.inl s14.1)
def value_Encode (a0 : api_Value) : Option ((List UInt8) × Int) :=
  value_Check a0 >>= fun r2 =>
  if r2 != 0 then
    some ([], r2)
  else
    (if a0.Kind == 1 then
      wire_Signed a0.Num >>= fun r8 =>
      app 1 [a0.Kind] r8 >>= fun x10 =>
      some x10
    else
      if a0.Kind == 2 then
        iter (value_Encode_L1 a0) ([a0.Kind], 56)
      else
        if a0.Kind == 3 then
          chk (a0.Text.length ≤ 281474976710656) >>= fun u25 =>
          wire_Bytes a0.Text >>= fun r27 =>
          app 1 [a0.Kind] r27.1 >>= fun x29 =>
          some x29
        else
          some [a0.Kind]) >>= fun s6 =>
    some (s6, 0)
set_option maxRecDepth 100000 in
theorem value_Encode_ok (a0 : api_Value) : Spec Tryd.prog 17 [.rd R_api_Value a0] [] (value_Encode a0) (fun r nv => ⟨[.val (nv 0), .rd i64R r.2], [(100, some (nv 0, .list u8R 5 r.1))]⟩) := by
  refine spec 53 Tryd.func17 rfl rfl rfl fun H w => ?_
  refine gSeq <| gReg <| Eb rfl (bx 1 rfl) fun v1 => R rfl (asg rfl) <| R rfl (asg rfl) <| gNil <| eThen <| gSeq <| gSeq <| gReg <| R rfl (ld 1 rfl rfl Foc.here ty24 rfl) <| call [] [] rfl Tryd.func18 rfl rfl (value_Check_ok _) (aQ rfl <| aN) rN fun r2 n3 => R rfl (asg rfl) <| gNil <| eThen <| gSeq <| gReg <| R rfl (mv rfl) <| R rfl (I.neq rfl rfl) <| gNil <| eThen <| gIf rfl rfl (fun h4 => ?_) (fun h4 => ?_)
  · skip
    refine gSeq <| gReg <| R rfl (mv rfl) <| R rfl (asg rfl) <| R rfl (asg rfl) <| gNil <| eThen <| gRet <| eTret <| eNew u8R 5 2 <| eRet [(.slice none 0 0)] [2] rfl (eE rfl <| eE rfl <| eN) (rR rfl rfl <| rN)
  · skip
    refine gSkip <| eThen <| gSeq <| gReg <| R rfl (faB 1 rfl rfl Tryd.underlying24 rfl (by exact ti5)) <| R rfl (ld 1 rfl rfl ((Foc.here).part (pt_api_Value_Kind _)) ty5 rfl) <| Ef rfl (lit (R := u8R) ([a0.Kind] : List UInt8) 3 (pP rfl rfl <| pN) rfl Tryd.underlying40 ti5 rfl rfl) fun v5 => R rfl (asg rfl) <| gNil <| eThen <| gMid (fun (s6 : (List UInt8)) aa ww => ∃ nv : Nat → Value, Sta (ctx 53 H [] w) [(5, .val (nv 0))] [(3, some ((nv 0), .list u8R 5 s6))] aa ww) ?_ (fun s6 => ?_)
    · skip
      refine gSeq <| gReg <| R rfl (faB 1 rfl rfl Tryd.underlying24 rfl (by exact ti5)) <| R rfl (ld 1 rfl rfl ((Foc.here).part (pt_api_Value_Kind _)) ty5 rfl) <| gNil <| eThen <| gBlk <| gSeq <| gReg <| R rfl (B.eql rfl rfl) <| R rfl (asg rfl) <| gNil <| eThen <| gIf rfl rfl (fun h7 => ?_) (fun h7 => ?_)
      · skip
        refine gKn 20 rfl h7 <| gReg <| R rfl (mv rfl) <| R rfl (faB 1 rfl rfl Tryd.underlying24 rfl (by exact ti2)) <| R rfl (ld 1 rfl rfl ((Foc.here).part (pt_api_Value_Num _)) ty2 rfl) <| call [] [(100, 4)] rfl Tryd.func32 rfl rfl (wire_Signed_ok _) (aQ rfl <| aN) rN fun r8 n9 => lBind fun x10 h11 => Ef rfl (apn 3 rfl rfl rfl (.own 4 rfl) h11 Tryd.underlying40 ti5 rfl rfl rfl) fun v12 => R rfl (asg rfl) <| gNil <| eBlk <| eMid (fun aa ww h => ⟨nvl [v12], h.sub [3] (sS rfl <| sN) (rR rfl rfl <| rN)⟩)
      · skip
        refine gKn 20 rfl h7 <| gSeq <| gReg <| R rfl (B.eql rfl rfl) <| R rfl (asg rfl) <| gNil <| eThen <| gIf rfl rfl (fun h13 => ?_) (fun h13 => ?_)
        · skip
          refine gKn 27 rfl h13 <| gSeq <| gReg <| R rfl (asg rfl) <| gNil <| eThen <| gLoop (fun (s14 : (List UInt8) × Int) aa ww => ∃ nv : Nat → Value, Sta (ctx 53 H [] w) [(1, .val (ptrTo v1 0)), (5, .val (nv 0)), (6, .rd i64R s14.2)] [(1, some (v1, .box 24 [.rd R_api_Value a0])), (3, some ((nv 0), .list u8R 5 s14.1))] aa ww) (fun aa ww h => ⟨nvl [v5], h.sub [1, 3] (sS rfl <| sS rfl <| sS rfl <| sN) (rR rfl rfl <| rR rfl rfl <| rN)⟩) (fun s14 => ?_)
          refine gEx fun n15 => gSeq <| gSeq <| gReg <| R rfl (mv rfl) <| R rfl (I.geq rfl rfl) <| gNil <| eThen <| gIf rfl rfl (fun h16 => ?_) (fun h16 => ?_)
          · skip
            refine gSkip <| eThen <| gSeq <| gBlk <| gReg <| R rfl (mv rfl) <| R rfl (faB 1 rfl rfl Tryd.underlying24 rfl (by exact ti22)) <| R rfl (ld 1 rfl rfl ((Foc.here).part (pt_api_Value_Bits _)) ty22 rfl) <| R rfl (mv rfl) <| lBind fun u17 h18 => R rfl (U.shr rfl rfl (chk_some h18)) <| R rfl (U.toB rfl Tryd.underlying22 Tryd.underlying5) <| Ef rfl (lit (R := u8R) ([(shr64 a0.Bits ((s14.2 : Int).toNat)).toUInt8] : List UInt8) 5 (pP rfl rfl <| pN) rfl Tryd.underlying40 ti5 rfl rfl) fun v19 => lBind fun x20 h21 => Ef rfl (apn 3 rfl rfl rfl (.own 5 rfl) h21 Tryd.underlying40 ti5 rfl rfl rfl) fun v22 => R rfl (asg rfl) <| gNil <| eBlk <| eThen <| gReg <| R rfl (mv rfl) <| R rfl (I.sub rfl rfl) <| R rfl (asg rfl) <| lName 6 rfl fun y23 => gNil <| eNext (fun aa ww h => ⟨nvl [v22], h.sub [1, 3] (sS rfl <| sS rfl <| sS rfl <| sN) (rR rfl rfl <| rR rfl rfl <| rN)⟩)
          · skip
            refine gExit <| eTexit <| eLeave <| eBlk <| eMid (fun aa ww h => ⟨nvl [(n15 0)], h.sub [3] (sS rfl <| sN) (rR rfl rfl <| rN)⟩)
        · skip
          refine gKn 27 rfl h13 <| gSeq <| gReg <| R rfl (B.eql rfl rfl) <| R rfl (asg rfl) <| gNil <| eThen <| gIf rfl rfl (fun h24 => ?_) (fun h24 => ?_)
          · skip
            refine gKn 41 rfl h24 <| gSeq <| gReg <| R rfl (faB 1 rfl rfl Tryd.underlying24 rfl (by exact ti9)) <| R rfl (ld 1 rfl rfl ((Foc.here).part (pt_api_Value_Text _)) ty9 rfl) <| lBind fun u25 h26 => lCvSB rfl rfl h26 Tryd.underlying9 Tryd.underlying40 Tryd.underlying5 <| call [] [(100, 6)] rfl Tryd.func33 rfl rfl (wire_Bytes_ok _) (aQ rfl <| aN) rN fun r27 n28 => R rfl (mv rfl) <| R rfl (ext rfl rfl) <| R rfl (ext rfl rfl) <| R rfl (asg rfl) <| R rfl (asg rfl) <| gNil <| eThen <| gReg <| R rfl (mv rfl) <| R rfl (mv rfl) <| lBind fun x29 h30 => Ef rfl (apn 3 rfl rfl rfl (.own 6 rfl) h30 Tryd.underlying40 ti5 rfl rfl rfl) fun v31 => R rfl (asg rfl) <| gNil <| eBlk <| eMid (fun aa ww h => ⟨nvl [v31], h.sub [3] (sS rfl <| sN) (rR rfl rfl <| rN)⟩)
          · skip
            refine gKn 41 rfl h24 <| gSkip <| eBlk <| eMid (fun aa ww h => ⟨nvl [v5], h.sub [3] (sS rfl <| sN) (rR rfl rfl <| rN)⟩)
    · skip
      refine gEx fun n32 => gSeq <| gReg <| R rfl (mv rfl) <| R rfl (asg rfl) <| R rfl (asg rfl) <| gNil <| eThen <| gRet <| eRet [(n32 0)] [3] rfl (eE rfl <| eE rfl <| eN) (rR rfl rfl <| rN)


def value_group (a0 : api_Value) : Option (Int) :=
  if a0.Kind == 3 then
    some 2
  else
    if a0.Kind == 2 then
      value_Class a0.Bits >>= fun r4 =>
      if r4 == 5 then
        some 1
      else
        some 0
    else
      some 0
set_option maxRecDepth 100000 in
theorem value_group_ok (a0 : api_Value) : Spec Tryd.prog 27 [.rd R_api_Value a0] [] (value_group a0) (fun r nv => ⟨[.rd i64R r], []⟩) := by
  refine spec 17 Tryd.func27 rfl rfl rfl fun H w => ?_
  refine gSeq <| gReg <| Eb rfl (bx 1 rfl) fun v1 => R rfl (asg rfl) <| gNil <| eThen <| gSeq <| gBlk <| gSeq <| gReg <| R rfl (faB 1 rfl rfl Tryd.underlying24 rfl (by exact ti5)) <| R rfl (ld 1 rfl rfl ((Foc.here).part (pt_api_Value_Kind _)) ty5 rfl) <| R rfl (B.eql rfl rfl) <| R rfl (asg rfl) <| gNil <| eThen <| gIf rfl rfl (fun h2 => ?_) (fun h2 => ?_)
  · skip
    refine gKn 6 rfl h2 <| gSeq <| gReg <| R rfl (asg rfl) <| gNil <| eThen <| gRet <| eBret <| eTret <| eRet [] [] rfl (eE rfl <| eN) (rN)
  · skip
    refine gKn 6 rfl h2 <| gSeq <| gReg <| R rfl (faB 1 rfl rfl Tryd.underlying24 rfl (by exact ti5)) <| R rfl (ld 1 rfl rfl ((Foc.here).part (pt_api_Value_Kind _)) ty5 rfl) <| R rfl (B.eql rfl rfl) <| R rfl (mv rfl) <| lSplit 11 rfl (fun h3 => ?_) (fun h3 => ?_)
    · skip
      refine lKn 10 rfl h3 <| lRun (gd rfl rfl rfl rfl) rfl rfl (faB 1 rfl rfl Tryd.underlying24 rfl (by exact ti22)) <| lRun (gd rfl rfl rfl rfl) rfl rfl (ld 1 rfl rfl ((Foc.here).part (pt_api_Value_Bits _)) ty22 rfl) <| callg [] [] (gd rfl rfl rfl rfl) rfl Tryd.func12 rfl rfl (value_Class_ok _) (aQ rfl <| aN) rN fun r4 n5 => lRun (gd rfl rfl rfl rfl) rfl rfl (B.eql rfl rfl) <| R rfl (pkT rfl rfl) <| R rfl (asg rfl) <| gNil <| eThen <| gIf rfl rfl (fun h6 => ?_) (fun h6 => ?_)
      · skip
        refine gKn 15 rfl h6 <| gKn 16 rfl h6 <| gSeq <| gReg <| R rfl (asg rfl) <| gNil <| eThen <| gRet <| eBret <| eTret <| eRet [] [] rfl (eE rfl <| eN) (rN)
      · skip
        refine gKn 15 rfl h6 <| gKn 16 rfl h6 <| gSkip <| eBlk <| eThen <| gSeq <| gReg <| R rfl (asg rfl) <| gNil <| eThen <| gRet <| eRet [] [] rfl (eE rfl <| eN) (rN)
    · skip
      refine lKn 10 rfl h3 <| lSkip (gd rfl rfl rfl rfl) rfl rfl <| lSkip (gd rfl rfl rfl rfl) rfl rfl <| lSkip (gd rfl rfl rfl rfl) rfl rfl <| lSkip (gd rfl rfl rfl rfl) rfl rfl <| R rfl (pkF rfl rfl) <| R rfl (asg rfl) <| gNil <| eThen <| gFalse rfl <| gSkip <| eBlk <| eThen <| gSeq <| gReg <| R rfl (asg rfl) <| gNil <| eThen <| gRet <| eRet [] [] rfl (eE rfl <| eN) (rN)


def cmp_isNaN_int (a0 : Int) : Option (Bool) :=
  some (a0 != a0)
set_option maxRecDepth 100000 in
theorem cmp_isNaN_int_ok (a0 : Int) : Spec Tryd.prog 44 [.rd i64R a0] [] (cmp_isNaN_int a0) (fun r nv => ⟨[.rd boolR r], []⟩) := by
  refine spec 6 Tryd.func44 rfl rfl rfl fun H w => ?_
  refine gSeq <| gReg <| R rfl (asg rfl) <| gNil <| eThen <| gSeq <| gReg <| R rfl (mv rfl) <| R rfl (mv rfl) <| R rfl (I.neq rfl rfl) <| R rfl (asg rfl) <| gNil <| eThen <| gRet <| eRet [] [] rfl (eE rfl <| eN) (rN)


def cmp_Compare_int (a0 : Int) (a1 : Int) : Option (Int) :=
  cmp_isNaN_int a0 >>= fun r1 =>
  cmp_isNaN_int a1 >>= fun r3 =>
  if r1 then
    if r3 then
      some 0
    else
      some (-1)
  else
    if r3 then
      some 1
    else
      if decide (a0 < a1) then
        some (-1)
      else
        if decide (a1 < a0) then
          some 1
        else
          some 0
set_option maxRecDepth 100000 in
theorem cmp_Compare_int_ok (a0 : Int) (a1 : Int) : Spec Tryd.prog 28 [.rd i64R a0, .rd i64R a1] [] (cmp_Compare_int a0 a1) (fun r nv => ⟨[.rd i64R r], []⟩) := by
  refine spec 20 Tryd.func28 rfl rfl rfl fun H w => ?_
  refine gSeq <| gReg <| R rfl (asg rfl) <| gNil <| eThen <| gSeq <| gReg <| R rfl (mv rfl) <| call [] [] rfl Tryd.func44 rfl rfl (cmp_isNaN_int_ok _) (aQ rfl <| aN) rN fun r1 n2 => R rfl (asg rfl) <| gNil <| eThen <| gSeq <| gReg <| R rfl (mv rfl) <| call [] [] rfl Tryd.func44 rfl rfl (cmp_isNaN_int_ok _) (aQ rfl <| aN) rN fun r3 n4 => R rfl (asg rfl) <| gNil <| eThen <| gSeq <| gSeq <| gReg <| R rfl (mv rfl) <| gNil <| eThen <| gIf rfl rfl (fun h5 => ?_) (fun h5 => ?_)
  · skip
    refine gKn 8 rfl h5 <| gKn 5 rfl h5 <| gSeq <| gSeq <| gReg <| R rfl (mv rfl) <| gNil <| eThen <| gIf rfl rfl (fun h6 => ?_) (fun h6 => ?_)
    · skip
      refine gKn 10 rfl h6 <| gKn 6 rfl h6 <| gSeq <| gReg <| R rfl (asg rfl) <| gNil <| eThen <| gRet <| eTret <| eTret <| eRet [] [] rfl (eE rfl <| eN) (rN)
    · skip
      refine gKn 10 rfl h6 <| gKn 6 rfl h6 <| gSkip <| eThen <| gSeq <| gReg <| R rfl (asg rfl) <| gNil <| eThen <| gRet <| eTret <| eRet [] [] rfl (eE rfl <| eN) (rN)
  · skip
    refine gKn 8 rfl h5 <| gKn 5 rfl h5 <| gSkip <| eThen <| gSeq <| gSeq <| gReg <| R rfl (mv rfl) <| gNil <| eThen <| gIf rfl rfl (fun h7 => ?_) (fun h7 => ?_)
    · skip
      refine gKn 10 rfl h7 <| gKn 6 rfl h7 <| gSeq <| gReg <| R rfl (asg rfl) <| gNil <| eThen <| gRet <| eTret <| eRet [] [] rfl (eE rfl <| eN) (rN)
    · skip
      refine gKn 10 rfl h7 <| gKn 6 rfl h7 <| gSkip <| eThen <| gSeq <| gSeq <| gReg <| R rfl (mv rfl) <| R rfl (mv rfl) <| R rfl (I.lss rfl rfl) <| gNil <| eThen <| gIf rfl rfl (fun h8 => ?_) (fun h8 => ?_)
      · skip
        refine gSeq <| gReg <| R rfl (asg rfl) <| gNil <| eThen <| gRet <| eTret <| eRet [] [] rfl (eE rfl <| eN) (rN)
      · skip
        refine gSkip <| eThen <| gSeq <| gSeq <| gReg <| R rfl (mv rfl) <| R rfl (mv rfl) <| R rfl (I.gtr rfl rfl) <| gNil <| eThen <| gIf rfl rfl (fun h9 => ?_) (fun h9 => ?_)
        · skip
          refine gSeq <| gReg <| R rfl (asg rfl) <| gNil <| eThen <| gRet <| eTret <| eRet [] [] rfl (eE rfl <| eN) (rN)
        · skip
          refine gSkip <| eThen <| gSeq <| gReg <| R rfl (asg rfl) <| gNil <| eThen <| gRet <| eRet [] [] rfl (eE rfl <| eN) (rN)


def internal_bytealg_CompareString (a0 : List UInt8) (a1 : List UInt8) : Option (Int) :=
  some (Lib.compareBytes a0 a1) >>= fun y1 =>
  some y1
set_option maxRecDepth 100000 in
theorem internal_bytealg_CompareString_ok (a0 : List UInt8) (a1 : List UInt8) : Spec Tryd.prog 45 [.rd strR a0, .rd strR a1] [] (internal_bytealg_CompareString a0 a1) (fun r nv => ⟨[.rd i64R r], []⟩) := by
  refine spec 8 Tryd.func45 rfl rfl rfl fun H w => ?_
  refine gSeq <| gReg <| R rfl (asg rfl) <| gNil <| eThen <| gSeq <| gReg <| R rfl (mv rfl) <| R rfl (mv rfl) <| R rfl (cmpT rfl rfl Tryd.func67 rfl rfl (by kernel_rfl) (by kernel_rfl)) <| R rfl (asg rfl) <| lName 4 rfl fun y1 => gNil <| eThen <| gRet <| eRet [] [] rfl (eE rfl <| eN) (rN)


def strings_Compare (a0 : List UInt8) (a1 : List UInt8) : Option (Int) :=
  internal_bytealg_CompareString a0 a1 >>= fun r1 =>
  some r1
set_option maxRecDepth 100000 in
theorem strings_Compare_ok (a0 : List UInt8) (a1 : List UInt8) : Spec Tryd.prog 29 [.rd strR a0, .rd strR a1] [] (strings_Compare a0 a1) (fun r nv => ⟨[.rd i64R r], []⟩) := by
  refine spec 8 Tryd.func29 rfl rfl rfl fun H w => ?_
  refine gSeq <| gReg <| R rfl (asg rfl) <| gNil <| eThen <| gSeq <| gReg <| R rfl (mv rfl) <| R rfl (mv rfl) <| call [] [] rfl Tryd.func45 rfl rfl (internal_bytealg_CompareString_ok _ _) (aQ rfl <| aQ rfl <| aN) rN fun r1 n2 => R rfl (asg rfl) <| gNil <| eThen <| gRet <| eRet [] [] rfl (eE rfl <| eN) (rN)


def math_bits_TrailingZeros64 (a0 : UInt64) : Option (Int) :=
  if a0 == 0 then
    some 64
  else
    vidx gtab1 ((shr64 ((a0 &&& (-a0)) * 285870213051353865) 58).toNat : Int) >>= fun x2 =>
    some (x2.toNat : Int) >>= fun y4 =>
    some y4
set_option maxRecDepth 100000 in
theorem math_bits_TrailingZeros64_ok (a0 : UInt64) : Spec Tryd.prog 68 [.rd u64R a0] [(1001, some ((.bool true), .glob 1 (arrR 64 u8R) gtab1))] (math_bits_TrailingZeros64 a0) (fun r nv => ⟨[.rd i64R r], [(1001, some (.bool true, .glob 1 (arrR 64 u8R) gtab1))]⟩) := by
  refine spec 14 Tryd.func68 rfl rfl rfl fun H w => ?_
  refine gSeq <| gReg <| R rfl (asg rfl) <| gNil <| eThen <| gSeq <| gSeq <| gReg <| R rfl (mv rfl) <| R rfl (U.eql rfl rfl) <| gNil <| eThen <| gIf rfl rfl (fun h1 => ?_) (fun h1 => ?_)
  · skip
    refine gSeq <| gReg <| R rfl (asg rfl) <| gNil <| eThen <| gRet <| eTret <| eRet [] [1001] rfl (eE rfl <| eN) (rR rfl rfl <| rN)
  · skip
    refine gSkip <| eThen <| gSeq <| gReg <| R rfl (mv rfl) <| R rfl (mv rfl) <| R rfl (U.neg rfl) <| R rfl (U.and rfl rfl) <| R rfl (U.mul rfl rfl) <| R rfl (U.shr rfl rfl (Int.natCast_nonneg _)) <| lBind fun x2 h3 => R rfl (ixG 1001 rfl rfl h3 Tryd.underlying98 ti5) <| R rfl (ldR rfl ty5) <| R rfl (B.toI rfl Tryd.underlying5 Tryd.underlying3) <| R rfl (asg rfl) <| lName 2 rfl fun y4 => gNil <| eThen <| gRet <| eRet [] [1001] rfl (eE rfl <| eN) (rR rfl rfl <| rN)


def value_of (a0 : api_Value) : Option (value_number) :=
  ((if a0.Kind == 1 then
    some (decide (a0.Num < 0)) >>= fun y6 =>
    some y6
  else
    some false) >>= fun s4 =>
  if s4 then
    some (⟨true, false, -(UInt64.ofInt a0.Num), 0⟩ : value_number)
  else
    if a0.Kind == 1 then
      some (⟨false, false, UInt64.ofInt a0.Num, 0⟩ : value_number)
    else
      value_split a0.Bits >>= fun r9 =>
      (if decide (0 < r9.1) then
        some (!((⟨decide (9223372036854775808 ≤ a0.Bits), r9.1 == 2047, r9.2, (-1074)⟩ : value_number).end_))
      else
        some false) >>= fun s11 =>
      if s11 then
        some ({ { (⟨decide (9223372036854775808 ≤ a0.Bits), r9.1 == 2047, r9.2, (-1074)⟩ : value_number) with m := r9.2 + 4503599627370496 } with e := w64 (r9.1 - 1075) })
      else
        some (⟨decide (9223372036854775808 ≤ a0.Bits), r9.1 == 2047, r9.2, (-1074)⟩ : value_number)) >>= fun s3 =>
  if decide (0 < s3.m) then
    math_bits_TrailingZeros64 s3.m >>= fun r15 =>
    chk (0 ≤ r15) >>= fun u17 =>
    some ({ { s3 with m := shr64 s3.m ((r15 : Int).toNat) } with e := w64 (s3.e + r15) })
  else
    some s3
set_option maxRecDepth 100000 in
theorem value_of_ok (a0 : api_Value) : Spec Tryd.prog 46 [.rd R_api_Value a0] [(1001, some ((.bool true), .glob 1 (arrR 64 u8R) gtab1))] (value_of a0) (fun r nv => ⟨[.rd R_value_number r], [(1001, some (.bool true, .glob 1 (arrR 64 u8R) gtab1))]⟩) := by
  refine spec 71 Tryd.func46 rfl rfl rfl fun H w => ?_
  refine gSeq <| gReg <| Eb rfl (bx 1 rfl) fun v1 => Eb rfl (allc 2 ti79 (.zr zr79)) fun v2 => gNil <| eThen <| gMid (fun (s3 : value_number) aa ww => Sta (ctx 71 H [(1001, some ((.bool true), .glob 1 (arrR 64 u8R) gtab1))] w) [(2, .val (ptrTo v2 0))] [(2, some (v2, .box 79 [.rd R_value_number s3])), (1001, some ((.bool true), .glob 1 (arrR 64 u8R) gtab1))] aa ww) ?_ (fun s3 => ?_)
  · skip
    refine gBlk <| gMid (fun (s4 : Bool) aa ww => Sta (ctx 71 H [(1001, some ((.bool true), .glob 1 (arrR 64 u8R) gtab1))] w) [(1, .val (ptrTo v1 0)), (2, .val (ptrTo v2 0)), (32, .rd boolR s4)] [(1, some (v1, .box 24 [.rd R_api_Value a0])), (2, some (v2, .box 79 [.rd R_value_number (⟨false, false, 0, 0⟩ : value_number)])), (1001, some ((.bool true), .glob 1 (arrR 64 u8R) gtab1))] aa ww) ?_ (fun s4 => ?_)
    · skip
      refine gReg <| R rfl (faB 1 rfl rfl Tryd.underlying24 rfl (by exact ti5)) <| R rfl (ld 1 rfl rfl ((Foc.here).part (pt_api_Value_Kind _)) ty5 rfl) <| R rfl (B.eql rfl rfl) <| R rfl (mv rfl) <| lSplit 36 rfl (fun h5 => ?_) (fun h5 => ?_)
      · skip
        refine lKn 35 rfl h5 <| lRun (gd rfl rfl rfl rfl) rfl rfl (faB 1 rfl rfl Tryd.underlying24 rfl (by exact ti2)) <| lRun (gd rfl rfl rfl rfl) rfl rfl (ld 1 rfl rfl ((Foc.here).part (pt_api_Value_Num _)) ty2 rfl) <| lRun (gd rfl rfl rfl rfl) rfl rfl (I.lss rfl rfl) <| R rfl (pkT rfl rfl) <| R rfl (asg rfl) <| lName 32 rfl fun y6 => gNil <| eMid (fun aa ww h => h.sub [1, 2, 1001] (sS rfl <| sS rfl <| sS rfl <| sN) (rR rfl rfl <| rR rfl rfl <| rR rfl rfl <| rN))
      · skip
        refine lKn 35 rfl h5 <| lSkip (gd rfl rfl rfl rfl) rfl rfl <| lSkip (gd rfl rfl rfl rfl) rfl rfl <| lSkip (gd rfl rfl rfl rfl) rfl rfl <| R rfl (pkF rfl rfl) <| R rfl (asg rfl) <| gNil <| eMid (fun aa ww h => h.sub [1, 2, 1001] (sS rfl <| sS rfl <| sS rfl <| sN) (rR rfl rfl <| rR rfl rfl <| rR rfl rfl <| rN))
    · skip
      refine gIf rfl rfl (fun h7 => ?_) (fun h7 => ?_)
      · skip
        refine gReg <| R rfl (faB 1 rfl rfl Tryd.underlying24 rfl (by exact ti2)) <| R rfl (ld 1 rfl rfl ((Foc.here).part (pt_api_Value_Num _)) ty2 rfl) <| R rfl (I.toU rfl Tryd.underlying2 Tryd.underlying22) <| R rfl (U.neg rfl) <| R rfl (bld (x' := (⟨true, false, -(UInt64.ofInt a0.Num), 0⟩ : value_number)) [(0, 1), (1, 1), (2, 1), (3, 1)] Tryd.underlying79 ti79 rfl zr79 rfl (Bld.cons (pt_value_number_neg _) rfl rfl <| Bld.cons (pt_value_number_m _) rfl rfl <| Bld.done rfl)) <| Es (sto 2 rfl rfl Foc.here rfl ti79) <| gNil <| eBlk <| eMid (fun aa ww h => h.sub [2, 1001] (sS rfl <| sN) (rR rfl rfl <| rR rfl rfl <| rN))
      · skip
        refine gSeq <| gReg <| R rfl (faB 1 rfl rfl Tryd.underlying24 rfl (by exact ti5)) <| R rfl (ld 1 rfl rfl ((Foc.here).part (pt_api_Value_Kind _)) ty5 rfl) <| R rfl (B.eql rfl rfl) <| R rfl (asg rfl) <| gNil <| eThen <| gIf rfl rfl (fun h8 => ?_) (fun h8 => ?_)
        · skip
          refine gKn 49 rfl h8 <| gReg <| R rfl (faB 1 rfl rfl Tryd.underlying24 rfl (by exact ti2)) <| R rfl (ld 1 rfl rfl ((Foc.here).part (pt_api_Value_Num _)) ty2 rfl) <| R rfl (I.toU rfl Tryd.underlying2 Tryd.underlying22) <| R rfl (bld (x' := (⟨false, false, UInt64.ofInt a0.Num, 0⟩ : value_number)) [(0, 1), (1, 1), (2, 1), (3, 1)] Tryd.underlying79 ti79 rfl zr79 rfl (Bld.cons (pt_value_number_m _) rfl rfl <| Bld.done rfl)) <| Es (sto 2 rfl rfl Foc.here rfl ti79) <| gNil <| eBlk <| eMid (fun aa ww h => h.sub [2, 1001] (sS rfl <| sN) (rR rfl rfl <| rR rfl rfl <| rN))
        · skip
          refine gKn 49 rfl h8 <| gSeq <| gReg <| R rfl (faB 1 rfl rfl Tryd.underlying24 rfl (by exact ti22)) <| R rfl (ld 1 rfl rfl ((Foc.here).part (pt_api_Value_Bits _)) ty22 rfl) <| call [] [] rfl Tryd.func31 rfl rfl (value_split_ok _) (aQ rfl <| aN) rN fun r9 n10 => R rfl (mv rfl) <| R rfl (ext rfl rfl) <| R rfl (ext rfl rfl) <| R rfl (asg rfl) <| R rfl (asg rfl) <| gNil <| eThen <| gSeq <| gReg <| R rfl (faB 1 rfl rfl Tryd.underlying24 rfl (by exact ti22)) <| R rfl (ld 1 rfl rfl ((Foc.here).part (pt_api_Value_Bits _)) ty22 rfl) <| R rfl (U.geq rfl rfl) <| R rfl (mv rfl) <| R rfl (I.eql rfl rfl) <| R rfl (mv rfl) <| R rfl (bld (x' := (⟨decide (9223372036854775808 ≤ a0.Bits), r9.1 == 2047, r9.2, (-1074)⟩ : value_number)) [(0, 1), (1, 1), (2, 1), (3, 1)] Tryd.underlying79 ti79 rfl zr79 rfl (Bld.cons (pt_value_number_neg _) rfl rfl <| Bld.cons (pt_value_number_end_ _) rfl rfl <| Bld.cons (pt_value_number_m _) rfl rfl <| Bld.cons (pt_value_number_e _) rfl rfl <| Bld.done rfl)) <| Es (sto 2 rfl rfl Foc.here rfl ti79) <| gNil <| eThen <| gMid (fun (s11 : Bool) aa ww => Sta (ctx 71 H [(1001, some ((.bool true), .glob 1 (arrR 64 u8R) gtab1))] w) [(2, .val (ptrTo v2 0)), (3, .rd i64R r9.1), (4, .rd u64R r9.2), (25, .rd boolR s11)] [(2, some (v2, .box 79 [.rd R_value_number (⟨decide (9223372036854775808 ≤ a0.Bits), r9.1 == 2047, r9.2, (-1074)⟩ : value_number)])), (1001, some ((.bool true), .glob 1 (arrR 64 u8R) gtab1))] aa ww) ?_ (fun s11 => ?_)
          · skip
            refine gReg <| R rfl (mv rfl) <| R rfl (I.gtr rfl rfl) <| R rfl (mv rfl) <| lSplit 21 rfl (fun h12 => ?_) (fun h12 => ?_)
            · skip
              refine lKn 20 rfl h12 <| lRun (gd rfl rfl rfl rfl) rfl rfl (faB 2 rfl rfl Tryd.underlying79 rfl (by exact ti4)) <| lRun (gd rfl rfl rfl rfl) rfl rfl (ld 2 rfl rfl ((Foc.here).part (pt_value_number_end_ _)) ty4 rfl) <| lRun (gd rfl rfl rfl rfl) rfl rfl (not' rfl) <| R rfl (pkT rfl rfl) <| gNil <| eMid (fun aa ww h => h.sub [2, 1001] (sS rfl <| sS rfl <| sS rfl <| sS rfl <| sN) (rR rfl rfl <| rR rfl rfl <| rN))
            · skip
              refine lKn 20 rfl h12 <| lSkip (gd rfl rfl rfl rfl) rfl rfl <| lSkip (gd rfl rfl rfl rfl) rfl rfl <| lSkip (gd rfl rfl rfl rfl) rfl rfl <| R rfl (pkF rfl rfl) <| gNil <| eMid (fun aa ww h => h.sub [2, 1001] (sS rfl <| sS rfl <| sS rfl <| sS rfl <| sN) (rR rfl rfl <| rR rfl rfl <| rN))
          · skip
            refine gIf rfl rfl (fun h13 => ?_) (fun h13 => ?_)
            · skip
              refine gReg <| R rfl (mv rfl) <| R rfl (U.add rfl rfl) <| R rfl (mv rfl) <| R rfl (I.sub rfl rfl) <| R rfl (faB 2 rfl rfl Tryd.underlying79 rfl (by exact ti22)) <| Es (sto 2 rfl rfl ((Foc.here).part (pt_value_number_m _)) rfl ti22) <| R rfl (faB 2 rfl rfl Tryd.underlying79 rfl (by exact ti3)) <| Es (sto 2 rfl rfl ((Foc.here).part (pt_value_number_e _)) rfl ti3) <| gNil <| eBlk <| eMid (fun aa ww h => h.sub [2, 1001] (sS rfl <| sN) (rR rfl rfl <| rR rfl rfl <| rN))
            · skip
              refine gSkip <| eBlk <| eMid (fun aa ww h => h.sub [2, 1001] (sS rfl <| sN) (rR rfl rfl <| rR rfl rfl <| rN))
  · skip
    refine gSeq <| gSeq <| gReg <| R rfl (faB 2 rfl rfl Tryd.underlying79 rfl (by exact ti22)) <| R rfl (ld 2 rfl rfl ((Foc.here).part (pt_value_number_m _)) ty22 rfl) <| R rfl (U.gtr rfl rfl) <| gNil <| eThen <| gIf rfl rfl (fun h14 => ?_) (fun h14 => ?_)
    · skip
      refine gSeq <| gReg <| R rfl (faB 2 rfl rfl Tryd.underlying79 rfl (by exact ti22)) <| R rfl (ld 2 rfl rfl ((Foc.here).part (pt_value_number_m _)) ty22 rfl) <| call [1001] [] rfl Tryd.func68 rfl rfl (math_bits_TrailingZeros64_ok _) (aQ rfl <| aN) (rR rfl rfl <| rN) fun r15 n16 => R rfl (asg rfl) <| gNil <| eThen <| gRegH [2] mixed rfl rfl <| hTake 0 rfl (by kernel_rfl) (by kernel_rfl) (by kernel_rfl) (gd0 rfl) rfl rfl (faB 2 rfl rfl Tryd.underlying79 rfl (by exact ti22)) <| hTake 2 rfl (by kernel_rfl) (by kernel_rfl) (by kernel_rfl) (gd0 rfl) rfl rfl (mv rfl) <| hTake 4 rfl (by kernel_rfl) (by kernel_rfl) (by kernel_rfl) (gd0 rfl) rfl rfl (faB 2 rfl rfl Tryd.underlying79 rfl (by exact ti3)) <| hTake 6 rfl (by kernel_rfl) (by kernel_rfl) (by kernel_rfl) (gd0 rfl) rfl rfl (mv rfl) <| hAlt [1, 5] (by kernel_rfl) rfl ⟨?_, ?_, trivial⟩
      · skip
        refine oRun 1 rfl (gd0 rfl) rfl rfl flat_num (ld 2 rfl rfl ((Foc.here).part (pt_value_number_m _)) ty22 rfl) <| hBind fun u17 h18 => hTake 3 rfl (by kernel_rfl) (by kernel_rfl) (by kernel_rfl) (gd0 rfl) rfl rfl (U.shr rfl rfl (chk_some h18)) <| hRun 5 rfl (by kernel_rfl) (gd0 rfl) rfl rfl flat_num (ld 2 rfl rfl ((Foc.here).part (pt_value_number_e _)) ty3 rfl) <| hTake 7 rfl (by kernel_rfl) (by kernel_rfl) (by kernel_rfl) (gd0 rfl) rfl rfl (I.add rfl rfl) <| hTake 8 rfl (by kernel_rfl) (by kernel_rfl) (by kernel_rfl) (gd0 rfl) rfl rfl (faB 2 rfl rfl Tryd.underlying79 rfl (by exact ti22)) <| hDoS 9 rfl (by kernel_rfl) (gd0 rfl) rfl rfl rfl rfl (sto 2 rfl rfl ((Foc.here).part (pt_value_number_m _)) rfl ti22) <| hTakeF 10 rfl (by kernel_rfl) (by kernel_rfl) (by kernel_rfl) (gd0 rfl) rfl rfl flat_val (faB 2 rfl rfl Tryd.underlying79 rfl (by exact ti3)) <| hDoS 11 rfl (by kernel_rfl) (gd0 rfl) rfl rfl rfl rfl (sto 2 rfl rfl ((Foc.here).part (pt_value_number_e _)) rfl ti3) <| hDone (by kernel_rfl) <| eThen <| gSeq <| gReg <| R rfl (ld 2 rfl rfl Foc.here ty79 rfl) <| Es (sto 2 rfl rfl Foc.here rfl ti79) <| gNil <| eThen <| gRet <| eRet [] [1001] rfl (eC 2 rfl rfl ty79 <| eN) (rR rfl rfl <| rN)
      · skip
        refine oRun 5 rfl (gd0 rfl) rfl rfl flat_num (ld 2 rfl rfl ((Foc.here).part (pt_value_number_e _)) ty3 rfl) <| hTake 7 rfl (by kernel_rfl) (by kernel_rfl) (by kernel_rfl) (gd0 rfl) rfl rfl (I.add rfl rfl) <| hRun 1 rfl (by kernel_rfl) (gd0 rfl) rfl rfl flat_num (ld 2 rfl rfl ((Foc.here).part (pt_value_number_m _)) ty22 rfl) <| hBind fun u19 h20 => hTake 3 rfl (by kernel_rfl) (by kernel_rfl) (by kernel_rfl) (gd0 rfl) rfl rfl (U.shr rfl rfl (chk_some h20)) <| hTake 8 rfl (by kernel_rfl) (by kernel_rfl) (by kernel_rfl) (gd0 rfl) rfl rfl (faB 2 rfl rfl Tryd.underlying79 rfl (by exact ti22)) <| hDoS 9 rfl (by kernel_rfl) (gd0 rfl) rfl rfl rfl rfl (sto 2 rfl rfl ((Foc.here).part (pt_value_number_m _)) rfl ti22) <| hTakeF 10 rfl (by kernel_rfl) (by kernel_rfl) (by kernel_rfl) (gd0 rfl) rfl rfl flat_val (faB 2 rfl rfl Tryd.underlying79 rfl (by exact ti3)) <| hDoS 11 rfl (by kernel_rfl) (gd0 rfl) rfl rfl rfl rfl (sto 2 rfl rfl ((Foc.here).part (pt_value_number_e _)) rfl ti3) <| hDone (by kernel_rfl) <| eThen <| gSeq <| gReg <| R rfl (ld 2 rfl rfl Foc.here ty79 rfl) <| Es (sto 2 rfl rfl Foc.here rfl ti79) <| gNil <| eThen <| gRet <| eRet [] [1001] rfl (eC 2 rfl rfl ty79 <| eN) (rR rfl rfl <| rN)
    · skip
      refine gSkip <| eThen <| gSeq <| gReg <| R rfl (ld 2 rfl rfl Foc.here ty79 rfl) <| Es (sto 2 rfl rfl Foc.here rfl ti79) <| gNil <| eThen <| gRet <| eRet [] [1001] rfl (eC 2 rfl rfl ty79 <| eN) (rR rfl rfl <| rN)


def value_numbers_1 (a0 : value_number) : Option (Bool) :=
  if a0.m == 0 then
    some (!a0.end_)
  else
    some false
set_option maxRecDepth 100000 in
theorem value_numbers_1_ok (a0 : value_number) : Spec Tryd.prog 47 [.rd R_value_number a0] [] (value_numbers_1 a0) (fun r nv => ⟨[.rd boolR r], []⟩) := by
  refine spec 11 Tryd.func47 rfl rfl rfl fun H w => ?_
  refine gSeq <| gReg <| Eb rfl (bx 1 rfl) fun v1 => R rfl (asg rfl) <| gNil <| eThen <| gSeq <| gReg <| R rfl (faB 1 rfl rfl Tryd.underlying79 rfl (by exact ti22)) <| R rfl (ld 1 rfl rfl ((Foc.here).part (pt_value_number_m _)) ty22 rfl) <| R rfl (U.eql rfl rfl) <| R rfl (mv rfl) <| lSplit 6 rfl (fun h2 => ?_) (fun h2 => ?_)
  · skip
    refine lKn 5 rfl h2 <| lRun (gd rfl rfl rfl rfl) rfl rfl (faB 1 rfl rfl Tryd.underlying79 rfl (by exact ti4)) <| lRun (gd rfl rfl rfl rfl) rfl rfl (ld 1 rfl rfl ((Foc.here).part (pt_value_number_end_ _)) ty4 rfl) <| lRun (gd rfl rfl rfl rfl) rfl rfl (not' rfl) <| R rfl (pkT rfl rfl) <| R rfl (asg rfl) <| gNil <| eThen <| gRet <| eRet [] [] rfl (eE rfl <| eN) (rN)
  · skip
    refine lKn 5 rfl h2 <| lSkip (gd rfl rfl rfl rfl) rfl rfl <| lSkip (gd rfl rfl rfl rfl) rfl rfl <| lSkip (gd rfl rfl rfl rfl) rfl rfl <| R rfl (pkF rfl rfl) <| R rfl (asg rfl) <| gNil <| eThen <| gRet <| eRet [] [] rfl (eE rfl <| eN) (rN)


def value_flag (a0 : Bool) : Option (Int) :=
  if a0 then
    some 1
  else
    some 0
set_option maxRecDepth 100000 in
theorem value_flag_ok (a0 : Bool) : Spec Tryd.prog 49 [.rd boolR a0] [] (value_flag a0) (fun r nv => ⟨[.rd i64R r], []⟩) := by
  refine spec 4 Tryd.func49 rfl rfl rfl fun H w => ?_
  refine gSeq <| gReg <| R rfl (asg rfl) <| gNil <| eThen <| gSeq <| gSeq <| gReg <| R rfl (mv rfl) <| gNil <| eThen <| gIf rfl rfl (fun h1 => ?_) (fun h1 => ?_)
  · skip
    refine gKn 0 rfl h1 <| gSeq <| gReg <| R rfl (asg rfl) <| gNil <| eThen <| gRet <| eTret <| eRet [] [] rfl (eE rfl <| eN) (rN)
  · skip
    refine gKn 0 rfl h1 <| gSkip <| eThen <| gSeq <| gReg <| R rfl (asg rfl) <| gNil <| eThen <| gRet <| eRet [] [] rfl (eE rfl <| eN) (rN)


def cmp_isNaN_uint64 (a0 : UInt64) : Option (Bool) :=
  some (a0 != a0)
set_option maxRecDepth 100000 in
theorem cmp_isNaN_uint64_ok (a0 : UInt64) : Spec Tryd.prog 78 [.rd u64R a0] [] (cmp_isNaN_uint64 a0) (fun r nv => ⟨[.rd boolR r], []⟩) := by
  refine spec 6 Tryd.func78 rfl rfl rfl fun H w => ?_
  refine gSeq <| gReg <| R rfl (asg rfl) <| gNil <| eThen <| gSeq <| gReg <| R rfl (mv rfl) <| R rfl (mv rfl) <| R rfl (U.neq rfl rfl) <| R rfl (asg rfl) <| gNil <| eThen <| gRet <| eRet [] [] rfl (eE rfl <| eN) (rN)


def cmp_Compare_uint64 (a0 : UInt64) (a1 : UInt64) : Option (Int) :=
  cmp_isNaN_uint64 a0 >>= fun r1 =>
  cmp_isNaN_uint64 a1 >>= fun r3 =>
  if r1 then
    if r3 then
      some 0
    else
      some (-1)
  else
    if r3 then
      some 1
    else
      if decide (a0 < a1) then
        some (-1)
      else
        if decide (a1 < a0) then
          some 1
        else
          some 0
set_option maxRecDepth 100000 in
theorem cmp_Compare_uint64_ok (a0 : UInt64) (a1 : UInt64) : Spec Tryd.prog 69 [.rd u64R a0, .rd u64R a1] [] (cmp_Compare_uint64 a0 a1) (fun r nv => ⟨[.rd i64R r], []⟩) := by
  refine spec 20 Tryd.func69 rfl rfl rfl fun H w => ?_
  refine gSeq <| gReg <| R rfl (asg rfl) <| gNil <| eThen <| gSeq <| gReg <| R rfl (mv rfl) <| call [] [] rfl Tryd.func78 rfl rfl (cmp_isNaN_uint64_ok _) (aQ rfl <| aN) rN fun r1 n2 => R rfl (asg rfl) <| gNil <| eThen <| gSeq <| gReg <| R rfl (mv rfl) <| call [] [] rfl Tryd.func78 rfl rfl (cmp_isNaN_uint64_ok _) (aQ rfl <| aN) rN fun r3 n4 => R rfl (asg rfl) <| gNil <| eThen <| gSeq <| gSeq <| gReg <| R rfl (mv rfl) <| gNil <| eThen <| gIf rfl rfl (fun h5 => ?_) (fun h5 => ?_)
  · skip
    refine gKn 8 rfl h5 <| gKn 5 rfl h5 <| gSeq <| gSeq <| gReg <| R rfl (mv rfl) <| gNil <| eThen <| gIf rfl rfl (fun h6 => ?_) (fun h6 => ?_)
    · skip
      refine gKn 10 rfl h6 <| gKn 6 rfl h6 <| gSeq <| gReg <| R rfl (asg rfl) <| gNil <| eThen <| gRet <| eTret <| eTret <| eRet [] [] rfl (eE rfl <| eN) (rN)
    · skip
      refine gKn 10 rfl h6 <| gKn 6 rfl h6 <| gSkip <| eThen <| gSeq <| gReg <| R rfl (asg rfl) <| gNil <| eThen <| gRet <| eTret <| eRet [] [] rfl (eE rfl <| eN) (rN)
  · skip
    refine gKn 8 rfl h5 <| gKn 5 rfl h5 <| gSkip <| eThen <| gSeq <| gSeq <| gReg <| R rfl (mv rfl) <| gNil <| eThen <| gIf rfl rfl (fun h7 => ?_) (fun h7 => ?_)
    · skip
      refine gKn 10 rfl h7 <| gKn 6 rfl h7 <| gSeq <| gReg <| R rfl (asg rfl) <| gNil <| eThen <| gRet <| eTret <| eRet [] [] rfl (eE rfl <| eN) (rN)
    · skip
      refine gKn 10 rfl h7 <| gKn 6 rfl h7 <| gSkip <| eThen <| gSeq <| gSeq <| gReg <| R rfl (mv rfl) <| R rfl (mv rfl) <| R rfl (U.lss rfl rfl) <| gNil <| eThen <| gIf rfl rfl (fun h8 => ?_) (fun h8 => ?_)
      · skip
        refine gSeq <| gReg <| R rfl (asg rfl) <| gNil <| eThen <| gRet <| eTret <| eRet [] [] rfl (eE rfl <| eN) (rN)
      · skip
        refine gSkip <| eThen <| gSeq <| gSeq <| gReg <| R rfl (mv rfl) <| R rfl (mv rfl) <| R rfl (U.gtr rfl rfl) <| gNil <| eThen <| gIf rfl rfl (fun h9 => ?_) (fun h9 => ?_)
        · skip
          refine gSeq <| gReg <| R rfl (asg rfl) <| gNil <| eThen <| gRet <| eTret <| eRet [] [] rfl (eE rfl <| eN) (rN)
        · skip
          refine gSkip <| eThen <| gSeq <| gReg <| R rfl (asg rfl) <| gNil <| eThen <| gRet <| eRet [] [] rfl (eE rfl <| eN) (rN)


def math_bits_LeadingZeros64 (a0 : UInt64) : Option (Int) :=
  math_bits_Len64 a0 >>= fun r1 =>
  some (w64 (64 - r1)) >>= fun y3 =>
  some y3
set_option maxRecDepth 100000 in
theorem math_bits_LeadingZeros64_ok (a0 : UInt64) : Spec Tryd.prog 71 [.rd u64R a0] [] (math_bits_LeadingZeros64 a0) (fun r nv => ⟨[.rd i64R r], []⟩) := by
  refine spec 6 Tryd.func71 rfl rfl rfl fun H w => ?_
  refine gSeq <| gReg <| R rfl (asg rfl) <| gNil <| eThen <| gSeq <| gReg <| R rfl (mv rfl) <| call [] [] rfl Tryd.func70 rfl rfl (math_bits_Len64_ok _) (aQ rfl <| aN) rN fun r1 n2 => R rfl (I.sub rfl rfl) <| R rfl (asg rfl) <| lName 2 rfl fun y3 => gNil <| eThen <| gRet <| eRet [] [] rfl (eE rfl <| eN) (rN)


def value_larger (a0 : value_number) (a1 : value_number) : Option (Int) :=
  (if a0.end_ then
    some true
  else
    some a1.end_) >>= fun s3 =>
  if s3 then
    value_flag a0.end_ >>= fun r6 =>
    value_flag a1.end_ >>= fun r8 =>
    cmp_Compare_int r6 r8 >>= fun r10 =>
    some r10
  else
    (if a0.m == 0 then
      some true
    else
      some (a1.m == 0)) >>= fun s12 =>
    if s12 then
      cmp_Compare_uint64 a0.m a1.m >>= fun r15 =>
      some r15
    else
      math_bits_Len64 a0.m >>= fun r17 =>
      math_bits_Len64 a1.m >>= fun r19 =>
      cmp_Compare_int (w64 (r17 + a0.e)) (w64 (r19 + a1.e)) >>= fun r21 =>
      if r21 != 0 then
        some r21
      else
        math_bits_LeadingZeros64 a0.m >>= fun r24 =>
        chk (0 ≤ r24) >>= fun u26 =>
        math_bits_LeadingZeros64 a1.m >>= fun r28 =>
        chk (0 ≤ r28) >>= fun u30 =>
        cmp_Compare_uint64 (shl64 a0.m ((r24 : Int).toNat)) (shl64 a1.m ((r28 : Int).toNat)) >>= fun r32 =>
        some r32
set_option maxRecDepth 100000 in
theorem value_larger_ok (a0 : value_number) (a1 : value_number) : Spec Tryd.prog 50 [.rd R_value_number a0, .rd R_value_number a1] [] (value_larger a0 a1) (fun r nv => ⟨[.rd i64R r], []⟩) := by
  refine spec 63 Tryd.func50 rfl rfl rfl fun H w => ?_
  refine gSeq <| gReg <| Eb rfl (bx 1 rfl) fun v1 => Eb rfl (bx 2 rfl) fun v2 => R rfl (asg rfl) <| gNil <| eThen <| gSeq <| gBlk <| gMid (fun (s3 : Bool) aa ww => Sta (ctx 63 H [] w) [(2, .val (ptrTo v1 0)), (3, .val (ptrTo v2 0)), (6, .rd boolR s3)] [(1, some (v1, .box 79 [.rd R_value_number a0])), (2, some (v2, .box 79 [.rd R_value_number a1]))] aa ww) ?_ (fun s3 => ?_)
  · skip
    refine gReg <| R rfl (faB 1 rfl rfl Tryd.underlying79 rfl (by exact ti4)) <| R rfl (ld 1 rfl rfl ((Foc.here).part (pt_value_number_end_ _)) ty4 rfl) <| R rfl (mv rfl) <| lSplit 9 rfl (fun h4 => ?_) (fun h4 => ?_)
    · skip
      refine lKn 8 rfl h4 <| lSkip (gd rfl rfl rfl rfl) rfl rfl <| lSkip (gd rfl rfl rfl rfl) rfl rfl <| R rfl (pkT rfl rfl) <| R rfl (asg rfl) <| gNil <| eMid (fun aa ww h => h.sub [1, 2] (sS rfl <| sS rfl <| sS rfl <| sN) (rR rfl rfl <| rR rfl rfl <| rN))
    · skip
      refine lKn 8 rfl h4 <| lRun (gd rfl rfl rfl rfl) rfl rfl (faB 2 rfl rfl Tryd.underlying79 rfl (by exact ti4)) <| lRun (gd rfl rfl rfl rfl) rfl rfl (ld 2 rfl rfl ((Foc.here).part (pt_value_number_end_ _)) ty4 rfl) <| R rfl (pkF rfl rfl) <| R rfl (asg rfl) <| gNil <| eMid (fun aa ww h => h.sub [1, 2] (sS rfl <| sS rfl <| sS rfl <| sN) (rR rfl rfl <| rR rfl rfl <| rN))
  · skip
    refine gIf rfl rfl (fun h5 => ?_) (fun h5 => ?_)
    · skip
      refine gSeq <| gRegH [] mixed rfl rfl <| hTake 0 rfl (by kernel_rfl) (by kernel_rfl) (by kernel_rfl) (gd0 rfl) rfl rfl (faB 1 rfl rfl Tryd.underlying79 rfl (by exact ti4)) <| hTake 1 rfl (by kernel_rfl) (by kernel_rfl) (by kernel_rfl) (gd0 rfl) rfl rfl (ld 1 rfl rfl ((Foc.here).part (pt_value_number_end_ _)) ty4 rfl) <| hTake 3 rfl (by kernel_rfl) (by kernel_rfl) (by kernel_rfl) (gd0 rfl) rfl rfl (faB 2 rfl rfl Tryd.underlying79 rfl (by exact ti4)) <| hTake 4 rfl (by kernel_rfl) (by kernel_rfl) (by kernel_rfl) (gd0 rfl) rfl rfl (ld 2 rfl rfl ((Foc.here).part (pt_value_number_end_ _)) ty4 rfl) <| hCallF 2 [] [] rfl (by kernel_rfl) rfl (gd0 rfl) rfl Tryd.func49 rfl rfl (value_flag_ok _) (aQ rfl <| aN) rN rfl (fun _ _ => flat_num) fun r6 n7 => hCallF 5 [] [] rfl (by kernel_rfl) rfl (gd0 rfl) rfl Tryd.func49 rfl rfl (value_flag_ok _) (aQ rfl <| aN) rN rfl (fun _ _ => flat_num) fun r8 n9 => hCallF 6 [] [] rfl (by kernel_rfl) rfl (gd0 rfl) rfl Tryd.func28 rfl rfl (cmp_Compare_int_ok _ _) (aQ rfl <| aQ rfl <| aN) rN rfl (fun _ _ => flat_num) fun r10 n11 => hTake 7 rfl (by kernel_rfl) (by kernel_rfl) (by kernel_rfl) (gd0 rfl) rfl rfl (asg rfl) <| hDone (by kernel_rfl) <| eThen <| gRet <| eBret <| eTret <| eRet [] [] rfl (eE rfl <| eN) (rN)
    · skip
      refine gMid (fun (s12 : Bool) aa ww => Sta (ctx 63 H [] w) [(2, .val (ptrTo v1 0)), (3, .val (ptrTo v2 0)), (20, .rd boolR s12)] [(1, some (v1, .box 79 [.rd R_value_number a0])), (2, some (v2, .box 79 [.rd R_value_number a1]))] aa ww) ?_ (fun s12 => ?_)
      · skip
        refine gReg <| R rfl (faB 1 rfl rfl Tryd.underlying79 rfl (by exact ti22)) <| R rfl (ld 1 rfl rfl ((Foc.here).part (pt_value_number_m _)) ty22 rfl) <| R rfl (U.eql rfl rfl) <| R rfl (mv rfl) <| lSplit 24 rfl (fun h13 => ?_) (fun h13 => ?_)
        · skip
          refine lKn 23 rfl h13 <| lSkip (gd rfl rfl rfl rfl) rfl rfl <| lSkip (gd rfl rfl rfl rfl) rfl rfl <| lSkip (gd rfl rfl rfl rfl) rfl rfl <| R rfl (pkT rfl rfl) <| R rfl (asg rfl) <| gNil <| eMid (fun aa ww h => h.sub [1, 2] (sS rfl <| sS rfl <| sS rfl <| sN) (rR rfl rfl <| rR rfl rfl <| rN))
        · skip
          refine lKn 23 rfl h13 <| lRun (gd rfl rfl rfl rfl) rfl rfl (faB 2 rfl rfl Tryd.underlying79 rfl (by exact ti22)) <| lRun (gd rfl rfl rfl rfl) rfl rfl (ld 2 rfl rfl ((Foc.here).part (pt_value_number_m _)) ty22 rfl) <| lRun (gd rfl rfl rfl rfl) rfl rfl (U.eql rfl rfl) <| R rfl (pkF rfl rfl) <| R rfl (asg rfl) <| gNil <| eMid (fun aa ww h => h.sub [1, 2] (sS rfl <| sS rfl <| sS rfl <| sN) (rR rfl rfl <| rR rfl rfl <| rN))
      · skip
        refine gIf rfl rfl (fun h14 => ?_) (fun h14 => ?_)
        · skip
          refine gSeq <| gReg <| R rfl (faB 1 rfl rfl Tryd.underlying79 rfl (by exact ti22)) <| R rfl (ld 1 rfl rfl ((Foc.here).part (pt_value_number_m _)) ty22 rfl) <| R rfl (faB 2 rfl rfl Tryd.underlying79 rfl (by exact ti22)) <| R rfl (ld 2 rfl rfl ((Foc.here).part (pt_value_number_m _)) ty22 rfl) <| call [] [] rfl Tryd.func69 rfl rfl (cmp_Compare_uint64_ok _ _) (aQ rfl <| aQ rfl <| aN) rN fun r15 n16 => R rfl (asg rfl) <| gNil <| eThen <| gRet <| eBret <| eTret <| eRet [] [] rfl (eE rfl <| eN) (rN)
        · skip
          refine gSkip <| eBlk <| eThen <| gSeq <| gSeq <| gRegH [] mixed rfl rfl <| hTake 0 rfl (by kernel_rfl) (by kernel_rfl) (by kernel_rfl) (gd0 rfl) rfl rfl (faB 1 rfl rfl Tryd.underlying79 rfl (by exact ti22)) <| hTake 1 rfl (by kernel_rfl) (by kernel_rfl) (by kernel_rfl) (gd0 rfl) rfl rfl (ld 1 rfl rfl ((Foc.here).part (pt_value_number_m _)) ty22 rfl) <| hTake 3 rfl (by kernel_rfl) (by kernel_rfl) (by kernel_rfl) (gd0 rfl) rfl rfl (faB 1 rfl rfl Tryd.underlying79 rfl (by exact ti3)) <| hTake 4 rfl (by kernel_rfl) (by kernel_rfl) (by kernel_rfl) (gd0 rfl) rfl rfl (ld 1 rfl rfl ((Foc.here).part (pt_value_number_e _)) ty3 rfl) <| hTake 6 rfl (by kernel_rfl) (by kernel_rfl) (by kernel_rfl) (gd0 rfl) rfl rfl (faB 2 rfl rfl Tryd.underlying79 rfl (by exact ti22)) <| hTake 7 rfl (by kernel_rfl) (by kernel_rfl) (by kernel_rfl) (gd0 rfl) rfl rfl (ld 2 rfl rfl ((Foc.here).part (pt_value_number_m _)) ty22 rfl) <| hTake 9 rfl (by kernel_rfl) (by kernel_rfl) (by kernel_rfl) (gd0 rfl) rfl rfl (faB 2 rfl rfl Tryd.underlying79 rfl (by exact ti3)) <| hTake 10 rfl (by kernel_rfl) (by kernel_rfl) (by kernel_rfl) (gd0 rfl) rfl rfl (ld 2 rfl rfl ((Foc.here).part (pt_value_number_e _)) ty3 rfl) <| hCallF 2 [] [] rfl (by kernel_rfl) rfl (gd0 rfl) rfl Tryd.func70 rfl rfl (math_bits_Len64_ok _) (aQ rfl <| aN) rN rfl (fun _ _ => flat_num) fun r17 n18 => hTake 5 rfl (by kernel_rfl) (by kernel_rfl) (by kernel_rfl) (gd0 rfl) rfl rfl (I.add rfl rfl) <| hCallF 8 [] [] rfl (by kernel_rfl) rfl (gd0 rfl) rfl Tryd.func70 rfl rfl (math_bits_Len64_ok _) (aQ rfl <| aN) rN rfl (fun _ _ => flat_num) fun r19 n20 => hTake 11 rfl (by kernel_rfl) (by kernel_rfl) (by kernel_rfl) (gd0 rfl) rfl rfl (I.add rfl rfl) <| hCallF 12 [] [] rfl (by kernel_rfl) rfl (gd0 rfl) rfl Tryd.func28 rfl rfl (cmp_Compare_int_ok _ _) (aQ rfl <| aQ rfl <| aN) rN rfl (fun _ _ => flat_num) fun r21 n22 => hTake 13 rfl (by kernel_rfl) (by kernel_rfl) (by kernel_rfl) (gd0 rfl) rfl rfl (asg rfl) <| hDone (by kernel_rfl) <| eThen <| gSeq <| gReg <| R rfl (mv rfl) <| R rfl (I.neq rfl rfl) <| gNil <| eThen <| gIf rfl rfl (fun h23 => ?_) (fun h23 => ?_)
          · skip
            refine gSeq <| gReg <| R rfl (mv rfl) <| R rfl (asg rfl) <| gNil <| eThen <| gRet <| eTret <| eRet [] [] rfl (eE rfl <| eN) (rN)
          · skip
            refine gSkip <| eThen <| gSeq <| gRegH [] mixed rfl rfl <| hTake 0 rfl (by kernel_rfl) (by kernel_rfl) (by kernel_rfl) (gd0 rfl) rfl rfl (faB 1 rfl rfl Tryd.underlying79 rfl (by exact ti22)) <| hTake 1 rfl (by kernel_rfl) (by kernel_rfl) (by kernel_rfl) (gd0 rfl) rfl rfl (ld 1 rfl rfl ((Foc.here).part (pt_value_number_m _)) ty22 rfl) <| hTake 2 rfl (by kernel_rfl) (by kernel_rfl) (by kernel_rfl) (gd0 rfl) rfl rfl (faB 1 rfl rfl Tryd.underlying79 rfl (by exact ti22)) <| hTake 3 rfl (by kernel_rfl) (by kernel_rfl) (by kernel_rfl) (gd0 rfl) rfl rfl (ld 1 rfl rfl ((Foc.here).part (pt_value_number_m _)) ty22 rfl) <| hTake 6 rfl (by kernel_rfl) (by kernel_rfl) (by kernel_rfl) (gd0 rfl) rfl rfl (faB 2 rfl rfl Tryd.underlying79 rfl (by exact ti22)) <| hTake 7 rfl (by kernel_rfl) (by kernel_rfl) (by kernel_rfl) (gd0 rfl) rfl rfl (ld 2 rfl rfl ((Foc.here).part (pt_value_number_m _)) ty22 rfl) <| hTake 8 rfl (by kernel_rfl) (by kernel_rfl) (by kernel_rfl) (gd0 rfl) rfl rfl (faB 2 rfl rfl Tryd.underlying79 rfl (by exact ti22)) <| hTake 9 rfl (by kernel_rfl) (by kernel_rfl) (by kernel_rfl) (gd0 rfl) rfl rfl (ld 2 rfl rfl ((Foc.here).part (pt_value_number_m _)) ty22 rfl) <| hCallF 4 [] [] rfl (by kernel_rfl) rfl (gd0 rfl) rfl Tryd.func71 rfl rfl (math_bits_LeadingZeros64_ok _) (aQ rfl <| aN) rN rfl (fun _ _ => flat_num) fun r24 n25 => hBind fun u26 h27 => hTake 5 rfl (by kernel_rfl) (by kernel_rfl) (by kernel_rfl) (gd0 rfl) rfl rfl (U.shl rfl rfl (chk_some h27)) <| hCallF 10 [] [] rfl (by kernel_rfl) rfl (gd0 rfl) rfl Tryd.func71 rfl rfl (math_bits_LeadingZeros64_ok _) (aQ rfl <| aN) rN rfl (fun _ _ => flat_num) fun r28 n29 => hBind fun u30 h31 => hTake 11 rfl (by kernel_rfl) (by kernel_rfl) (by kernel_rfl) (gd0 rfl) rfl rfl (U.shl rfl rfl (chk_some h31)) <| hCallF 12 [] [] rfl (by kernel_rfl) rfl (gd0 rfl) rfl Tryd.func69 rfl rfl (cmp_Compare_uint64_ok _ _) (aQ rfl <| aQ rfl <| aN) rN rfl (fun _ _ => flat_num) fun r32 n33 => hTake 13 rfl (by kernel_rfl) (by kernel_rfl) (by kernel_rfl) (gd0 rfl) rfl rfl (asg rfl) <| hDone (by kernel_rfl) <| eThen <| gRet <| eRet [] [] rfl (eE rfl <| eN) (rN)


def value_numbers_2 (a0 : value_number) : Option (Int) :=
  value_numbers_1 a0 >>= fun r2 =>
  if r2 then
    some 0
  else
    value_flag a0.neg >>= fun r5 =>
    some (w64 (1 - (w64 (2 * r5)))) >>= fun y7 =>
    some y7
set_option maxRecDepth 100000 in
theorem value_numbers_2_ok (a0 : value_number) (p1_0 : Value) : Spec Tryd.prog 48 [.rd R_value_number a0, .val (ptrTo p1_0 0)] [(1, some (p1_0, .box 81 [.val (.func (.func 47) #[] #[])]))] (value_numbers_2 a0) (fun r nv => ⟨[.rd i64R r], [(1, some (p1_0, .box 81 [.val (.func (.func 47) #[] #[])]))]⟩) := by
  refine spec 12 Tryd.func48 rfl rfl rfl fun H w => ?_
  refine gSeq <| gReg <| Eb rfl (bx 2 rfl) fun v1 => R rfl (asg rfl) <| gNil <| eThen <| gSeq <| gSeq <| gReg <| R rfl (ldV 1 rfl rfl .here sc81 rfl) <| R rfl (ld 2 rfl rfl Foc.here ty79 rfl) <| callv [] [] (gd0 rfl) rfl rfl Tryd.func47 rfl rfl (value_numbers_1_ok _) (aQ rfl <| aN) (cN) rN fun r2 n3 => gNil <| eThen <| gIf rfl rfl (fun h4 => ?_) (fun h4 => ?_)
  · skip
    refine gSeq <| gReg <| R rfl (asg rfl) <| gNil <| eThen <| gRet <| eTret <| eRet [] [1] rfl (eE rfl <| eN) (rR rfl rfl <| rN)
  · skip
    refine gSkip <| eThen <| gSeq <| gReg <| R rfl (faB 2 rfl rfl Tryd.underlying79 rfl (by exact ti4)) <| R rfl (ld 2 rfl rfl ((Foc.here).part (pt_value_number_neg _)) ty4 rfl) <| call [] [] rfl Tryd.func49 rfl rfl (value_flag_ok _) (aQ rfl <| aN) rN fun r5 n6 => R rfl (I.mul rfl rfl) <| R rfl (I.sub rfl rfl) <| R rfl (asg rfl) <| lName 3 rfl fun y7 => gNil <| eThen <| gRet <| eRet [] [1] rfl (eE rfl <| eN) (rR rfl rfl <| rN)


def value_numbers_3 (a0 : api_Value) (a1 : value_number) : Option (Int) :=
  if a0.Kind == 1 then
    some 1
  else
    value_numbers_1 a1 >>= fun r4 =>
    if r4 then
      value_flag a1.neg >>= fun r7 =>
      some (w64 (2 - (w64 (2 * r7)))) >>= fun y9 =>
      some y9
    else
      value_flag false >>= fun r10 =>
      some (w64 (2 - (w64 (2 * r10)))) >>= fun y12 =>
      some y12
set_option maxRecDepth 100000 in
theorem value_numbers_3_ok (a0 : api_Value) (a1 : value_number) (p2_0 : Value) : Spec Tryd.prog 51 [.rd R_api_Value a0, .rd R_value_number a1, .val (ptrTo p2_0 0)] [(1, some (p2_0, .box 81 [.val (.func (.func 47) #[] #[])]))] (value_numbers_3 a0 a1) (fun r nv => ⟨[.rd i64R r], [(1, some (p2_0, .box 81 [.val (.func (.func 47) #[] #[])]))]⟩) := by
  refine spec 19 Tryd.func51 rfl rfl rfl fun H w => ?_
  refine gSeq <| gReg <| Eb rfl (bx 2 rfl) fun v1 => Eb rfl (bx 3 rfl) fun v2 => R rfl (asg rfl) <| gNil <| eThen <| gSeq <| gSeq <| gReg <| R rfl (faB 2 rfl rfl Tryd.underlying24 rfl (by exact ti5)) <| R rfl (ld 2 rfl rfl ((Foc.here).part (pt_api_Value_Kind _)) ty5 rfl) <| R rfl (B.eql rfl rfl) <| gNil <| eThen <| gIf rfl rfl (fun h3 => ?_) (fun h3 => ?_)
  · skip
    refine gSeq <| gReg <| R rfl (asg rfl) <| gNil <| eThen <| gRet <| eTret <| eRet [] [1] rfl (eE rfl <| eN) (rR rfl rfl <| rN)
  · skip
    refine gSkip <| eThen <| gSeq <| gReg <| R rfl (ldV 1 rfl rfl .here sc81 rfl) <| R rfl (ld 3 rfl rfl Foc.here ty79 rfl) <| callv [] [] (gd0 rfl) rfl rfl Tryd.func47 rfl rfl (value_numbers_1_ok _) (aQ rfl <| aN) (cN) rN fun r4 n5 => R rfl (mv rfl) <| lSplit 12 rfl (fun h6 => ?_) (fun h6 => ?_)
    · skip
      refine lKn 11 rfl h6 <| lRun (gd rfl rfl rfl rfl) rfl rfl (faB 3 rfl rfl Tryd.underlying79 rfl (by exact ti4)) <| lRun (gd rfl rfl rfl rfl) rfl rfl (ld 3 rfl rfl ((Foc.here).part (pt_value_number_neg _)) ty4 rfl) <| R rfl (pkT rfl rfl) <| call [] [] rfl Tryd.func49 rfl rfl (value_flag_ok _) (aQ rfl <| aN) rN fun r7 n8 => R rfl (I.mul rfl rfl) <| R rfl (I.sub rfl rfl) <| R rfl (asg rfl) <| lName 5 rfl fun y9 => gNil <| eThen <| gRet <| eRet [] [1] rfl (eE rfl <| eN) (rR rfl rfl <| rN)
    · skip
      refine lKn 11 rfl h6 <| lSkip (gd rfl rfl rfl rfl) rfl rfl <| lSkip (gd rfl rfl rfl rfl) rfl rfl <| R rfl (pkF rfl rfl) <| call [] [] rfl Tryd.func49 rfl rfl (value_flag_ok _) (aQ rfl <| aN) rN fun r10 n11 => R rfl (I.mul rfl rfl) <| R rfl (I.sub rfl rfl) <| R rfl (asg rfl) <| lName 5 rfl fun y12 => gNil <| eThen <| gRet <| eRet [] [1] rfl (eE rfl <| eN) (rR rfl rfl <| rN)


def value_numbers (a0 : api_Value) (a1 : api_Value) : Option (Int) :=
  (value_of a0 >>= fun r4 =>
  value_of a1 >>= fun r6 =>
  some (r4, r6)) >>= fun s3 =>
  value_numbers_2 s3.1 >>= fun r56 =>
  value_numbers_2 s3.2 >>= fun r58 =>
  cmp_Compare_int r56 r58 >>= fun r60 =>
  if r60 != 0 then
    some r60
  else
    value_larger s3.1 s3.2 >>= fun r63 =>
    if r63 != 0 then
      value_numbers_2 s3.1 >>= fun r66 =>
      some (w64 (r66 * r63)) >>= fun y68 =>
      some y68
    else
      value_numbers_3 a0 s3.1 >>= fun r69 =>
      value_numbers_3 a1 s3.2 >>= fun r71 =>
      cmp_Compare_int r69 r71 >>= fun r73 =>
      some r73
set_option maxRecDepth 100000 in
theorem value_numbers_ok (a0 : api_Value) (a1 : api_Value) : Spec Tryd.prog 30 [.rd R_api_Value a0, .rd R_api_Value a1] [(1001, some ((.bool true), .glob 1 (arrR 64 u8R) gtab1))] (value_numbers a0 a1) (fun r nv => ⟨[.rd i64R r], [(1001, some (.bool true, .glob 1 (arrR 64 u8R) gtab1))]⟩) := by
  refine spec 47 Tryd.func30 rfl rfl rfl fun H w => ?_
  refine gSeq <| gReg <| Eb rfl (bx 1 rfl) fun v1 => Eb rfl (bx 2 rfl) fun v2 => R rfl (asg rfl) <| gNil <| eThen <| gMid (fun (s3 : value_number × value_number) aa ww => ∃ nv : Nat → Value, Sta (ctx 47 H [(1001, some ((.bool true), .glob 1 (arrR 64 u8R) gtab1))] w) [(2, .val (ptrTo v1 0)), (3, .val (ptrTo v2 0)), (5, .val (ptrTo (nv 0) 0)), (6, .val (ptrTo (nv 1) 0))] [(1, some (v1, .box 24 [.rd R_api_Value a0])), (2, some (v2, .box 24 [.rd R_api_Value a1])), (15, some ((nv 0), .box 79 [.rd R_value_number s3.1])), (18, some ((nv 1), .box 79 [.rd R_value_number s3.2])), (1001, some ((.bool true), .glob 1 (arrR 64 u8R) gtab1))] aa ww) ?_ (fun s3 => ?_)
  · skip
    refine gRegH [1001, 1014, 1017] mixed rfl rfl <| hTake 0 rfl (by kernel_rfl) (by kernel_rfl) (by kernel_rfl) (gd0 rfl) rfl rfl (ld 1 rfl rfl Foc.here ty24 rfl) <| hTake 2 rfl (by kernel_rfl) (by kernel_rfl) (by kernel_rfl) (gd0 rfl) rfl rfl (ld 2 rfl rfl Foc.here ty24 rfl) <| hAlt [1, 4, 5] (by kernel_rfl) rfl ⟨?_, ?_, ?_, trivial⟩
    · skip
      refine oCallJ 1 [1001] [] rfl rfl (gd0 rfl) rfl Tryd.func46 rfl rfl (value_of_ok _) (aQ rfl <| aN) (rR rfl rfl <| rN) rfl fun r4 n5 => hAlt [3, 4, 5] (by kernel_rfl) rfl ⟨?_, ?_, ?_, trivial⟩
      · skip
        refine oCallJ 3 [1001] [] rfl rfl (gd0 rfl) rfl Tryd.func46 rfl rfl (value_of_ok _) (aQ rfl <| aN) (rR rfl rfl <| rN) rfl fun r6 n7 => hAlt [4, 5] (by kernel_rfl) rfl ⟨?_, ?_, trivial⟩
        · skip
          refine oDoB 4 rfl (gd0 rfl) rfl rfl rfl (allc 1014 ti79 (.zr zr79)) fun v8 => hDoB 5 rfl (by kernel_rfl) (gd0 rfl) rfl rfl rfl (allc 1017 ti79 (.zr zr79)) fun v9 => hDoS 6 rfl (by kernel_rfl) (gd0 rfl) rfl rfl rfl rfl (sto 1014 rfl rfl Foc.here rfl ti79) <| hDoS 7 rfl (by kernel_rfl) (gd0 rfl) rfl rfl rfl rfl (sto 1017 rfl rfl Foc.here rfl ti79) <| hDone (by kernel_rfl) <| eMid (fun aa ww h => ⟨nvl [v8, v9], h.sub [1, 2, 1014, 1017, 1001] (sS rfl <| sS rfl <| sS rfl <| sS rfl <| sN) (rR rfl rfl <| rR rfl rfl <| rR rfl rfl <| rR rfl rfl <| rR rfl rfl <| rN)⟩)
        · skip
          refine oDoB 5 rfl (gd0 rfl) rfl rfl rfl (allc 1017 ti79 (.zr zr79)) fun v10 => hDoB 4 rfl (by kernel_rfl) (gd0 rfl) rfl rfl rfl (allc 1014 ti79 (.zr zr79)) fun v11 => hDoS 6 rfl (by kernel_rfl) (gd0 rfl) rfl rfl rfl rfl (sto 1014 rfl rfl Foc.here rfl ti79) <| hDoS 7 rfl (by kernel_rfl) (gd0 rfl) rfl rfl rfl rfl (sto 1017 rfl rfl Foc.here rfl ti79) <| hDone (by kernel_rfl) <| eMid (fun aa ww h => ⟨nvl [v11, v10], h.sub [1, 2, 1014, 1017, 1001] (sS rfl <| sS rfl <| sS rfl <| sS rfl <| sN) (rR rfl rfl <| rR rfl rfl <| rR rfl rfl <| rR rfl rfl <| rR rfl rfl <| rN)⟩)
      · skip
        refine oDoB 4 rfl (gd0 rfl) rfl rfl rfl (allc 1014 ti79 (.zr zr79)) fun v12 => hAlt [3, 5] (by kernel_rfl) rfl ⟨?_, ?_, trivial⟩
        · skip
          refine oCallJ 3 [1001] [] rfl rfl (gd0 rfl) rfl Tryd.func46 rfl rfl (value_of_ok _) (aQ rfl <| aN) (rR rfl rfl <| rN) rfl fun r13 n14 => hDoB 5 rfl (by kernel_rfl) (gd0 rfl) rfl rfl rfl (allc 1017 ti79 (.zr zr79)) fun v15 => hDoS 6 rfl (by kernel_rfl) (gd0 rfl) rfl rfl rfl rfl (sto 1014 rfl rfl Foc.here rfl ti79) <| hDoS 7 rfl (by kernel_rfl) (gd0 rfl) rfl rfl rfl rfl (sto 1017 rfl rfl Foc.here rfl ti79) <| hDone (by kernel_rfl) <| eMid (fun aa ww h => ⟨nvl [v12, v15], h.sub [1, 2, 1014, 1017, 1001] (sS rfl <| sS rfl <| sS rfl <| sS rfl <| sN) (rR rfl rfl <| rR rfl rfl <| rR rfl rfl <| rR rfl rfl <| rR rfl rfl <| rN)⟩)
        · skip
          refine oDoB 5 rfl (gd0 rfl) rfl rfl rfl (allc 1017 ti79 (.zr zr79)) fun v16 => hCallJ 3 [1001] [] rfl (by kernel_rfl) rfl (gd0 rfl) rfl Tryd.func46 rfl rfl (value_of_ok _) (aQ rfl <| aN) (rR rfl rfl <| rN) rfl fun r17 n18 => hDoS 6 rfl (by kernel_rfl) (gd0 rfl) rfl rfl rfl rfl (sto 1014 rfl rfl Foc.here rfl ti79) <| hDoS 7 rfl (by kernel_rfl) (gd0 rfl) rfl rfl rfl rfl (sto 1017 rfl rfl Foc.here rfl ti79) <| hDone (by kernel_rfl) <| eMid (fun aa ww h => ⟨nvl [v12, v16], h.sub [1, 2, 1014, 1017, 1001] (sS rfl <| sS rfl <| sS rfl <| sS rfl <| sN) (rR rfl rfl <| rR rfl rfl <| rR rfl rfl <| rR rfl rfl <| rR rfl rfl <| rN)⟩)
      · skip
        refine oDoB 5 rfl (gd0 rfl) rfl rfl rfl (allc 1017 ti79 (.zr zr79)) fun v19 => hAlt [3, 4] (by kernel_rfl) rfl ⟨?_, ?_, trivial⟩
        · skip
          refine oCallJ 3 [1001] [] rfl rfl (gd0 rfl) rfl Tryd.func46 rfl rfl (value_of_ok _) (aQ rfl <| aN) (rR rfl rfl <| rN) rfl fun r20 n21 => hDoB 4 rfl (by kernel_rfl) (gd0 rfl) rfl rfl rfl (allc 1014 ti79 (.zr zr79)) fun v22 => hDoS 6 rfl (by kernel_rfl) (gd0 rfl) rfl rfl rfl rfl (sto 1014 rfl rfl Foc.here rfl ti79) <| hDoS 7 rfl (by kernel_rfl) (gd0 rfl) rfl rfl rfl rfl (sto 1017 rfl rfl Foc.here rfl ti79) <| hDone (by kernel_rfl) <| eMid (fun aa ww h => ⟨nvl [v22, v19], h.sub [1, 2, 1014, 1017, 1001] (sS rfl <| sS rfl <| sS rfl <| sS rfl <| sN) (rR rfl rfl <| rR rfl rfl <| rR rfl rfl <| rR rfl rfl <| rR rfl rfl <| rN)⟩)
        · skip
          refine oDoB 4 rfl (gd0 rfl) rfl rfl rfl (allc 1014 ti79 (.zr zr79)) fun v23 => hCallJ 3 [1001] [] rfl (by kernel_rfl) rfl (gd0 rfl) rfl Tryd.func46 rfl rfl (value_of_ok _) (aQ rfl <| aN) (rR rfl rfl <| rN) rfl fun r24 n25 => hDoS 6 rfl (by kernel_rfl) (gd0 rfl) rfl rfl rfl rfl (sto 1014 rfl rfl Foc.here rfl ti79) <| hDoS 7 rfl (by kernel_rfl) (gd0 rfl) rfl rfl rfl rfl (sto 1017 rfl rfl Foc.here rfl ti79) <| hDone (by kernel_rfl) <| eMid (fun aa ww h => ⟨nvl [v23, v19], h.sub [1, 2, 1014, 1017, 1001] (sS rfl <| sS rfl <| sS rfl <| sS rfl <| sN) (rR rfl rfl <| rR rfl rfl <| rR rfl rfl <| rR rfl rfl <| rR rfl rfl <| rN)⟩)
    · skip
      refine oDoB 4 rfl (gd0 rfl) rfl rfl rfl (allc 1014 ti79 (.zr zr79)) fun v26 => hAlt [1, 5] (by kernel_rfl) rfl ⟨?_, ?_, trivial⟩
      · skip
        refine oCallJ 1 [1001] [] rfl rfl (gd0 rfl) rfl Tryd.func46 rfl rfl (value_of_ok _) (aQ rfl <| aN) (rR rfl rfl <| rN) rfl fun r27 n28 => hAlt [3, 5] (by kernel_rfl) rfl ⟨?_, ?_, trivial⟩
        · skip
          refine oCallJ 3 [1001] [] rfl rfl (gd0 rfl) rfl Tryd.func46 rfl rfl (value_of_ok _) (aQ rfl <| aN) (rR rfl rfl <| rN) rfl fun r29 n30 => hDoB 5 rfl (by kernel_rfl) (gd0 rfl) rfl rfl rfl (allc 1017 ti79 (.zr zr79)) fun v31 => hDoS 6 rfl (by kernel_rfl) (gd0 rfl) rfl rfl rfl rfl (sto 1014 rfl rfl Foc.here rfl ti79) <| hDoS 7 rfl (by kernel_rfl) (gd0 rfl) rfl rfl rfl rfl (sto 1017 rfl rfl Foc.here rfl ti79) <| hDone (by kernel_rfl) <| eMid (fun aa ww h => ⟨nvl [v26, v31], h.sub [1, 2, 1014, 1017, 1001] (sS rfl <| sS rfl <| sS rfl <| sS rfl <| sN) (rR rfl rfl <| rR rfl rfl <| rR rfl rfl <| rR rfl rfl <| rR rfl rfl <| rN)⟩)
        · skip
          refine oDoB 5 rfl (gd0 rfl) rfl rfl rfl (allc 1017 ti79 (.zr zr79)) fun v32 => hCallJ 3 [1001] [] rfl (by kernel_rfl) rfl (gd0 rfl) rfl Tryd.func46 rfl rfl (value_of_ok _) (aQ rfl <| aN) (rR rfl rfl <| rN) rfl fun r33 n34 => hDoS 6 rfl (by kernel_rfl) (gd0 rfl) rfl rfl rfl rfl (sto 1014 rfl rfl Foc.here rfl ti79) <| hDoS 7 rfl (by kernel_rfl) (gd0 rfl) rfl rfl rfl rfl (sto 1017 rfl rfl Foc.here rfl ti79) <| hDone (by kernel_rfl) <| eMid (fun aa ww h => ⟨nvl [v26, v32], h.sub [1, 2, 1014, 1017, 1001] (sS rfl <| sS rfl <| sS rfl <| sS rfl <| sN) (rR rfl rfl <| rR rfl rfl <| rR rfl rfl <| rR rfl rfl <| rR rfl rfl <| rN)⟩)
      · skip
        refine oDoB 5 rfl (gd0 rfl) rfl rfl rfl (allc 1017 ti79 (.zr zr79)) fun v35 => hCallJ 1 [1001] [] rfl (by kernel_rfl) rfl (gd0 rfl) rfl Tryd.func46 rfl rfl (value_of_ok _) (aQ rfl <| aN) (rR rfl rfl <| rN) rfl fun r36 n37 => hCallJ 3 [1001] [] rfl (by kernel_rfl) rfl (gd0 rfl) rfl Tryd.func46 rfl rfl (value_of_ok _) (aQ rfl <| aN) (rR rfl rfl <| rN) rfl fun r38 n39 => hDoS 6 rfl (by kernel_rfl) (gd0 rfl) rfl rfl rfl rfl (sto 1014 rfl rfl Foc.here rfl ti79) <| hDoS 7 rfl (by kernel_rfl) (gd0 rfl) rfl rfl rfl rfl (sto 1017 rfl rfl Foc.here rfl ti79) <| hDone (by kernel_rfl) <| eMid (fun aa ww h => ⟨nvl [v26, v35], h.sub [1, 2, 1014, 1017, 1001] (sS rfl <| sS rfl <| sS rfl <| sS rfl <| sN) (rR rfl rfl <| rR rfl rfl <| rR rfl rfl <| rR rfl rfl <| rR rfl rfl <| rN)⟩)
    · skip
      refine oDoB 5 rfl (gd0 rfl) rfl rfl rfl (allc 1017 ti79 (.zr zr79)) fun v40 => hAlt [1, 4] (by kernel_rfl) rfl ⟨?_, ?_, trivial⟩
      · skip
        refine oCallJ 1 [1001] [] rfl rfl (gd0 rfl) rfl Tryd.func46 rfl rfl (value_of_ok _) (aQ rfl <| aN) (rR rfl rfl <| rN) rfl fun r41 n42 => hAlt [3, 4] (by kernel_rfl) rfl ⟨?_, ?_, trivial⟩
        · skip
          refine oCallJ 3 [1001] [] rfl rfl (gd0 rfl) rfl Tryd.func46 rfl rfl (value_of_ok _) (aQ rfl <| aN) (rR rfl rfl <| rN) rfl fun r43 n44 => hDoB 4 rfl (by kernel_rfl) (gd0 rfl) rfl rfl rfl (allc 1014 ti79 (.zr zr79)) fun v45 => hDoS 6 rfl (by kernel_rfl) (gd0 rfl) rfl rfl rfl rfl (sto 1014 rfl rfl Foc.here rfl ti79) <| hDoS 7 rfl (by kernel_rfl) (gd0 rfl) rfl rfl rfl rfl (sto 1017 rfl rfl Foc.here rfl ti79) <| hDone (by kernel_rfl) <| eMid (fun aa ww h => ⟨nvl [v45, v40], h.sub [1, 2, 1014, 1017, 1001] (sS rfl <| sS rfl <| sS rfl <| sS rfl <| sN) (rR rfl rfl <| rR rfl rfl <| rR rfl rfl <| rR rfl rfl <| rR rfl rfl <| rN)⟩)
        · skip
          refine oDoB 4 rfl (gd0 rfl) rfl rfl rfl (allc 1014 ti79 (.zr zr79)) fun v46 => hCallJ 3 [1001] [] rfl (by kernel_rfl) rfl (gd0 rfl) rfl Tryd.func46 rfl rfl (value_of_ok _) (aQ rfl <| aN) (rR rfl rfl <| rN) rfl fun r47 n48 => hDoS 6 rfl (by kernel_rfl) (gd0 rfl) rfl rfl rfl rfl (sto 1014 rfl rfl Foc.here rfl ti79) <| hDoS 7 rfl (by kernel_rfl) (gd0 rfl) rfl rfl rfl rfl (sto 1017 rfl rfl Foc.here rfl ti79) <| hDone (by kernel_rfl) <| eMid (fun aa ww h => ⟨nvl [v46, v40], h.sub [1, 2, 1014, 1017, 1001] (sS rfl <| sS rfl <| sS rfl <| sS rfl <| sN) (rR rfl rfl <| rR rfl rfl <| rR rfl rfl <| rR rfl rfl <| rR rfl rfl <| rN)⟩)
      · skip
        refine oDoB 4 rfl (gd0 rfl) rfl rfl rfl (allc 1014 ti79 (.zr zr79)) fun v49 => hCallJ 1 [1001] [] rfl (by kernel_rfl) rfl (gd0 rfl) rfl Tryd.func46 rfl rfl (value_of_ok _) (aQ rfl <| aN) (rR rfl rfl <| rN) rfl fun r50 n51 => hCallJ 3 [1001] [] rfl (by kernel_rfl) rfl (gd0 rfl) rfl Tryd.func46 rfl rfl (value_of_ok _) (aQ rfl <| aN) (rR rfl rfl <| rN) rfl fun r52 n53 => hDoS 6 rfl (by kernel_rfl) (gd0 rfl) rfl rfl rfl rfl (sto 1014 rfl rfl Foc.here rfl ti79) <| hDoS 7 rfl (by kernel_rfl) (gd0 rfl) rfl rfl rfl rfl (sto 1017 rfl rfl Foc.here rfl ti79) <| hDone (by kernel_rfl) <| eMid (fun aa ww h => ⟨nvl [v49, v40], h.sub [1, 2, 1014, 1017, 1001] (sS rfl <| sS rfl <| sS rfl <| sS rfl <| sN) (rR rfl rfl <| rR rfl rfl <| rR rfl rfl <| rR rfl rfl <| rR rfl rfl <| rN)⟩)
  · skip
    refine gEx fun n54 => gSeq <| gReg <| Eb rfl (allc 1029 ti81 (.val rfl)) fun v55 => Es (stoE 1029 rfl rfl (.here fills_val) rfl ones_val fills_val ti81) <| gNil <| eThen <| gSeq <| gReg <| R rfl (mkf mp0 (mp1 rfl)) <| R rfl (asg rfl) <| gNil <| eThen <| gSeq <| gSeq <| gRegH [1029] mixed rfl rfl <| hTake 0 rfl (by kernel_rfl) (by kernel_rfl) (by kernel_rfl) (gd0 rfl) rfl rfl (mv rfl) <| hTake 1 rfl (by kernel_rfl) (by kernel_rfl) (by kernel_rfl) (gd0 rfl) rfl rfl (ld 15 rfl rfl Foc.here ty79 rfl) <| hTake 3 rfl (by kernel_rfl) (by kernel_rfl) (by kernel_rfl) (gd0 rfl) rfl rfl (mv rfl) <| hTake 4 rfl (by kernel_rfl) (by kernel_rfl) (by kernel_rfl) (gd0 rfl) rfl rfl (ld 18 rfl rfl Foc.here ty79 rfl) <| hCallVF 2 [1029] [(1, 1029)] rfl (by kernel_rfl) rfl (gd0 rfl) rfl Tryd.func48 rfl rfl rfl (value_numbers_2_ok _ _) (aQ rfl <| aN) (cQ 1029 rfl <| cN) rfl (rR rfl rfl <| rN) rfl (fun _ _ => flat_num) fun r56 n57 => hCallVF 5 [1029] [(1, 1029)] rfl (by kernel_rfl) rfl (gd0 rfl) rfl Tryd.func48 rfl rfl rfl (value_numbers_2_ok _ _) (aQ rfl <| aN) (cQ 1029 rfl <| cN) rfl (rR rfl rfl <| rN) rfl (fun _ _ => flat_num) fun r58 n59 => hCallF 6 [] [] rfl (by kernel_rfl) rfl (gd0 rfl) rfl Tryd.func28 rfl rfl (cmp_Compare_int_ok _ _) (aQ rfl <| aQ rfl <| aN) rN rfl (fun _ _ => flat_num) fun r60 n61 => hTake 7 rfl (by kernel_rfl) (by kernel_rfl) (by kernel_rfl) (gd0 rfl) rfl rfl (asg rfl) <| hDone (by kernel_rfl) <| eThen <| gSeq <| gReg <| R rfl (mv rfl) <| R rfl (I.neq rfl rfl) <| gNil <| eThen <| gIf rfl rfl (fun h62 => ?_) (fun h62 => ?_)
    · skip
      refine gSeq <| gReg <| R rfl (mv rfl) <| R rfl (asg rfl) <| gNil <| eThen <| gRet <| eTret <| eRet [] [1001] rfl (eE rfl <| eN) (rR rfl rfl <| rN)
    · skip
      refine gSkip <| eThen <| gSeq <| gSeq <| gReg <| R rfl (ld 15 rfl rfl Foc.here ty79 rfl) <| R rfl (ld 18 rfl rfl Foc.here ty79 rfl) <| call [] [] rfl Tryd.func50 rfl rfl (value_larger_ok _ _) (aQ rfl <| aQ rfl <| aN) rN fun r63 n64 => R rfl (asg rfl) <| gNil <| eThen <| gSeq <| gReg <| R rfl (mv rfl) <| R rfl (I.neq rfl rfl) <| gNil <| eThen <| gIf rfl rfl (fun h65 => ?_) (fun h65 => ?_)
      · skip
        refine gSeq <| gReg <| R rfl (mv rfl) <| R rfl (ld 15 rfl rfl Foc.here ty79 rfl) <| callv [1029] [(1, 1029)] (gd0 rfl) rfl rfl Tryd.func48 rfl rfl (value_numbers_2_ok _ _) (aQ rfl <| aN) (cQ 1029 rfl <| cN) (rR rfl rfl <| rN) fun r66 n67 => R rfl (mv rfl) <| R rfl (I.mul rfl rfl) <| R rfl (asg rfl) <| lName 4 rfl fun y68 => gNil <| eThen <| gRet <| eTret <| eRet [] [1001] rfl (eE rfl <| eN) (rR rfl rfl <| rN)
      · skip
        refine gSkip <| eThen <| gSeq <| gReg <| R rfl (mkf mp0 (mp1 rfl)) <| R rfl (asg rfl) <| gNil <| eThen <| gSeq <| gRegH [1029] mixed rfl rfl <| hTake 0 rfl (by kernel_rfl) (by kernel_rfl) (by kernel_rfl) (gd0 rfl) rfl rfl (mv rfl) <| hTake 1 rfl (by kernel_rfl) (by kernel_rfl) (by kernel_rfl) (gd0 rfl) rfl rfl (ld 1 rfl rfl Foc.here ty24 rfl) <| hTake 2 rfl (by kernel_rfl) (by kernel_rfl) (by kernel_rfl) (gd0 rfl) rfl rfl (ld 15 rfl rfl Foc.here ty79 rfl) <| hTake 4 rfl (by kernel_rfl) (by kernel_rfl) (by kernel_rfl) (gd0 rfl) rfl rfl (mv rfl) <| hTake 5 rfl (by kernel_rfl) (by kernel_rfl) (by kernel_rfl) (gd0 rfl) rfl rfl (ld 2 rfl rfl Foc.here ty24 rfl) <| hTake 6 rfl (by kernel_rfl) (by kernel_rfl) (by kernel_rfl) (gd0 rfl) rfl rfl (ld 18 rfl rfl Foc.here ty79 rfl) <| hCallVF 3 [1029] [(1, 1029)] rfl (by kernel_rfl) rfl (gd0 rfl) rfl Tryd.func51 rfl rfl rfl (value_numbers_3_ok _ _ _) (aQ rfl <| aQ rfl <| aN) (cQ 1029 rfl <| cN) rfl (rR rfl rfl <| rN) rfl (fun _ _ => flat_num) fun r69 n70 => hCallVF 7 [1029] [(1, 1029)] rfl (by kernel_rfl) rfl (gd0 rfl) rfl Tryd.func51 rfl rfl rfl (value_numbers_3_ok _ _ _) (aQ rfl <| aQ rfl <| aN) (cQ 1029 rfl <| cN) rfl (rR rfl rfl <| rN) rfl (fun _ _ => flat_num) fun r71 n72 => hCallF 8 [] [] rfl (by kernel_rfl) rfl (gd0 rfl) rfl Tryd.func28 rfl rfl (cmp_Compare_int_ok _ _) (aQ rfl <| aQ rfl <| aN) rN rfl (fun _ _ => flat_num) fun r73 n74 => hTake 9 rfl (by kernel_rfl) (by kernel_rfl) (by kernel_rfl) (gd0 rfl) rfl rfl (asg rfl) <| hDone (by kernel_rfl) <| eThen <| gRet <| eRet [] [1001] rfl (eE rfl <| eN) (rR rfl rfl <| rN)


def value_Cmp (a0 : api_Value) (a1 : api_Value) : Option (Int × Int) :=
  value_Check a0 >>= fun r3 =>
  if r3 != 0 then
    some (0, 8)
  else
    value_Check a1 >>= fun r6 =>
    if r6 != 0 then
      some (0, 8)
    else
      value_group a0 >>= fun r9 =>
      value_group a1 >>= fun r11 =>
      (if r9 != r11 then
        some true
      else
        some (r9 == 1)) >>= fun s13 =>
      if s13 then
        cmp_Compare_int r9 r11 >>= fun r16 =>
        some (r16, 0)
      else
        if r9 == 2 then
          strings_Compare a0.Text a1.Text >>= fun r19 =>
          some (r19, 0)
        else
          value_numbers a0 a1 >>= fun r21 =>
          some (r21, 0)
set_option maxRecDepth 100000 in
theorem value_Cmp_ok (a0 : api_Value) (a1 : api_Value) : Spec Tryd.prog 10 [.rd R_api_Value a0, .rd R_api_Value a1] [(1001, some ((.bool true), .glob 1 (arrR 64 u8R) gtab1))] (value_Cmp a0 a1) (fun r nv => ⟨[.rd i64R r.1, .rd i64R r.2], [(1001, some (.bool true, .glob 1 (arrR 64 u8R) gtab1))]⟩) := by
  refine spec 40 Tryd.func10 rfl rfl rfl fun H w => ?_
  refine gSeq <| gReg <| Eb rfl (bx 1 rfl) fun v1 => Eb rfl (bx 2 rfl) fun v2 => R rfl (asg rfl) <| R rfl (asg rfl) <| gNil <| eThen <| gSeq <| gSeq <| gReg <| R rfl (ld 1 rfl rfl Foc.here ty24 rfl) <| call [] [] rfl Tryd.func18 rfl rfl (value_Check_ok _) (aQ rfl <| aN) rN fun r3 n4 => R rfl (I.neq rfl rfl) <| R rfl (mv rfl) <| lSplit 11 rfl (fun h5 => ?_) (fun h5 => ?_)
  · skip
    refine lKn 10 rfl h5 <| lSkip (gd rfl rfl rfl rfl) rfl rfl <| lSkip (gd rfl rfl rfl rfl) rfl rfl <| lSkip (gd rfl rfl rfl rfl) rfl rfl <| R rfl (pkT rfl rfl) <| gNil <| eThen <| gTrue rfl <| gSeq <| gReg <| R rfl (asg rfl) <| R rfl (asg rfl) <| gNil <| eThen <| gRet <| eTret <| eRet [] [1001] rfl (eE rfl <| eE rfl <| eN) (rR rfl rfl <| rN)
  · skip
    refine lKn 10 rfl h5 <| lRun (gd rfl rfl rfl rfl) rfl rfl (ld 2 rfl rfl Foc.here ty24 rfl) <| callg [] [] (gd rfl rfl rfl rfl) rfl Tryd.func18 rfl rfl (value_Check_ok _) (aQ rfl <| aN) rN fun r6 n7 => lRun (gd rfl rfl rfl rfl) rfl rfl (I.neq rfl rfl) <| R rfl (pkF rfl rfl) <| gNil <| eThen <| gIf rfl rfl (fun h8 => ?_) (fun h8 => ?_)
    · skip
      refine gKn 14 rfl h8 <| gSeq <| gReg <| R rfl (asg rfl) <| R rfl (asg rfl) <| gNil <| eThen <| gRet <| eTret <| eRet [] [1001] rfl (eE rfl <| eE rfl <| eN) (rR rfl rfl <| rN)
    · skip
      refine gKn 14 rfl h8 <| gSkip <| eThen <| gSeq <| gRegH [] mixed rfl rfl <| hTake 0 rfl (by kernel_rfl) (by kernel_rfl) (by kernel_rfl) (gd0 rfl) rfl rfl (ld 1 rfl rfl Foc.here ty24 rfl) <| hTake 2 rfl (by kernel_rfl) (by kernel_rfl) (by kernel_rfl) (gd0 rfl) rfl rfl (ld 2 rfl rfl Foc.here ty24 rfl) <| hCallF 1 [] [] rfl (by kernel_rfl) rfl (gd0 rfl) rfl Tryd.func27 rfl rfl (value_group_ok _) (aQ rfl <| aN) rN rfl (fun _ _ => flat_num) fun r9 n10 => hCallF 3 [] [] rfl (by kernel_rfl) rfl (gd0 rfl) rfl Tryd.func27 rfl rfl (value_group_ok _) (aQ rfl <| aN) rN rfl (fun _ _ => flat_num) fun r11 n12 => hTake 4 rfl (by kernel_rfl) (by kernel_rfl) (by kernel_rfl) (gd0 rfl) rfl rfl (asg rfl) <| hTake 5 rfl (by kernel_rfl) (by kernel_rfl) (by kernel_rfl) (gd0 rfl) rfl rfl (asg rfl) <| hDone (by kernel_rfl) <| eThen <| gSeq <| gMid (fun (s13 : Bool) aa ww => Sta (ctx 40 H [(1001, some ((.bool true), .glob 1 (arrR 64 u8R) gtab1))] w) [(2, .val (ptrTo v1 0)), (3, .val (ptrTo v2 0)), (6, .rd i64R r9), (7, .rd i64R r11), (26, .rd boolR s13)] [(1, some (v1, .box 24 [.rd R_api_Value a0])), (2, some (v2, .box 24 [.rd R_api_Value a1])), (1001, some ((.bool true), .glob 1 (arrR 64 u8R) gtab1))] aa ww) ?_ (fun s13 => ?_)
      · skip
        refine gReg <| R rfl (mv rfl) <| R rfl (mv rfl) <| R rfl (I.neq rfl rfl) <| R rfl (mv rfl) <| lSplit 23 rfl (fun h14 => ?_) (fun h14 => ?_)
        · skip
          refine lKn 22 rfl h14 <| lSkip (gd rfl rfl rfl rfl) rfl rfl <| lSkip (gd rfl rfl rfl rfl) rfl rfl <| R rfl (pkT rfl rfl) <| gNil <| eMid (fun aa ww h => h.sub [1, 2, 1001] (sS rfl <| sS rfl <| sS rfl <| sS rfl <| sS rfl <| sN) (rR rfl rfl <| rR rfl rfl <| rR rfl rfl <| rN))
        · skip
          refine lKn 22 rfl h14 <| lRun (gd rfl rfl rfl rfl) rfl rfl (mv rfl) <| lRun (gd rfl rfl rfl rfl) rfl rfl (I.eql rfl rfl) <| R rfl (pkF rfl rfl) <| gNil <| eMid (fun aa ww h => h.sub [1, 2, 1001] (sS rfl <| sS rfl <| sS rfl <| sS rfl <| sS rfl <| sN) (rR rfl rfl <| rR rfl rfl <| rR rfl rfl <| rN))
      · skip
        refine gIf rfl rfl (fun h15 => ?_) (fun h15 => ?_)
        · skip
          refine gSeq <| gReg <| R rfl (mv rfl) <| R rfl (mv rfl) <| call [] [] rfl Tryd.func28 rfl rfl (cmp_Compare_int_ok _ _) (aQ rfl <| aQ rfl <| aN) rN fun r16 n17 => R rfl (asg rfl) <| R rfl (asg rfl) <| gNil <| eThen <| gRet <| eTret <| eRet [] [1001] rfl (eE rfl <| eE rfl <| eN) (rR rfl rfl <| rN)
        · skip
          refine gSkip <| eThen <| gSeq <| gSeq <| gReg <| R rfl (mv rfl) <| R rfl (I.eql rfl rfl) <| gNil <| eThen <| gIf rfl rfl (fun h18 => ?_) (fun h18 => ?_)
          · skip
            refine gSeq <| gReg <| R rfl (faB 1 rfl rfl Tryd.underlying24 rfl (by exact ti9)) <| R rfl (ld 1 rfl rfl ((Foc.here).part (pt_api_Value_Text _)) ty9 rfl) <| R rfl (faB 2 rfl rfl Tryd.underlying24 rfl (by exact ti9)) <| R rfl (ld 2 rfl rfl ((Foc.here).part (pt_api_Value_Text _)) ty9 rfl) <| call [] [] rfl Tryd.func29 rfl rfl (strings_Compare_ok _ _) (aQ rfl <| aQ rfl <| aN) rN fun r19 n20 => R rfl (asg rfl) <| R rfl (asg rfl) <| gNil <| eThen <| gRet <| eTret <| eRet [] [1001] rfl (eE rfl <| eE rfl <| eN) (rR rfl rfl <| rN)
          · skip
            refine gSkip <| eThen <| gSeq <| gReg <| R rfl (ld 1 rfl rfl Foc.here ty24 rfl) <| R rfl (ld 2 rfl rfl Foc.here ty24 rfl) <| call [1001] [] rfl Tryd.func30 rfl rfl (value_numbers_ok _ _) (aQ rfl <| aQ rfl <| aN) (rR rfl rfl <| rN) fun r21 n22 => R rfl (asg rfl) <| R rfl (asg rfl) <| gNil <| eThen <| gRet <| eRet [] [1001] rfl (eE rfl <| eE rfl <| eN) (rR rfl rfl <| rN)

def braidlaw05_rises_L0 (a0 : List api_Value) (s2 : Int) : Option (Sum (Sum Bool Unit) Int) :=
  if decide ((w64 (s2 + 1)) < (a0.length : Int)) then
    idx a0 s2 >>= fun x4 =>
    idx a0 (w64 (s2 + 1)) >>= fun x6 =>
    value_Cmp x4 x6 >>= fun r8 =>
    idx a0 (w64 (s2 + 1)) >>= fun x10 =>
    idx a0 s2 >>= fun x12 =>
    value_Cmp x10 x12 >>= fun r14 =>
    idx a0 s2 >>= fun x16 =>
    idx a0 s2 >>= fun x18 =>
    value_Cmp x16 x18 >>= fun r20 =>
    (if r8.2 != 0 then
      some true
    else
      if r14.2 != 0 then
        some true
      else
        if r20.2 != 0 then
          some true
        else
          if r8.1 != (-1) then
            some true
          else
            if r14.1 != 1 then
              some true
            else
              some (r20.1 != 0)) >>= fun s22 =>
    if s22 then
      some (.inl (.inl false))
    else
      some (.inr (w64 (s2 + 1)))
  else
    some (.inl (.inr ()))
def braidlaw05_rises (a0 : List api_Value) : Option (Bool) :=
  orRet (iter (braidlaw05_rises_L0 a0) 0) fun s1 =>
  some true
set_option maxRecDepth 100000 in
theorem braidlaw05_rises_ok (a0 : List api_Value) : Spec Tryd.prog 21 [.rd (sliceR R_api_Value) a0] [(1001, some ((.bool true), .glob 1 (arrR 64 u8R) gtab1))] (braidlaw05_rises a0) (fun r nv => ⟨[.rd boolR r], [(1001, some (.bool true, .glob 1 (arrR 64 u8R) gtab1))]⟩) := by
  refine spec 77 Tryd.func21 rfl rfl rfl fun H w => ?_
  refine gSeq <| gReg <| R rfl (asg rfl) <| gNil <| eThen <| gMidR (fun (s1 : Unit) aa ww => Sta (ctx 77 H [(1001, some ((.bool true), .glob 1 (arrR 64 u8R) gtab1))] w) [] [(1001, some ((.bool true), .glob 1 (arrR 64 u8R) gtab1))] aa ww) ?_ (fun s1 => ?_)
  · skip
    refine gSeq <| gReg <| R rfl (asg rfl) <| gNil <| eThen <| gLoop (fun (s2 : Int) aa ww => Sta (ctx 77 H [(1001, some ((.bool true), .glob 1 (arrR 64 u8R) gtab1))] w) [(0, .rd (sliceR R_api_Value) a0), (3, .rd i64R s2)] [(1001, some ((.bool true), .glob 1 (arrR 64 u8R) gtab1))] aa ww) (fun aa ww h => h.sub [1001] (sS rfl <| sS rfl <| sN) (rR rfl rfl <| rN)) (fun s2 => ?_)
    refine gSeq <| gSeq <| gReg <| R rfl (mv rfl) <| R rfl (I.add rfl rfl) <| R rfl (mv rfl) <| R rfl (len' rfl .rd rfl Tryd.underlying38) <| R rfl (I.lss rfl rfl) <| gNil <| eThen <| gIf rfl rfl (fun h3 => ?_) (fun h3 => ?_)
    · skip
      refine gSkip <| eThen <| gSeq <| gBlk <| gSeq <| gRegH [1001] mixed rfl rfl <| hTake 0 rfl (by kernel_rfl) (by kernel_rfl) (by kernel_rfl) (gd0 rfl) rfl rfl (mv rfl) <| hTake 1 rfl (by kernel_rfl) (by kernel_rfl) (by kernel_rfl) (gd0 rfl) rfl rfl (mv rfl) <| hBind fun x4 h5 => hTake 2 rfl (by kernel_rfl) (by kernel_rfl) (by kernel_rfl) (gd0 rfl) rfl rfl (ixR rfl rfl h5 Tryd.underlying38 ti24 rfl) <| hTake 3 rfl (by kernel_rfl) (by kernel_rfl) (by kernel_rfl) (gd0 rfl) rfl rfl (ldR rfl ty24) <| hTake 4 rfl (by kernel_rfl) (by kernel_rfl) (by kernel_rfl) (gd0 rfl) rfl rfl (mv rfl) <| hTake 5 rfl (by kernel_rfl) (by kernel_rfl) (by kernel_rfl) (gd0 rfl) rfl rfl (mv rfl) <| hTake 6 rfl (by kernel_rfl) (by kernel_rfl) (by kernel_rfl) (gd0 rfl) rfl rfl (I.add rfl rfl) <| hBind fun x6 h7 => hTake 7 rfl (by kernel_rfl) (by kernel_rfl) (by kernel_rfl) (gd0 rfl) rfl rfl (ixR rfl rfl h7 Tryd.underlying38 ti24 rfl) <| hTake 8 rfl (by kernel_rfl) (by kernel_rfl) (by kernel_rfl) (gd0 rfl) rfl rfl (ldR rfl ty24) <| hCallF 9 [1001] [] rfl (by kernel_rfl) rfl (gd0 rfl) rfl Tryd.func10 rfl rfl (value_Cmp_ok _ _) (aQ rfl <| aQ rfl <| aN) (rR rfl rfl <| rN) rfl (fun _ _ => (flat_tup (flC flat_num (flC flat_num fl0)))) fun r8 n9 => hTake 10 rfl (by kernel_rfl) (by kernel_rfl) (by kernel_rfl) (gd0 rfl) rfl rfl (mv rfl) <| hTake 11 rfl (by kernel_rfl) (by kernel_rfl) (by kernel_rfl) (gd0 rfl) rfl rfl (ext rfl rfl) <| hTake 12 rfl (by kernel_rfl) (by kernel_rfl) (by kernel_rfl) (gd0 rfl) rfl rfl (ext rfl rfl) <| hTake 13 rfl (by kernel_rfl) (by kernel_rfl) (by kernel_rfl) (gd0 rfl) rfl rfl (asg rfl) <| hTake 14 rfl (by kernel_rfl) (by kernel_rfl) (by kernel_rfl) (gd0 rfl) rfl rfl (asg rfl) <| hDone (by kernel_rfl) <| eThen <| gSeq <| gRegH [1001] mixed rfl rfl <| hTake 0 rfl (by kernel_rfl) (by kernel_rfl) (by kernel_rfl) (gd0 rfl) rfl rfl (mv rfl) <| hTake 1 rfl (by kernel_rfl) (by kernel_rfl) (by kernel_rfl) (gd0 rfl) rfl rfl (mv rfl) <| hTake 2 rfl (by kernel_rfl) (by kernel_rfl) (by kernel_rfl) (gd0 rfl) rfl rfl (I.add rfl rfl) <| hBind fun x10 h11 => hTake 3 rfl (by kernel_rfl) (by kernel_rfl) (by kernel_rfl) (gd0 rfl) rfl rfl (ixR rfl rfl h11 Tryd.underlying38 ti24 rfl) <| hTake 4 rfl (by kernel_rfl) (by kernel_rfl) (by kernel_rfl) (gd0 rfl) rfl rfl (ldR rfl ty24) <| hTake 5 rfl (by kernel_rfl) (by kernel_rfl) (by kernel_rfl) (gd0 rfl) rfl rfl (mv rfl) <| hTake 6 rfl (by kernel_rfl) (by kernel_rfl) (by kernel_rfl) (gd0 rfl) rfl rfl (mv rfl) <| hBind fun x12 h13 => hTake 7 rfl (by kernel_rfl) (by kernel_rfl) (by kernel_rfl) (gd0 rfl) rfl rfl (ixR rfl rfl h13 Tryd.underlying38 ti24 rfl) <| hTake 8 rfl (by kernel_rfl) (by kernel_rfl) (by kernel_rfl) (gd0 rfl) rfl rfl (ldR rfl ty24) <| hCallF 9 [1001] [] rfl (by kernel_rfl) rfl (gd0 rfl) rfl Tryd.func10 rfl rfl (value_Cmp_ok _ _) (aQ rfl <| aQ rfl <| aN) (rR rfl rfl <| rN) rfl (fun _ _ => (flat_tup (flC flat_num (flC flat_num fl0)))) fun r14 n15 => hTake 10 rfl (by kernel_rfl) (by kernel_rfl) (by kernel_rfl) (gd0 rfl) rfl rfl (mv rfl) <| hTake 11 rfl (by kernel_rfl) (by kernel_rfl) (by kernel_rfl) (gd0 rfl) rfl rfl (ext rfl rfl) <| hTake 12 rfl (by kernel_rfl) (by kernel_rfl) (by kernel_rfl) (gd0 rfl) rfl rfl (ext rfl rfl) <| hTake 13 rfl (by kernel_rfl) (by kernel_rfl) (by kernel_rfl) (gd0 rfl) rfl rfl (asg rfl) <| hTake 14 rfl (by kernel_rfl) (by kernel_rfl) (by kernel_rfl) (gd0 rfl) rfl rfl (asg rfl) <| hDone (by kernel_rfl) <| eThen <| gSeq <| gRegH [1001] mixed rfl rfl <| hTake 0 rfl (by kernel_rfl) (by kernel_rfl) (by kernel_rfl) (gd0 rfl) rfl rfl (mv rfl) <| hTake 1 rfl (by kernel_rfl) (by kernel_rfl) (by kernel_rfl) (gd0 rfl) rfl rfl (mv rfl) <| hBind fun x16 h17 => hTake 2 rfl (by kernel_rfl) (by kernel_rfl) (by kernel_rfl) (gd0 rfl) rfl rfl (ixR rfl rfl h17 Tryd.underlying38 ti24 rfl) <| hTake 3 rfl (by kernel_rfl) (by kernel_rfl) (by kernel_rfl) (gd0 rfl) rfl rfl (ldR rfl ty24) <| hTake 4 rfl (by kernel_rfl) (by kernel_rfl) (by kernel_rfl) (gd0 rfl) rfl rfl (mv rfl) <| hTake 5 rfl (by kernel_rfl) (by kernel_rfl) (by kernel_rfl) (gd0 rfl) rfl rfl (mv rfl) <| hBind fun x18 h19 => hTake 6 rfl (by kernel_rfl) (by kernel_rfl) (by kernel_rfl) (gd0 rfl) rfl rfl (ixR rfl rfl h19 Tryd.underlying38 ti24 rfl) <| hTake 7 rfl (by kernel_rfl) (by kernel_rfl) (by kernel_rfl) (gd0 rfl) rfl rfl (ldR rfl ty24) <| hCallF 8 [1001] [] rfl (by kernel_rfl) rfl (gd0 rfl) rfl Tryd.func10 rfl rfl (value_Cmp_ok _ _) (aQ rfl <| aQ rfl <| aN) (rR rfl rfl <| rN) rfl (fun _ _ => (flat_tup (flC flat_num (flC flat_num fl0)))) fun r20 n21 => hTake 9 rfl (by kernel_rfl) (by kernel_rfl) (by kernel_rfl) (gd0 rfl) rfl rfl (mv rfl) <| hTake 10 rfl (by kernel_rfl) (by kernel_rfl) (by kernel_rfl) (gd0 rfl) rfl rfl (ext rfl rfl) <| hTake 11 rfl (by kernel_rfl) (by kernel_rfl) (by kernel_rfl) (gd0 rfl) rfl rfl (ext rfl rfl) <| hTake 12 rfl (by kernel_rfl) (by kernel_rfl) (by kernel_rfl) (gd0 rfl) rfl rfl (asg rfl) <| hTake 13 rfl (by kernel_rfl) (by kernel_rfl) (by kernel_rfl) (gd0 rfl) rfl rfl (asg rfl) <| hDone (by kernel_rfl) <| eThen <| gMid (fun (s22 : Bool) aa ww => Sta (ctx 77 H [(1001, some ((.bool true), .glob 1 (arrR 64 u8R) gtab1))] w) [(0, .rd (sliceR R_api_Value) a0), (3, .rd i64R s2), (76, .rd boolR s22)] [(1001, some ((.bool true), .glob 1 (arrR 64 u8R) gtab1))] aa ww) ?_ (fun s22 => ?_)
      · skip
        refine gReg <| R rfl (mv rfl) <| R rfl (I.neq rfl rfl) <| R rfl (mv rfl) <| lSplit 57 rfl (fun h23 => ?_) (fun h23 => ?_)
        · skip
          refine lKn 56 rfl h23 <| lSkip (gd rfl rfl rfl rfl) rfl rfl <| lSkip (gd rfl rfl rfl rfl) rfl rfl <| R rfl (pkT rfl rfl) <| R rfl (mv rfl) <| lSkip (gd rfl rfl rfl rfl) rfl rfl <| lSkip (gd rfl rfl rfl rfl) rfl rfl <| R rfl (pkT rfl rfl) <| R rfl (mv rfl) <| lSkip (gd rfl rfl rfl rfl) rfl rfl <| lSkip (gd rfl rfl rfl rfl) rfl rfl <| R rfl (pkT rfl rfl) <| R rfl (mv rfl) <| lSkip (gd rfl rfl rfl rfl) rfl rfl <| lSkip (gd rfl rfl rfl rfl) rfl rfl <| R rfl (pkT rfl rfl) <| R rfl (mv rfl) <| lSkip (gd rfl rfl rfl rfl) rfl rfl <| lSkip (gd rfl rfl rfl rfl) rfl rfl <| R rfl (pkT rfl rfl) <| gNil <| eMid (fun aa ww h => h.sub [1001] (sS rfl <| sS rfl <| sS rfl <| sN) (rR rfl rfl <| rN))
        · skip
          refine lKn 56 rfl h23 <| lRun (gd rfl rfl rfl rfl) rfl rfl (mv rfl) <| lRun (gd rfl rfl rfl rfl) rfl rfl (I.neq rfl rfl) <| R rfl (pkF rfl rfl) <| R rfl (mv rfl) <| lSplit 61 rfl (fun h24 => ?_) (fun h24 => ?_)
          · skip
            refine lKn 59 rfl h24 <| lKn 60 rfl h24 <| lSkip (gd rfl rfl rfl rfl) rfl rfl <| lSkip (gd rfl rfl rfl rfl) rfl rfl <| R rfl (pkT rfl rfl) <| R rfl (mv rfl) <| lSkip (gd rfl rfl rfl rfl) rfl rfl <| lSkip (gd rfl rfl rfl rfl) rfl rfl <| R rfl (pkT rfl rfl) <| R rfl (mv rfl) <| lSkip (gd rfl rfl rfl rfl) rfl rfl <| lSkip (gd rfl rfl rfl rfl) rfl rfl <| R rfl (pkT rfl rfl) <| R rfl (mv rfl) <| lSkip (gd rfl rfl rfl rfl) rfl rfl <| lSkip (gd rfl rfl rfl rfl) rfl rfl <| R rfl (pkT rfl rfl) <| gNil <| eMid (fun aa ww h => h.sub [1001] (sS rfl <| sS rfl <| sS rfl <| sN) (rR rfl rfl <| rN))
          · skip
            refine lKn 59 rfl h24 <| lKn 60 rfl h24 <| lRun (gd rfl rfl rfl rfl) rfl rfl (mv rfl) <| lRun (gd rfl rfl rfl rfl) rfl rfl (I.neq rfl rfl) <| R rfl (pkF rfl rfl) <| R rfl (mv rfl) <| lSplit 65 rfl (fun h25 => ?_) (fun h25 => ?_)
            · skip
              refine lKn 63 rfl h25 <| lKn 64 rfl h25 <| lSkip (gd rfl rfl rfl rfl) rfl rfl <| lSkip (gd rfl rfl rfl rfl) rfl rfl <| R rfl (pkT rfl rfl) <| R rfl (mv rfl) <| lSkip (gd rfl rfl rfl rfl) rfl rfl <| lSkip (gd rfl rfl rfl rfl) rfl rfl <| R rfl (pkT rfl rfl) <| R rfl (mv rfl) <| lSkip (gd rfl rfl rfl rfl) rfl rfl <| lSkip (gd rfl rfl rfl rfl) rfl rfl <| R rfl (pkT rfl rfl) <| gNil <| eMid (fun aa ww h => h.sub [1001] (sS rfl <| sS rfl <| sS rfl <| sN) (rR rfl rfl <| rN))
            · skip
              refine lKn 63 rfl h25 <| lKn 64 rfl h25 <| lRun (gd rfl rfl rfl rfl) rfl rfl (mv rfl) <| lRun (gd rfl rfl rfl rfl) rfl rfl (I.neq rfl rfl) <| R rfl (pkF rfl rfl) <| R rfl (mv rfl) <| lSplit 69 rfl (fun h26 => ?_) (fun h26 => ?_)
              · skip
                refine lKn 67 rfl h26 <| lKn 68 rfl h26 <| lSkip (gd rfl rfl rfl rfl) rfl rfl <| lSkip (gd rfl rfl rfl rfl) rfl rfl <| R rfl (pkT rfl rfl) <| R rfl (mv rfl) <| lSkip (gd rfl rfl rfl rfl) rfl rfl <| lSkip (gd rfl rfl rfl rfl) rfl rfl <| R rfl (pkT rfl rfl) <| gNil <| eMid (fun aa ww h => h.sub [1001] (sS rfl <| sS rfl <| sS rfl <| sN) (rR rfl rfl <| rN))
              · skip
                refine lKn 67 rfl h26 <| lKn 68 rfl h26 <| lRun (gd rfl rfl rfl rfl) rfl rfl (mv rfl) <| lRun (gd rfl rfl rfl rfl) rfl rfl (I.neq rfl rfl) <| R rfl (pkF rfl rfl) <| R rfl (mv rfl) <| lSplit 73 rfl (fun h27 => ?_) (fun h27 => ?_)
                · skip
                  refine lKn 71 rfl h27 <| lKn 72 rfl h27 <| lSkip (gd rfl rfl rfl rfl) rfl rfl <| lSkip (gd rfl rfl rfl rfl) rfl rfl <| R rfl (pkT rfl rfl) <| gNil <| eMid (fun aa ww h => h.sub [1001] (sS rfl <| sS rfl <| sS rfl <| sN) (rR rfl rfl <| rN))
                · skip
                  refine lKn 71 rfl h27 <| lKn 72 rfl h27 <| lRun (gd rfl rfl rfl rfl) rfl rfl (mv rfl) <| lRun (gd rfl rfl rfl rfl) rfl rfl (I.neq rfl rfl) <| R rfl (pkF rfl rfl) <| gNil <| eMid (fun aa ww h => h.sub [1001] (sS rfl <| sS rfl <| sS rfl <| sN) (rR rfl rfl <| rN))
      · skip
        refine gIf rfl rfl (fun h28 => ?_) (fun h28 => ?_)
        · skip
          refine gSeq <| gReg <| R rfl (asg rfl) <| gNil <| eThen <| gRet <| eBret <| eTret <| eLret <| eMret <| eRet [] [1001] rfl (eE rfl <| eN) (rR rfl rfl <| rN)
        · skip
          refine gSkip <| eBlk <| eThen <| gReg <| R rfl (mv rfl) <| R rfl (I.add rfl rfl) <| R rfl (asg rfl) <| gNil <| eNext (fun aa ww h => h.sub [1001] (sS rfl <| sS rfl <| sN) (rR rfl rfl <| rN))
    · skip
      refine gExit <| eTexit <| eLeave <| eMidR (fun aa ww h => h.sub [1001] (sN) (rR rfl rfl <| rN))
  · skip
    refine gSeq <| gReg <| R rfl (asg rfl) <| gNil <| eThen <| gRet <| eRet [] [1001] rfl (eE rfl <| eN) (rR rfl rfl <| rN)

def braidref01_SameBytes_L0 (a0 : List UInt8) (a1 : List UInt8) (s3 : Int) : Option (Sum (Sum Bool Unit) Int) :=
  if decide (s3 < (a0.length : Int)) then
    idx a0 s3 >>= fun x5 =>
    idx a1 s3 >>= fun x7 =>
    if x5 != x7 then
      some (.inl (.inl false))
    else
      some (.inr (w64 (s3 + 1)))
  else
    some (.inl (.inr ()))
def braidref01_SameBytes (a0 : List UInt8) (a1 : List UInt8) : Option (Bool) :=
  if (a0.length : Int) != (a1.length : Int) then
    some false
  else
    orRet (iter (braidref01_SameBytes_L0 a0 a1) 0) fun s2 =>
    some true
set_option maxRecDepth 100000 in
theorem braidref01_SameBytes_ok (a0 : List UInt8) (a1 : List UInt8) : Spec Tryd.prog 25 [.rd (sliceR u8R) a0, .rd (sliceR u8R) a1] [] (braidref01_SameBytes a0 a1) (fun r nv => ⟨[.rd boolR r], []⟩) := by
  refine spec 26 Tryd.func25 rfl rfl rfl fun H w => ?_
  refine gSeq <| gReg <| R rfl (asg rfl) <| gNil <| eThen <| gSeq <| gSeq <| gReg <| R rfl (mv rfl) <| R rfl (len' rfl .rd rfl Tryd.underlying40) <| R rfl (mv rfl) <| R rfl (len' rfl .rd rfl Tryd.underlying40) <| R rfl (I.neq rfl rfl) <| gNil <| eThen <| gIf rfl rfl (fun h1 => ?_) (fun h1 => ?_)
  · skip
    refine gSeq <| gReg <| R rfl (asg rfl) <| gNil <| eThen <| gRet <| eTret <| eRet [] [] rfl (eE rfl <| eN) (rN)
  · skip
    refine gSkip <| eThen <| gMidR (fun (s2 : Unit) aa ww => Sta (ctx 26 H [] w) [] [] aa ww) ?_ (fun s2 => ?_)
    · skip
      refine gSeq <| gReg <| R rfl (asg rfl) <| gNil <| eThen <| gLoop (fun (s3 : Int) aa ww => Sta (ctx 26 H [] w) [(0, .rd (sliceR u8R) a0), (1, .rd (sliceR u8R) a1), (5, .rd i64R s3)] [] aa ww) (fun aa ww h => h.sub [] (sS rfl <| sS rfl <| sS rfl <| sN) (rN)) (fun s3 => ?_)
      refine gSeq <| gSeq <| gReg <| R rfl (mv rfl) <| R rfl (mv rfl) <| R rfl (len' rfl .rd rfl Tryd.underlying40) <| R rfl (I.lss rfl rfl) <| gNil <| eThen <| gIf rfl rfl (fun h4 => ?_) (fun h4 => ?_)
      · skip
        refine gSkip <| eThen <| gSeq <| gBlk <| gSeq <| gRegQ mixed (by kernel_rfl) <| Rq rfl (mv rfl) <| Rq rfl (mv rfl) <| qBind fun x5 h6 => Rq rfl (ixR rfl rfl h6 Tryd.underlying40 ti5 rfl) <| Rq rfl (ldR rfl ty5) <| Rq rfl (mv rfl) <| Rq rfl (mv rfl) <| qBind fun x7 h8 => Rq rfl (ixR rfl rfl h8 Tryd.underlying40 ti5 rfl) <| Rq rfl (ldR rfl ty5) <| Rq rfl (B.neq rfl rfl) <| qNil <| eThen <| gIf rfl rfl (fun h9 => ?_) (fun h9 => ?_)
        · skip
          refine gSeq <| gReg <| R rfl (asg rfl) <| gNil <| eThen <| gRet <| eBret <| eTret <| eLret <| eMret <| eRet [] [] rfl (eE rfl <| eN) (rN)
        · skip
          refine gSkip <| eBlk <| eThen <| gReg <| R rfl (mv rfl) <| R rfl (I.add rfl rfl) <| R rfl (asg rfl) <| gNil <| eNext (fun aa ww h => h.sub [] (sS rfl <| sS rfl <| sS rfl <| sN) (rN))
      · skip
        refine gExit <| eTexit <| eLeave <| eMidR (fun aa ww h => h.sub [] (sN) (rN))
    · skip
      refine gSeq <| gReg <| R rfl (asg rfl) <| gNil <| eThen <| gRet <| eRet [] [] rfl (eE rfl <| eN) (rN)


def braidlaw05_alive  : Option (Bool) :=
  value_Float 9223372036854775808 >>= fun r1 =>
  value_Number 0 >>= fun r3 =>
  value_Float 0 >>= fun r5 =>
  value_Number 1 >>= fun r7 =>
  value_Float 4607182418800017408 >>= fun r9 =>
  value_Float 4609434218613702656 >>= fun r11 =>
  value_Number 2 >>= fun r13 =>
  value_Number 9223372036854775807 >>= fun r15 =>
  value_Float 4890909195324358656 >>= fun r17 =>
  value_Number (-1) >>= fun r20 =>
  value_Encode r20 >>= fun r22 =>
  braidlaw05_rises [r1, r3, r5, r7, r9, r11, r13, r15, r17] >>= fun r24 =>
  if r24 then
    if r22.2 == 0 then
      braidref01_SameBytes r22.1 [1, 1] >>= fun r29 =>
      some r29
    else
      some false
  else
    some false
set_option maxRecDepth 100000 in
theorem braidlaw05_alive_ok  : Spec Tryd.prog 9 [] [(1001, some ((.bool true), .glob 1 (arrR 64 u8R) gtab1))] (braidlaw05_alive) (fun r nv => ⟨[.rd boolR r], [(1001, some (.bool true, .glob 1 (arrR 64 u8R) gtab1))]⟩) := by
  refine spec 30 Tryd.func9 rfl rfl rfl fun H w => ?_
  refine gSeq <| gReg <| R rfl (asg rfl) <| gNil <| eThen <| gSeq <| gReg <| call [] [] rfl Tryd.func13 rfl rfl (value_Float_ok _) (aQ rfl <| aN) rN fun r1 n2 => call [] [] rfl Tryd.func11 rfl rfl (value_Number_ok _) (aQ rfl <| aN) rN fun r3 n4 => call [] [] rfl Tryd.func13 rfl rfl (value_Float_ok _) (aQ rfl <| aN) rN fun r5 n6 => call [] [] rfl Tryd.func11 rfl rfl (value_Number_ok _) (aQ rfl <| aN) rN fun r7 n8 => call [] [] rfl Tryd.func13 rfl rfl (value_Float_ok _) (aQ rfl <| aN) rN fun r9 n10 => call [] [] rfl Tryd.func13 rfl rfl (value_Float_ok _) (aQ rfl <| aN) rN fun r11 n12 => call [] [] rfl Tryd.func11 rfl rfl (value_Number_ok _) (aQ rfl <| aN) rN fun r13 n14 => call [] [] rfl Tryd.func11 rfl rfl (value_Number_ok _) (aQ rfl <| aN) rN fun r15 n16 => call [] [] rfl Tryd.func13 rfl rfl (value_Float_ok _) (aQ rfl <| aN) rN fun r17 n18 => Ef rfl (lit (R := R_api_Value) ([r1, r3, r5, r7, r9, r11, r13, r15, r17] : List api_Value) 1 (pP rfl rfl <| pP rfl rfl <| pP rfl rfl <| pP rfl rfl <| pP rfl rfl <| pP rfl rfl <| pP rfl rfl <| pP rfl rfl <| pP rfl rfl <| pN) rfl Tryd.underlying38 ti24 rfl rfl) fun v19 => R rfl (asg rfl) <| gNil <| eThen <| gSeq <| gReg <| call [] [] rfl Tryd.func11 rfl rfl (value_Number_ok _) (aQ rfl <| aN) rN fun r20 n21 => call [] [(100, 2)] rfl Tryd.func17 rfl rfl (value_Encode_ok _) (aQ rfl <| aN) rN fun r22 n23 => R rfl (mv rfl) <| R rfl (ext rfl rfl) <| R rfl (ext rfl rfl) <| R rfl (asg rfl) <| R rfl (asg rfl) <| gNil <| eThen <| gSeq <| gReg <| R rfl (mv rfl) <| lFrz 1 [13, 1, 19] rfl (fS rfl <| fS rfl <| fS rfl <| fN) <| call [1001] [] rfl Tryd.func21 rfl rfl (braidlaw05_rises_ok _) (aQ rfl <| aN) (rR rfl rfl <| rN) fun r24 n25 => R rfl (mv rfl) <| lSplit 21 rfl (fun h26 => ?_) (fun h26 => ?_)
  · skip
    refine lKn 20 rfl h26 <| lRun (gd rfl rfl rfl rfl) rfl rfl (mv rfl) <| lRun (gd rfl rfl rfl rfl) rfl rfl (I.eql rfl rfl) <| R rfl (pkT rfl rfl) <| R rfl (mv rfl) <| lSplit 25 rfl (fun h27 => ?_) (fun h27 => ?_)
    · skip
      refine lKn 23 rfl h27 <| lKn 24 rfl h27 <| lRun (gd rfl rfl rfl rfl) rfl rfl (mv rfl) <| Efg (gd rfl rfl rfl rfl) rfl rfl (lit (R := u8R) ([1, 1] : List UInt8) 3 (pP rfl rfl <| pP rfl rfl <| pN) rfl Tryd.underlying40 ti5 rfl rfl) fun v28 => lFrz 2 [17, 2, 26] rfl (fS rfl <| fS rfl <| fS rfl <| fN) <| lFrz 3 [27] rfl (fS rfl <| fN) <| callg [] [] (gd rfl rfl rfl rfl) rfl Tryd.func25 rfl rfl (braidref01_SameBytes_ok _ _) (aQ rfl <| aQ rfl <| aN) rN fun r29 n30 => R rfl (pkT rfl rfl) <| R rfl (asg rfl) <| gNil <| eThen <| gRet <| eRet [] [1001] rfl (eE rfl <| eN) (rR rfl rfl <| rN)
    · skip
      refine lKn 23 rfl h27 <| lKn 24 rfl h27 <| lSkip (gd rfl rfl rfl rfl) rfl rfl <| lSkip (gd rfl rfl rfl rfl) rfl rfl <| lSkip (gd rfl rfl rfl rfl) rfl rfl <| R rfl (pkF rfl rfl) <| R rfl (asg rfl) <| gNil <| eThen <| gRet <| eRet [] [1001] rfl (eE rfl <| eN) (rR rfl rfl <| rN)
  · skip
    refine lKn 20 rfl h26 <| lSkip (gd rfl rfl rfl rfl) rfl rfl <| lSkip (gd rfl rfl rfl rfl) rfl rfl <| R rfl (pkF rfl rfl) <| R rfl (mv rfl) <| lSkip (gd rfl rfl rfl rfl) rfl rfl <| lSkip (gd rfl rfl rfl rfl) rfl rfl <| lSkip (gd rfl rfl rfl rfl) rfl rfl <| R rfl (pkF rfl rfl) <| R rfl (asg rfl) <| gNil <| eThen <| gRet <| eRet [] [1001] rfl (eE rfl <| eN) (rR rfl rfl <| rN)


def braidlaw05_ValueOrder (a0 : api_Value) (a1 : api_Value) (a2 : api_Value) : Option (Bool) :=
  (braidlaw05_fit a0 >>= fun r5 =>
  if !r5 then
    some true
  else
    braidlaw05_fit a1 >>= fun r8 =>
    if !r8 then
      some true
    else
      braidlaw05_fit a2 >>= fun r11 =>
      some (!r11)) >>= fun s4 =>
  if s4 then
    braidlaw05_alive >>= fun r14 =>
    some r14
  else
    value_Cmp a0 a1 >>= fun r16 =>
    value_Cmp a1 a0 >>= fun r18 =>
    value_Cmp a1 a2 >>= fun r20 =>
    value_Cmp a0 a2 >>= fun r22 =>
    (if r16.2 != 0 then
      some true
    else
      if r18.2 != 0 then
        some true
      else
        if r20.2 != 0 then
          some true
        else
          if r22.2 != 0 then
            some true
          else
            if r16.1 != (w64 (0 - r18.1)) then
              some true
            else
              if decide (r16.1 < (-1)) then
                some true
              else
                if decide (1 < r16.1) then
                  some true
                else
                  some ((r16.1 == 0) != (decide (a0 = a1)))) >>= fun s24 =>
    if s24 then
      some false
    else
      if decide (0 < r16.1) then
        braidlaw05_alive >>= fun r34 =>
        some r34
      else
        if decide (0 < r20.1) then
          braidlaw05_alive >>= fun r37 =>
          some r37
        else
          if decide (r22.1 ≤ 0) then
            braidlaw05_alive >>= fun r40 =>
            some r40
          else
            some false
set_option maxRecDepth 100000 in
theorem braidlaw05_ValueOrder_ok (a0 : api_Value) (a1 : api_Value) (a2 : api_Value) : Spec Tryd.prog 3 [.rd R_api_Value a0, .rd R_api_Value a1, .rd R_api_Value a2] [(1001, some ((.bool true), .glob 1 (arrR 64 u8R) gtab1))] (braidlaw05_ValueOrder a0 a1 a2) (fun r nv => ⟨[.rd boolR r], [(1001, some (.bool true, .glob 1 (arrR 64 u8R) gtab1))]⟩) := by
  refine spec 102 Tryd.func3 rfl rfl rfl fun H w => ?_
  refine gSeq <| gReg <| Eb rfl (bx 1 rfl) fun v1 => Eb rfl (bx 2 rfl) fun v2 => Eb rfl (bx 3 rfl) fun v3 => R rfl (asg rfl) <| gNil <| eThen <| gSeq <| gMid (fun (s4 : Bool) aa ww => Sta (ctx 102 H [(1001, some ((.bool true), .glob 1 (arrR 64 u8R) gtab1))] w) [(3, .val (ptrTo v1 0)), (4, .val (ptrTo v2 0)), (5, .val (ptrTo v3 0)), (27, .rd boolR s4)] [(1, some (v1, .box 24 [.rd R_api_Value a0])), (2, some (v2, .box 24 [.rd R_api_Value a1])), (3, some (v3, .box 24 [.rd R_api_Value a2])), (1001, some ((.bool true), .glob 1 (arrR 64 u8R) gtab1))] aa ww) ?_ (fun s4 => ?_)
  · skip
    refine gReg <| R rfl (ld 1 rfl rfl Foc.here ty24 rfl) <| call [] [] rfl Tryd.func8 rfl rfl (braidlaw05_fit_ok _) (aQ rfl <| aN) rN fun r5 n6 => R rfl (not' rfl) <| R rfl (mv rfl) <| lSplit 18 rfl (fun h7 => ?_) (fun h7 => ?_)
    · skip
      refine lKn 17 rfl h7 <| lSkip (gd rfl rfl rfl rfl) rfl rfl <| lSkip (gd rfl rfl rfl rfl) rfl rfl <| lSkip (gd rfl rfl rfl rfl) rfl rfl <| R rfl (pkT rfl rfl) <| R rfl (mv rfl) <| lSkip (gd rfl rfl rfl rfl) rfl rfl <| lSkip (gd rfl rfl rfl rfl) rfl rfl <| lSkip (gd rfl rfl rfl rfl) rfl rfl <| R rfl (pkT rfl rfl) <| gNil <| eMid (fun aa ww h => h.sub [1, 2, 3, 1001] (sS rfl <| sS rfl <| sS rfl <| sS rfl <| sN) (rR rfl rfl <| rR rfl rfl <| rR rfl rfl <| rR rfl rfl <| rN))
    · skip
      refine lKn 17 rfl h7 <| lRun (gd rfl rfl rfl rfl) rfl rfl (ld 2 rfl rfl Foc.here ty24 rfl) <| callg [] [] (gd rfl rfl rfl rfl) rfl Tryd.func8 rfl rfl (braidlaw05_fit_ok _) (aQ rfl <| aN) rN fun r8 n9 => lRun (gd rfl rfl rfl rfl) rfl rfl (not' rfl) <| R rfl (pkF rfl rfl) <| R rfl (mv rfl) <| lSplit 23 rfl (fun h10 => ?_) (fun h10 => ?_)
      · skip
        refine lKn 21 rfl h10 <| lKn 22 rfl h10 <| lSkip (gd rfl rfl rfl rfl) rfl rfl <| lSkip (gd rfl rfl rfl rfl) rfl rfl <| lSkip (gd rfl rfl rfl rfl) rfl rfl <| R rfl (pkT rfl rfl) <| gNil <| eMid (fun aa ww h => h.sub [1, 2, 3, 1001] (sS rfl <| sS rfl <| sS rfl <| sS rfl <| sN) (rR rfl rfl <| rR rfl rfl <| rR rfl rfl <| rR rfl rfl <| rN))
      · skip
        refine lKn 21 rfl h10 <| lKn 22 rfl h10 <| lRun (gd rfl rfl rfl rfl) rfl rfl (ld 3 rfl rfl Foc.here ty24 rfl) <| callg [] [] (gd rfl rfl rfl rfl) rfl Tryd.func8 rfl rfl (braidlaw05_fit_ok _) (aQ rfl <| aN) rN fun r11 n12 => lRun (gd rfl rfl rfl rfl) rfl rfl (not' rfl) <| R rfl (pkF rfl rfl) <| gNil <| eMid (fun aa ww h => h.sub [1, 2, 3, 1001] (sS rfl <| sS rfl <| sS rfl <| sS rfl <| sN) (rR rfl rfl <| rR rfl rfl <| rR rfl rfl <| rR rfl rfl <| rN))
  · skip
    refine gIf rfl rfl (fun h13 => ?_) (fun h13 => ?_)
    · skip
      refine gSeq <| gReg <| call [1001] [] rfl Tryd.func9 rfl rfl (braidlaw05_alive_ok) (aN) (rR rfl rfl <| rN) fun r14 n15 => R rfl (asg rfl) <| gNil <| eThen <| gRet <| eTret <| eRet [] [1001] rfl (eE rfl <| eN) (rR rfl rfl <| rN)
    · skip
      refine gSkip <| eThen <| gSeq <| gReg <| R rfl (ld 1 rfl rfl Foc.here ty24 rfl) <| R rfl (ld 2 rfl rfl Foc.here ty24 rfl) <| call [1001] [] rfl Tryd.func10 rfl rfl (value_Cmp_ok _ _) (aQ rfl <| aQ rfl <| aN) (rR rfl rfl <| rN) fun r16 n17 => R rfl (mv rfl) <| R rfl (ext rfl rfl) <| R rfl (ext rfl rfl) <| R rfl (asg rfl) <| R rfl (asg rfl) <| gNil <| eThen <| gSeq <| gReg <| R rfl (ld 2 rfl rfl Foc.here ty24 rfl) <| R rfl (ld 1 rfl rfl Foc.here ty24 rfl) <| call [1001] [] rfl Tryd.func10 rfl rfl (value_Cmp_ok _ _) (aQ rfl <| aQ rfl <| aN) (rR rfl rfl <| rN) fun r18 n19 => R rfl (mv rfl) <| R rfl (ext rfl rfl) <| R rfl (ext rfl rfl) <| R rfl (asg rfl) <| R rfl (asg rfl) <| gNil <| eThen <| gSeq <| gReg <| R rfl (ld 2 rfl rfl Foc.here ty24 rfl) <| R rfl (ld 3 rfl rfl Foc.here ty24 rfl) <| call [1001] [] rfl Tryd.func10 rfl rfl (value_Cmp_ok _ _) (aQ rfl <| aQ rfl <| aN) (rR rfl rfl <| rN) fun r20 n21 => R rfl (mv rfl) <| R rfl (ext rfl rfl) <| R rfl (ext rfl rfl) <| R rfl (asg rfl) <| R rfl (asg rfl) <| gNil <| eThen <| gSeq <| gReg <| R rfl (ld 1 rfl rfl Foc.here ty24 rfl) <| R rfl (ld 3 rfl rfl Foc.here ty24 rfl) <| call [1001] [] rfl Tryd.func10 rfl rfl (value_Cmp_ok _ _) (aQ rfl <| aQ rfl <| aN) (rR rfl rfl <| rN) fun r22 n23 => R rfl (mv rfl) <| R rfl (ext rfl rfl) <| R rfl (ext rfl rfl) <| R rfl (asg rfl) <| R rfl (asg rfl) <| gNil <| eThen <| gSeq <| gMid (fun (s24 : Bool) aa ww => Sta (ctx 102 H [(1001, some ((.bool true), .glob 1 (arrR 64 u8R) gtab1))] w) [(7, .rd i64R r16.1), (11, .rd i64R r20.1), (13, .rd i64R r22.1), (88, .rd boolR s24)] [(1001, some ((.bool true), .glob 1 (arrR 64 u8R) gtab1))] aa ww) ?_ (fun s24 => ?_)
      · skip
        refine gReg <| R rfl (mv rfl) <| R rfl (I.neq rfl rfl) <| R rfl (mv rfl) <| lSplit 55 rfl (fun h25 => ?_) (fun h25 => ?_)
        · skip
          refine lKn 54 rfl h25 <| lSkip (gd rfl rfl rfl rfl) rfl rfl <| lSkip (gd rfl rfl rfl rfl) rfl rfl <| R rfl (pkT rfl rfl) <| R rfl (mv rfl) <| lSkip (gd rfl rfl rfl rfl) rfl rfl <| lSkip (gd rfl rfl rfl rfl) rfl rfl <| R rfl (pkT rfl rfl) <| R rfl (mv rfl) <| lSkip (gd rfl rfl rfl rfl) rfl rfl <| lSkip (gd rfl rfl rfl rfl) rfl rfl <| R rfl (pkT rfl rfl) <| R rfl (mv rfl) <| lSkip (gd rfl rfl rfl rfl) rfl rfl <| lSkip (gd rfl rfl rfl rfl) rfl rfl <| lSkip (gd rfl rfl rfl rfl) rfl rfl <| lSkip (gd rfl rfl rfl rfl) rfl rfl <| R rfl (pkT rfl rfl) <| R rfl (mv rfl) <| lSkip (gd rfl rfl rfl rfl) rfl rfl <| lSkip (gd rfl rfl rfl rfl) rfl rfl <| R rfl (pkT rfl rfl) <| R rfl (mv rfl) <| lSkip (gd rfl rfl rfl rfl) rfl rfl <| lSkip (gd rfl rfl rfl rfl) rfl rfl <| R rfl (pkT rfl rfl) <| R rfl (mv rfl) <| lSkip (gd rfl rfl rfl rfl) rfl rfl <| lSkip (gd rfl rfl rfl rfl) rfl rfl <| lSkip (gd rfl rfl rfl rfl) rfl rfl <| lSkip (gd rfl rfl rfl rfl) rfl rfl <| lSkip (gd rfl rfl rfl rfl) rfl rfl <| lSkip (gd rfl rfl rfl rfl) rfl rfl <| R rfl (pkT rfl rfl) <| gNil <| eMid (fun aa ww h => h.sub [1001] (sS rfl <| sS rfl <| sS rfl <| sS rfl <| sN) (rR rfl rfl <| rN))
        · skip
          refine lKn 54 rfl h25 <| lRun (gd rfl rfl rfl rfl) rfl rfl (mv rfl) <| lRun (gd rfl rfl rfl rfl) rfl rfl (I.neq rfl rfl) <| R rfl (pkF rfl rfl) <| R rfl (mv rfl) <| lSplit 59 rfl (fun h26 => ?_) (fun h26 => ?_)
          · skip
            refine lKn 57 rfl h26 <| lKn 58 rfl h26 <| lSkip (gd rfl rfl rfl rfl) rfl rfl <| lSkip (gd rfl rfl rfl rfl) rfl rfl <| R rfl (pkT rfl rfl) <| R rfl (mv rfl) <| lSkip (gd rfl rfl rfl rfl) rfl rfl <| lSkip (gd rfl rfl rfl rfl) rfl rfl <| R rfl (pkT rfl rfl) <| R rfl (mv rfl) <| lSkip (gd rfl rfl rfl rfl) rfl rfl <| lSkip (gd rfl rfl rfl rfl) rfl rfl <| lSkip (gd rfl rfl rfl rfl) rfl rfl <| lSkip (gd rfl rfl rfl rfl) rfl rfl <| R rfl (pkT rfl rfl) <| R rfl (mv rfl) <| lSkip (gd rfl rfl rfl rfl) rfl rfl <| lSkip (gd rfl rfl rfl rfl) rfl rfl <| R rfl (pkT rfl rfl) <| R rfl (mv rfl) <| lSkip (gd rfl rfl rfl rfl) rfl rfl <| lSkip (gd rfl rfl rfl rfl) rfl rfl <| R rfl (pkT rfl rfl) <| R rfl (mv rfl) <| lSkip (gd rfl rfl rfl rfl) rfl rfl <| lSkip (gd rfl rfl rfl rfl) rfl rfl <| lSkip (gd rfl rfl rfl rfl) rfl rfl <| lSkip (gd rfl rfl rfl rfl) rfl rfl <| lSkip (gd rfl rfl rfl rfl) rfl rfl <| lSkip (gd rfl rfl rfl rfl) rfl rfl <| R rfl (pkT rfl rfl) <| gNil <| eMid (fun aa ww h => h.sub [1001] (sS rfl <| sS rfl <| sS rfl <| sS rfl <| sN) (rR rfl rfl <| rN))
          · skip
            refine lKn 57 rfl h26 <| lKn 58 rfl h26 <| lRun (gd rfl rfl rfl rfl) rfl rfl (mv rfl) <| lRun (gd rfl rfl rfl rfl) rfl rfl (I.neq rfl rfl) <| R rfl (pkF rfl rfl) <| R rfl (mv rfl) <| lSplit 63 rfl (fun h27 => ?_) (fun h27 => ?_)
            · skip
              refine lKn 61 rfl h27 <| lKn 62 rfl h27 <| lSkip (gd rfl rfl rfl rfl) rfl rfl <| lSkip (gd rfl rfl rfl rfl) rfl rfl <| R rfl (pkT rfl rfl) <| R rfl (mv rfl) <| lSkip (gd rfl rfl rfl rfl) rfl rfl <| lSkip (gd rfl rfl rfl rfl) rfl rfl <| lSkip (gd rfl rfl rfl rfl) rfl rfl <| lSkip (gd rfl rfl rfl rfl) rfl rfl <| R rfl (pkT rfl rfl) <| R rfl (mv rfl) <| lSkip (gd rfl rfl rfl rfl) rfl rfl <| lSkip (gd rfl rfl rfl rfl) rfl rfl <| R rfl (pkT rfl rfl) <| R rfl (mv rfl) <| lSkip (gd rfl rfl rfl rfl) rfl rfl <| lSkip (gd rfl rfl rfl rfl) rfl rfl <| R rfl (pkT rfl rfl) <| R rfl (mv rfl) <| lSkip (gd rfl rfl rfl rfl) rfl rfl <| lSkip (gd rfl rfl rfl rfl) rfl rfl <| lSkip (gd rfl rfl rfl rfl) rfl rfl <| lSkip (gd rfl rfl rfl rfl) rfl rfl <| lSkip (gd rfl rfl rfl rfl) rfl rfl <| lSkip (gd rfl rfl rfl rfl) rfl rfl <| R rfl (pkT rfl rfl) <| gNil <| eMid (fun aa ww h => h.sub [1001] (sS rfl <| sS rfl <| sS rfl <| sS rfl <| sN) (rR rfl rfl <| rN))
            · skip
              refine lKn 61 rfl h27 <| lKn 62 rfl h27 <| lRun (gd rfl rfl rfl rfl) rfl rfl (mv rfl) <| lRun (gd rfl rfl rfl rfl) rfl rfl (I.neq rfl rfl) <| R rfl (pkF rfl rfl) <| R rfl (mv rfl) <| lSplit 67 rfl (fun h28 => ?_) (fun h28 => ?_)
              · skip
                refine lKn 65 rfl h28 <| lKn 66 rfl h28 <| lSkip (gd rfl rfl rfl rfl) rfl rfl <| lSkip (gd rfl rfl rfl rfl) rfl rfl <| lSkip (gd rfl rfl rfl rfl) rfl rfl <| lSkip (gd rfl rfl rfl rfl) rfl rfl <| R rfl (pkT rfl rfl) <| R rfl (mv rfl) <| lSkip (gd rfl rfl rfl rfl) rfl rfl <| lSkip (gd rfl rfl rfl rfl) rfl rfl <| R rfl (pkT rfl rfl) <| R rfl (mv rfl) <| lSkip (gd rfl rfl rfl rfl) rfl rfl <| lSkip (gd rfl rfl rfl rfl) rfl rfl <| R rfl (pkT rfl rfl) <| R rfl (mv rfl) <| lSkip (gd rfl rfl rfl rfl) rfl rfl <| lSkip (gd rfl rfl rfl rfl) rfl rfl <| lSkip (gd rfl rfl rfl rfl) rfl rfl <| lSkip (gd rfl rfl rfl rfl) rfl rfl <| lSkip (gd rfl rfl rfl rfl) rfl rfl <| lSkip (gd rfl rfl rfl rfl) rfl rfl <| R rfl (pkT rfl rfl) <| gNil <| eMid (fun aa ww h => h.sub [1001] (sS rfl <| sS rfl <| sS rfl <| sS rfl <| sN) (rR rfl rfl <| rN))
              · skip
                refine lKn 65 rfl h28 <| lKn 66 rfl h28 <| lRun (gd rfl rfl rfl rfl) rfl rfl (mv rfl) <| lRun (gd rfl rfl rfl rfl) rfl rfl (mv rfl) <| lRun (gd rfl rfl rfl rfl) rfl rfl (I.neg rfl) <| lRun (gd rfl rfl rfl rfl) rfl rfl (I.neq rfl rfl) <| R rfl (pkF rfl rfl) <| R rfl (mv rfl) <| lSplit 73 rfl (fun h29 => ?_) (fun h29 => ?_)
                · skip
                  refine lKn 71 rfl h29 <| lKn 72 rfl h29 <| lSkip (gd rfl rfl rfl rfl) rfl rfl <| lSkip (gd rfl rfl rfl rfl) rfl rfl <| R rfl (pkT rfl rfl) <| R rfl (mv rfl) <| lSkip (gd rfl rfl rfl rfl) rfl rfl <| lSkip (gd rfl rfl rfl rfl) rfl rfl <| R rfl (pkT rfl rfl) <| R rfl (mv rfl) <| lSkip (gd rfl rfl rfl rfl) rfl rfl <| lSkip (gd rfl rfl rfl rfl) rfl rfl <| lSkip (gd rfl rfl rfl rfl) rfl rfl <| lSkip (gd rfl rfl rfl rfl) rfl rfl <| lSkip (gd rfl rfl rfl rfl) rfl rfl <| lSkip (gd rfl rfl rfl rfl) rfl rfl <| R rfl (pkT rfl rfl) <| gNil <| eMid (fun aa ww h => h.sub [1001] (sS rfl <| sS rfl <| sS rfl <| sS rfl <| sN) (rR rfl rfl <| rN))
                · skip
                  refine lKn 71 rfl h29 <| lKn 72 rfl h29 <| lRun (gd rfl rfl rfl rfl) rfl rfl (mv rfl) <| lRun (gd rfl rfl rfl rfl) rfl rfl (I.lss rfl rfl) <| R rfl (pkF rfl rfl) <| R rfl (mv rfl) <| lSplit 77 rfl (fun h30 => ?_) (fun h30 => ?_)
                  · skip
                    refine lKn 75 rfl h30 <| lKn 76 rfl h30 <| lSkip (gd rfl rfl rfl rfl) rfl rfl <| lSkip (gd rfl rfl rfl rfl) rfl rfl <| R rfl (pkT rfl rfl) <| R rfl (mv rfl) <| lSkip (gd rfl rfl rfl rfl) rfl rfl <| lSkip (gd rfl rfl rfl rfl) rfl rfl <| lSkip (gd rfl rfl rfl rfl) rfl rfl <| lSkip (gd rfl rfl rfl rfl) rfl rfl <| lSkip (gd rfl rfl rfl rfl) rfl rfl <| lSkip (gd rfl rfl rfl rfl) rfl rfl <| R rfl (pkT rfl rfl) <| gNil <| eMid (fun aa ww h => h.sub [1001] (sS rfl <| sS rfl <| sS rfl <| sS rfl <| sN) (rR rfl rfl <| rN))
                  · skip
                    refine lKn 75 rfl h30 <| lKn 76 rfl h30 <| lRun (gd rfl rfl rfl rfl) rfl rfl (mv rfl) <| lRun (gd rfl rfl rfl rfl) rfl rfl (I.gtr rfl rfl) <| R rfl (pkF rfl rfl) <| R rfl (mv rfl) <| lSplit 81 rfl (fun h31 => ?_) (fun h31 => ?_)
                    · skip
                      refine lKn 79 rfl h31 <| lKn 80 rfl h31 <| lSkip (gd rfl rfl rfl rfl) rfl rfl <| lSkip (gd rfl rfl rfl rfl) rfl rfl <| lSkip (gd rfl rfl rfl rfl) rfl rfl <| lSkip (gd rfl rfl rfl rfl) rfl rfl <| lSkip (gd rfl rfl rfl rfl) rfl rfl <| lSkip (gd rfl rfl rfl rfl) rfl rfl <| R rfl (pkT rfl rfl) <| gNil <| eMid (fun aa ww h => h.sub [1001] (sS rfl <| sS rfl <| sS rfl <| sS rfl <| sN) (rR rfl rfl <| rN))
                    · skip
                      refine lKn 79 rfl h31 <| lKn 80 rfl h31 <| lRun (gd rfl rfl rfl rfl) rfl rfl (mv rfl) <| lRun (gd rfl rfl rfl rfl) rfl rfl (I.eql rfl rfl) <| lRun (gd rfl rfl rfl rfl) rfl rfl (ld 1 rfl rfl Foc.here ty24 rfl) <| lRun (gd rfl rfl rfl rfl) rfl rfl (ld 2 rfl rfl Foc.here ty24 rfl) <| lRun (gd rfl rfl rfl rfl) rfl rfl (eqA rfl rfl eq24 rfl rfl gq24) <| lRun (gd rfl rfl rfl rfl) rfl rfl (neB Tryd.underlying4 rfl rfl) <| R rfl (pkF rfl rfl) <| gNil <| eMid (fun aa ww h => h.sub [1001] (sS rfl <| sS rfl <| sS rfl <| sS rfl <| sN) (rR rfl rfl <| rN))
      · skip
        refine gIf rfl rfl (fun h32 => ?_) (fun h32 => ?_)
        · skip
          refine gSeq <| gReg <| R rfl (asg rfl) <| gNil <| eThen <| gRet <| eTret <| eRet [] [1001] rfl (eE rfl <| eN) (rR rfl rfl <| rN)
        · skip
          refine gSkip <| eThen <| gSeq <| gReg <| R rfl (mv rfl) <| R rfl (I.gtr rfl rfl) <| R rfl (mv rfl) <| lSplit 91 rfl (fun h33 => ?_) (fun h33 => ?_)
          · skip
            refine lKn 90 rfl h33 <| lSkip (gd rfl rfl rfl rfl) rfl rfl <| lSkip (gd rfl rfl rfl rfl) rfl rfl <| R rfl (pkT rfl rfl) <| R rfl (mv rfl) <| lSkip (gd rfl rfl rfl rfl) rfl rfl <| lSkip (gd rfl rfl rfl rfl) rfl rfl <| R rfl (pkT rfl rfl) <| R rfl (mv rfl) <| callg [1001] [] (gd rfl rfl rfl rfl) rfl Tryd.func9 rfl rfl (braidlaw05_alive_ok) (aN) (rR rfl rfl <| rN) fun r34 n35 => R rfl (pkT rfl rfl) <| R rfl (asg rfl) <| gNil <| eThen <| gRet <| eRet [] [1001] rfl (eE rfl <| eN) (rR rfl rfl <| rN)
          · skip
            refine lKn 90 rfl h33 <| lRun (gd rfl rfl rfl rfl) rfl rfl (mv rfl) <| lRun (gd rfl rfl rfl rfl) rfl rfl (I.gtr rfl rfl) <| R rfl (pkF rfl rfl) <| R rfl (mv rfl) <| lSplit 95 rfl (fun h36 => ?_) (fun h36 => ?_)
            · skip
              refine lKn 93 rfl h36 <| lKn 94 rfl h36 <| lSkip (gd rfl rfl rfl rfl) rfl rfl <| lSkip (gd rfl rfl rfl rfl) rfl rfl <| R rfl (pkT rfl rfl) <| R rfl (mv rfl) <| callg [1001] [] (gd rfl rfl rfl rfl) rfl Tryd.func9 rfl rfl (braidlaw05_alive_ok) (aN) (rR rfl rfl <| rN) fun r37 n38 => R rfl (pkT rfl rfl) <| R rfl (asg rfl) <| gNil <| eThen <| gRet <| eRet [] [1001] rfl (eE rfl <| eN) (rR rfl rfl <| rN)
            · skip
              refine lKn 93 rfl h36 <| lKn 94 rfl h36 <| lRun (gd rfl rfl rfl rfl) rfl rfl (mv rfl) <| lRun (gd rfl rfl rfl rfl) rfl rfl (I.leq rfl rfl) <| R rfl (pkF rfl rfl) <| R rfl (mv rfl) <| lSplit 99 rfl (fun h39 => ?_) (fun h39 => ?_)
              · skip
                refine lKn 97 rfl h39 <| lKn 98 rfl h39 <| callg [1001] [] (gd rfl rfl rfl rfl) rfl Tryd.func9 rfl rfl (braidlaw05_alive_ok) (aN) (rR rfl rfl <| rN) fun r40 n41 => R rfl (pkT rfl rfl) <| R rfl (asg rfl) <| gNil <| eThen <| gRet <| eRet [] [1001] rfl (eE rfl <| eN) (rR rfl rfl <| rN)
              · skip
                refine lKn 97 rfl h39 <| lKn 98 rfl h39 <| lSkip (gd rfl rfl rfl rfl) rfl rfl <| R rfl (pkF rfl rfl) <| R rfl (asg rfl) <| gNil <| eThen <| gRet <| eRet [] [1001] rfl (eE rfl <| eN) (rR rfl rfl <| rN)

end Go.Proofs.YtklfgpdfongaeaaDoor
