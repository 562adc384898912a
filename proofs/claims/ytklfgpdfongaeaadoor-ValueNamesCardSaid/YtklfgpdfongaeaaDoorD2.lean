/- Functions and what the code of each does. -/
import Derived.Test.YtklfgpdfongaeaaDoorD1
namespace Go.Proofs.YtklfgpdfongaeaaDoor
open Go Go.RowKit
set_option linter.unusedSimpArgs false
set_option linter.unusedVariables false
def braidlaw05_sized_L0 (s7 : UInt64 × UInt64) : Option (Sum (UInt64 × UInt64) (UInt64 × UInt64)) :=
  if decide (s7.1 < 4503599627370496) then
    some (.inr (s7.1 * 2, s7.2 - 1))
  else
    some (.inl (s7.1, s7.2))
def braidlaw05_sized_L2 (s10 : UInt64 × UInt64) : Option (Sum (UInt64 × UInt64) (UInt64 × UInt64)) :=
  if decide (9007199254740992 ≤ s10.1) then
    some (.inr (s10.1 / 2, s10.2 + 1))
  else
    some (.inl (s10.1, s10.2))
def braidlaw05_sized (a0 : Int) : Option (UInt64) :=
  some (UInt64.ofInt a0) >>= fun y1 =>
  (if decide (a0 < 0) then
    some (UInt64.ofInt (w64 (0 - a0))) >>= fun y4 =>
    some (9223372036854775808, y4)
  else
    some (0, y1)) >>= fun s2 =>
  if s2.2 == 0 then
    some 0
  else
    (iter (braidlaw05_sized_L0) (s2.2, 1075)) >>= fun s6 =>
    (iter (braidlaw05_sized_L2) (s6.1, s6.2)) >>= fun s9 =>
    some ((s2.1 ||| (shl64 s9.2 52)) ||| (s9.1 % 4503599627370496)) >>= fun y12 =>
    some y12
set_option maxRecDepth 100000 in
theorem braidlaw05_sized_ok (a0 : Int) : Spec Tryd.prog 14 [.rd i64R a0] [] (braidlaw05_sized a0) (fun r nv => ⟨[.rd u64R r], []⟩) := by
  refine spec 34 Tryd.func14 rfl rfl rfl fun H w => ?_
  refine gSeq <| gReg <| R rfl (asg rfl) <| gNil <| eThen <| gSeq <| gReg <| R rfl (asg rfl) <| gNil <| eThen <| gSeq <| gReg <| R rfl (mv rfl) <| R rfl (I.toU rfl Tryd.underlying2 Tryd.underlying22) <| R rfl (asg rfl) <| lName 4 rfl fun y1 => gNil <| eThen <| gMid (fun (s2 : UInt64 × UInt64) aa ww => Sta (ctx 34 H [] w) [(3, .rd u64R s2.1), (4, .rd u64R s2.2)] [] aa ww) ?_ (fun s2 => ?_)
  · skip
    refine gSeq <| gReg <| R rfl (mv rfl) <| R rfl (I.lss rfl rfl) <| gNil <| eThen <| gIf rfl rfl (fun h3 => ?_) (fun h3 => ?_)
    · skip
      refine gReg <| R rfl (mv rfl) <| R rfl (I.neg rfl) <| R rfl (I.toU rfl Tryd.underlying2 Tryd.underlying22) <| R rfl (asg rfl) <| R rfl (asg rfl) <| lName 4 rfl fun y4 => gNil <| eMid (fun aa ww h => h.sub [] (sS rfl <| sS rfl <| sN) (rN))
    · skip
      refine gSkip <| eMid (fun aa ww h => h.sub [] (sS rfl <| sS rfl <| sN) (rN))
  · skip
    refine gSeq <| gSeq <| gReg <| R rfl (mv rfl) <| R rfl (U.eql rfl rfl) <| gNil <| eThen <| gIf rfl rfl (fun h5 => ?_) (fun h5 => ?_)
    · skip
      refine gSeq <| gReg <| R rfl (asg rfl) <| gNil <| eThen <| gRet <| eTret <| eRet [] [] rfl (eE rfl <| eN) (rN)
    · skip
      refine gSkip <| eThen <| gSeq <| gReg <| R rfl (asg rfl) <| gNil <| eThen <| gMid (fun (s6 : UInt64 × UInt64) aa ww => Sta (ctx 34 H [] w) [(3, .rd u64R s2.1), (4, .rd u64R s6.1), (5, .rd u64R s6.2)] [] aa ww) ?_ (fun s6 => ?_)
      · skip
        refine gLoop (fun (s7 : UInt64 × UInt64) aa ww => Sta (ctx 34 H [] w) [(3, .rd u64R s2.1), (4, .rd u64R s7.1), (5, .rd u64R s7.2)] [] aa ww) (fun aa ww h => h.sub [] (sS rfl <| sS rfl <| sS rfl <| sN) (rN)) (fun s7 => ?_)
        refine gSeq <| gSeq <| gReg <| R rfl (mv rfl) <| R rfl (U.lss rfl rfl) <| gNil <| eThen <| gIf rfl rfl (fun h8 => ?_) (fun h8 => ?_)
        · skip
          refine gSkip <| eThen <| gBlk <| gSeq <| gReg <| R rfl (mv rfl) <| R rfl (U.mul rfl rfl) <| R rfl (asg rfl) <| gNil <| eThen <| gReg <| R rfl (mv rfl) <| R rfl (U.sub rfl rfl) <| R rfl (asg rfl) <| gNil <| eBlk <| eNext (fun aa ww h => h.sub [] (sS rfl <| sS rfl <| sS rfl <| sN) (rN))
        · skip
          refine gExit <| eTexit <| eLeave <| eMid (fun aa ww h => h.sub [] (sS rfl <| sS rfl <| sS rfl <| sN) (rN))
      · skip
        refine gMid (fun (s9 : UInt64 × UInt64) aa ww => Sta (ctx 34 H [] w) [(3, .rd u64R s2.1), (4, .rd u64R s9.1), (5, .rd u64R s9.2)] [] aa ww) ?_ (fun s9 => ?_)
        · skip
          refine gLoop (fun (s10 : UInt64 × UInt64) aa ww => Sta (ctx 34 H [] w) [(3, .rd u64R s2.1), (4, .rd u64R s10.1), (5, .rd u64R s10.2)] [] aa ww) (fun aa ww h => h.sub [] (sS rfl <| sS rfl <| sS rfl <| sN) (rN)) (fun s10 => ?_)
          refine gSeq <| gSeq <| gReg <| R rfl (mv rfl) <| R rfl (U.geq rfl rfl) <| gNil <| eThen <| gIf rfl rfl (fun h11 => ?_) (fun h11 => ?_)
          · skip
            refine gSkip <| eThen <| gBlk <| gSeq <| gReg <| R rfl (mv rfl) <| R rfl (U.quo rfl rfl (by decide)) <| R rfl (asg rfl) <| gNil <| eThen <| gReg <| R rfl (mv rfl) <| R rfl (U.add rfl rfl) <| R rfl (asg rfl) <| gNil <| eBlk <| eNext (fun aa ww h => h.sub [] (sS rfl <| sS rfl <| sS rfl <| sN) (rN))
          · skip
            refine gExit <| eTexit <| eLeave <| eMid (fun aa ww h => h.sub [] (sS rfl <| sS rfl <| sS rfl <| sN) (rN))
        · skip
          refine gSeq <| gReg <| R rfl (mv rfl) <| R rfl (mv rfl) <| R rfl (U.shl rfl rfl (Int.natCast_nonneg _)) <| R rfl (U.or rfl rfl) <| R rfl (mv rfl) <| R rfl (U.rem rfl rfl (by decide)) <| R rfl (U.or rfl rfl) <| R rfl (asg rfl) <| lName 2 rfl fun y12 => gNil <| eThen <| gRet <| eRet [] [] rfl (eE rfl <| eN) (rN)


def braidlaw05_ValueAs (a0 : Int) (a1 : Int) (a2 : UInt64) (a3 : UInt64) (a4 : api_Value) : Option (Bool) :=
  value_Number a0 >>= fun r2 =>
  value_Number a1 >>= fun r4 =>
  value_Cmp r2 r4 >>= fun r6 =>
  (if r6.2 != 0 then
    some true
  else
    if (decide (r6.1 < 0)) != (decide (a0 < a1)) then
      some true
    else
      some ((decide (0 < r6.1)) != (decide (a1 < a0)))) >>= fun s8 =>
  if s8 then
    some false
  else
    orRet ((value_Class a2 >>= fun r14 =>
    if r14 != 5 then
      value_Class a3 >>= fun r17 =>
      if r17 != 5 then
        some ((shr64 a2 63) == (shr64 a3 63))
      else
        some false
    else
      some false) >>= fun s13 =>
    if s13 then
      value_Float a2 >>= fun r21 =>
      value_Float a3 >>= fun r23 =>
      value_Cmp r21 r23 >>= fun r25 =>
      some (decide (a2 < a3)) >>= fun y27 =>
      some (decide (a3 < a2)) >>= fun y28 =>
      (if (shr64 a2 63) == 1 then
        some (y28, y27)
      else
        some (y27, y28)) >>= fun s29 =>
      if r25.2 != 0 then
        some (.inl false)
      else
        if (decide (r25.1 < 0)) != s29.1 then
          some (.inl false)
        else
          if (decide (0 < r25.1)) != s29.2 then
            some (.inl false)
          else
            some (.inr ())
    else
      some (.inr ())) fun s12 =>
    (if decide (9007199254740992 < a0) then
      some true
    else
      if decide (a0 < (-9007199254740992)) then
        some true
      else
        braidlaw05_fit a4 >>= fun r37 =>
        some (!r37)) >>= fun s34 =>
    if s34 then
      braidlaw05_alive >>= fun r40 =>
      some r40
    else
      value_Number a0 >>= fun r42 =>
      braidlaw05_sized a0 >>= fun r44 =>
      value_Float r44 >>= fun r46 =>
      value_Cmp r42 r46 >>= fun r50 =>
      if r50.2 != 0 then
        some false
      else
        if r50.1 != (-1) then
          some false
        else
          (if decide (a4 = r42) then
            some true
          else
            if decide (a4 = r46) then
              some true
            else
              value_Float 9223372036854775808 >>= fun r57 =>
              some (decide (a4 = r57))) >>= fun s54 =>
          if s54 then
            braidlaw05_alive >>= fun r60 =>
            some r60
          else
            value_Cmp a4 r42 >>= fun r62 =>
            value_Cmp a4 r46 >>= fun r64 =>
            if r62.2 == 0 then
              if r64.2 == 0 then
                if r62.1 == r64.1 then
                  if r62.1 != 0 then
                    braidlaw05_alive >>= fun r70 =>
                    some r70
                  else
                    some false
                else
                  some false
              else
                some false
            else
              some false
set_option maxRecDepth 100000 in
theorem braidlaw05_ValueAs_ok (a0 : Int) (a1 : Int) (a2 : UInt64) (a3 : UInt64) (a4 : api_Value) : Spec Tryd.prog 4 [.rd i64R a0, .rd i64R a1, .rd u64R a2, .rd u64R a3, .rd R_api_Value a4] [(1001, some ((.bool true), .glob 1 (arrR 64 u8R) gtab1))] (braidlaw05_ValueAs a0 a1 a2 a3 a4) (fun r nv => ⟨[.rd boolR r], [(1001, some (.bool true, .glob 1 (arrR 64 u8R) gtab1))]⟩) := by
  refine spec 172 Tryd.func4 rfl rfl rfl fun H w => ?_
  refine gSeq <| gReg <| Eb rfl (bx 1 rfl) fun v1 => R rfl (asg rfl) <| gNil <| eThen <| gSeq <| gReg <| R rfl (mv rfl) <| call [] [] rfl Tryd.func11 rfl rfl (value_Number_ok _) (aQ rfl <| aN) rN fun r2 n3 => R rfl (mv rfl) <| call [] [] rfl Tryd.func11 rfl rfl (value_Number_ok _) (aQ rfl <| aN) rN fun r4 n5 => call [1001] [] rfl Tryd.func10 rfl rfl (value_Cmp_ok _ _) (aQ rfl <| aQ rfl <| aN) (rR rfl rfl <| rN) fun r6 n7 => R rfl (mv rfl) <| R rfl (ext rfl rfl) <| R rfl (ext rfl rfl) <| R rfl (asg rfl) <| R rfl (asg rfl) <| gNil <| eThen <| gSeq <| gMid (fun (s8 : Bool) aa ww => Sta (ctx 172 H [(1001, some ((.bool true), .glob 1 (arrR 64 u8R) gtab1))] w) [(0, .rd i64R a0), (2, .rd u64R a2), (3, .rd u64R a3), (9, .val (ptrTo v1 0)), (50, .rd boolR s8)] [(1, some (v1, .box 24 [.rd R_api_Value a4])), (1001, some ((.bool true), .glob 1 (arrR 64 u8R) gtab1))] aa ww) ?_ (fun s8 => ?_)
  · skip
    refine gReg <| R rfl (mv rfl) <| R rfl (I.neq rfl rfl) <| R rfl (mv rfl) <| lSplit 35 rfl (fun h9 => ?_) (fun h9 => ?_)
    · skip
      refine lKn 34 rfl h9 <| lSkip (gd rfl rfl rfl rfl) rfl rfl <| lSkip (gd rfl rfl rfl rfl) rfl rfl <| lSkip (gd rfl rfl rfl rfl) rfl rfl <| lSkip (gd rfl rfl rfl rfl) rfl rfl <| lSkip (gd rfl rfl rfl rfl) rfl rfl <| lSkip (gd rfl rfl rfl rfl) rfl rfl <| R rfl (pkT rfl rfl) <| R rfl (mv rfl) <| lSkip (gd rfl rfl rfl rfl) rfl rfl <| lSkip (gd rfl rfl rfl rfl) rfl rfl <| lSkip (gd rfl rfl rfl rfl) rfl rfl <| lSkip (gd rfl rfl rfl rfl) rfl rfl <| lSkip (gd rfl rfl rfl rfl) rfl rfl <| lSkip (gd rfl rfl rfl rfl) rfl rfl <| R rfl (pkT rfl rfl) <| gNil <| eMid (fun aa ww h => h.sub [1, 1001] (sS rfl <| sS rfl <| sS rfl <| sS rfl <| sS rfl <| sN) (rR rfl rfl <| rR rfl rfl <| rN))
    · skip
      refine lKn 34 rfl h9 <| lRun (gd rfl rfl rfl rfl) rfl rfl (mv rfl) <| lRun (gd rfl rfl rfl rfl) rfl rfl (I.lss rfl rfl) <| lRun (gd rfl rfl rfl rfl) rfl rfl (mv rfl) <| lRun (gd rfl rfl rfl rfl) rfl rfl (mv rfl) <| lRun (gd rfl rfl rfl rfl) rfl rfl (I.lss rfl rfl) <| lRun (gd rfl rfl rfl rfl) rfl rfl (neB Tryd.underlying4 rfl rfl) <| R rfl (pkF rfl rfl) <| R rfl (mv rfl) <| lSplit 43 rfl (fun h10 => ?_) (fun h10 => ?_)
      · skip
        refine lKn 41 rfl h10 <| lKn 42 rfl h10 <| lSkip (gd rfl rfl rfl rfl) rfl rfl <| lSkip (gd rfl rfl rfl rfl) rfl rfl <| lSkip (gd rfl rfl rfl rfl) rfl rfl <| lSkip (gd rfl rfl rfl rfl) rfl rfl <| lSkip (gd rfl rfl rfl rfl) rfl rfl <| lSkip (gd rfl rfl rfl rfl) rfl rfl <| R rfl (pkT rfl rfl) <| gNil <| eMid (fun aa ww h => h.sub [1, 1001] (sS rfl <| sS rfl <| sS rfl <| sS rfl <| sS rfl <| sN) (rR rfl rfl <| rR rfl rfl <| rN))
      · skip
        refine lKn 41 rfl h10 <| lKn 42 rfl h10 <| lRun (gd rfl rfl rfl rfl) rfl rfl (mv rfl) <| lRun (gd rfl rfl rfl rfl) rfl rfl (I.gtr rfl rfl) <| lRun (gd rfl rfl rfl rfl) rfl rfl (mv rfl) <| lRun (gd rfl rfl rfl rfl) rfl rfl (mv rfl) <| lRun (gd rfl rfl rfl rfl) rfl rfl (I.gtr rfl rfl) <| lRun (gd rfl rfl rfl rfl) rfl rfl (neB Tryd.underlying4 rfl rfl) <| R rfl (pkF rfl rfl) <| gNil <| eMid (fun aa ww h => h.sub [1, 1001] (sS rfl <| sS rfl <| sS rfl <| sS rfl <| sS rfl <| sN) (rR rfl rfl <| rR rfl rfl <| rN))
  · skip
    refine gIf rfl rfl (fun h11 => ?_) (fun h11 => ?_)
    · skip
      refine gSeq <| gReg <| R rfl (asg rfl) <| gNil <| eThen <| gRet <| eTret <| eRet [] [1001] rfl (eE rfl <| eN) (rR rfl rfl <| rN)
    · skip
      refine gSkip <| eThen <| gMidR (fun (s12 : Unit) aa ww => Sta (ctx 172 H [(1001, some ((.bool true), .glob 1 (arrR 64 u8R) gtab1))] w) [(0, .rd i64R a0), (9, .val (ptrTo v1 0))] [(1, some (v1, .box 24 [.rd R_api_Value a4])), (1001, some ((.bool true), .glob 1 (arrR 64 u8R) gtab1))] aa ww) ?_ (fun s12 => ?_)
      · skip
        refine gMid (fun (s13 : Bool) aa ww => Sta (ctx 172 H [(1001, some ((.bool true), .glob 1 (arrR 64 u8R) gtab1))] w) [(0, .rd i64R a0), (2, .rd u64R a2), (3, .rd u64R a3), (9, .val (ptrTo v1 0)), (65, .rd boolR s13)] [(1, some (v1, .box 24 [.rd R_api_Value a4])), (1001, some ((.bool true), .glob 1 (arrR 64 u8R) gtab1))] aa ww) ?_ (fun s13 => ?_)
        · skip
          refine gReg <| R rfl (mv rfl) <| call [] [] rfl Tryd.func12 rfl rfl (value_Class_ok _) (aQ rfl <| aN) rN fun r14 n15 => R rfl (B.neq rfl rfl) <| R rfl (mv rfl) <| lSplit 54 rfl (fun h16 => ?_) (fun h16 => ?_)
          · skip
            refine lKn 53 rfl h16 <| lRun (gd rfl rfl rfl rfl) rfl rfl (mv rfl) <| callg [] [] (gd rfl rfl rfl rfl) rfl Tryd.func12 rfl rfl (value_Class_ok _) (aQ rfl <| aN) rN fun r17 n18 => lRun (gd rfl rfl rfl rfl) rfl rfl (B.neq rfl rfl) <| R rfl (pkT rfl rfl) <| R rfl (mv rfl) <| lSplit 59 rfl (fun h19 => ?_) (fun h19 => ?_)
            · skip
              refine lKn 57 rfl h19 <| lKn 58 rfl h19 <| lRun (gd rfl rfl rfl rfl) rfl rfl (mv rfl) <| lRun (gd rfl rfl rfl rfl) rfl rfl (U.shr rfl rfl (Int.natCast_nonneg _)) <| lRun (gd rfl rfl rfl rfl) rfl rfl (mv rfl) <| lRun (gd rfl rfl rfl rfl) rfl rfl (U.shr rfl rfl (Int.natCast_nonneg _)) <| lRun (gd rfl rfl rfl rfl) rfl rfl (U.eql rfl rfl) <| R rfl (pkT rfl rfl) <| gNil <| eMid (fun aa ww h => h.sub [1, 1001] (sS rfl <| sS rfl <| sS rfl <| sS rfl <| sS rfl <| sN) (rR rfl rfl <| rR rfl rfl <| rN))
            · skip
              refine lKn 57 rfl h19 <| lKn 58 rfl h19 <| lSkip (gd rfl rfl rfl rfl) rfl rfl <| lSkip (gd rfl rfl rfl rfl) rfl rfl <| lSkip (gd rfl rfl rfl rfl) rfl rfl <| lSkip (gd rfl rfl rfl rfl) rfl rfl <| lSkip (gd rfl rfl rfl rfl) rfl rfl <| R rfl (pkF rfl rfl) <| gNil <| eMid (fun aa ww h => h.sub [1, 1001] (sS rfl <| sS rfl <| sS rfl <| sS rfl <| sS rfl <| sN) (rR rfl rfl <| rR rfl rfl <| rN))
          · skip
            refine lKn 53 rfl h16 <| lSkip (gd rfl rfl rfl rfl) rfl rfl <| lSkip (gd rfl rfl rfl rfl) rfl rfl <| lSkip (gd rfl rfl rfl rfl) rfl rfl <| R rfl (pkF rfl rfl) <| R rfl (mv rfl) <| lSkip (gd rfl rfl rfl rfl) rfl rfl <| lSkip (gd rfl rfl rfl rfl) rfl rfl <| lSkip (gd rfl rfl rfl rfl) rfl rfl <| lSkip (gd rfl rfl rfl rfl) rfl rfl <| lSkip (gd rfl rfl rfl rfl) rfl rfl <| R rfl (pkF rfl rfl) <| gNil <| eMid (fun aa ww h => h.sub [1, 1001] (sS rfl <| sS rfl <| sS rfl <| sS rfl <| sS rfl <| sN) (rR rfl rfl <| rR rfl rfl <| rN))
        · skip
          refine gIf rfl rfl (fun h20 => ?_) (fun h20 => ?_)
          · skip
            refine gSeq <| gReg <| R rfl (mv rfl) <| call [] [] rfl Tryd.func13 rfl rfl (value_Float_ok _) (aQ rfl <| aN) rN fun r21 n22 => R rfl (mv rfl) <| call [] [] rfl Tryd.func13 rfl rfl (value_Float_ok _) (aQ rfl <| aN) rN fun r23 n24 => call [1001] [] rfl Tryd.func10 rfl rfl (value_Cmp_ok _ _) (aQ rfl <| aQ rfl <| aN) (rR rfl rfl <| rN) fun r25 n26 => R rfl (mv rfl) <| R rfl (ext rfl rfl) <| R rfl (ext rfl rfl) <| R rfl (asg rfl) <| R rfl (asg rfl) <| gNil <| eThen <| gSeq <| gReg <| R rfl (mv rfl) <| R rfl (mv rfl) <| R rfl (U.lss rfl rfl) <| R rfl (mv rfl) <| R rfl (mv rfl) <| R rfl (U.gtr rfl rfl) <| R rfl (asg rfl) <| lName 15 rfl fun y27 => R rfl (asg rfl) <| lName 16 rfl fun y28 => gNil <| eThen <| gMid (fun (s29 : Bool × Bool) aa ww => Sta (ctx 172 H [(1001, some ((.bool true), .glob 1 (arrR 64 u8R) gtab1))] w) [(0, .rd i64R a0), (9, .val (ptrTo v1 0)), (13, .rd i64R r25.1), (14, .rd i64R r25.2), (15, .rd boolR s29.1), (16, .rd boolR s29.2)] [(1, some (v1, .box 24 [.rd R_api_Value a4])), (1001, some ((.bool true), .glob 1 (arrR 64 u8R) gtab1))] aa ww) ?_ (fun s29 => ?_)
            · skip
              refine gSeq <| gReg <| R rfl (mv rfl) <| R rfl (U.shr rfl rfl (Int.natCast_nonneg _)) <| R rfl (U.eql rfl rfl) <| gNil <| eThen <| gIf rfl rfl (fun h30 => ?_) (fun h30 => ?_)
              · skip
                refine gReg <| R rfl (mv rfl) <| R rfl (mv rfl) <| R rfl (asg rfl) <| R rfl (asg rfl) <| gNil <| eMid (fun aa ww h => h.sub [1, 1001] (sS rfl <| sS rfl <| sS rfl <| sS rfl <| sS rfl <| sS rfl <| sN) (rR rfl rfl <| rR rfl rfl <| rN))
              · skip
                refine gSkip <| eMid (fun aa ww h => h.sub [1, 1001] (sS rfl <| sS rfl <| sS rfl <| sS rfl <| sS rfl <| sS rfl <| sN) (rR rfl rfl <| rR rfl rfl <| rN))
            · skip
              refine gSeq <| gReg <| R rfl (mv rfl) <| R rfl (I.neq rfl rfl) <| R rfl (mv rfl) <| lSplit 87 rfl (fun h31 => ?_) (fun h31 => ?_)
              · skip
                refine lKn 86 rfl h31 <| lSkip (gd rfl rfl rfl rfl) rfl rfl <| lSkip (gd rfl rfl rfl rfl) rfl rfl <| lSkip (gd rfl rfl rfl rfl) rfl rfl <| lSkip (gd rfl rfl rfl rfl) rfl rfl <| R rfl (pkT rfl rfl) <| R rfl (mv rfl) <| lSkip (gd rfl rfl rfl rfl) rfl rfl <| lSkip (gd rfl rfl rfl rfl) rfl rfl <| lSkip (gd rfl rfl rfl rfl) rfl rfl <| lSkip (gd rfl rfl rfl rfl) rfl rfl <| R rfl (pkT rfl rfl) <| gNil <| eThen <| gTrue rfl <| gSeq <| gReg <| R rfl (asg rfl) <| gNil <| eThen <| gRet <| eMret <| eRet [] [1001] rfl (eE rfl <| eN) (rR rfl rfl <| rN)
              · skip
                refine lKn 86 rfl h31 <| lRun (gd rfl rfl rfl rfl) rfl rfl (mv rfl) <| lRun (gd rfl rfl rfl rfl) rfl rfl (I.lss rfl rfl) <| lRun (gd rfl rfl rfl rfl) rfl rfl (mv rfl) <| lRun (gd rfl rfl rfl rfl) rfl rfl (neB Tryd.underlying4 rfl rfl) <| R rfl (pkF rfl rfl) <| R rfl (mv rfl) <| lSplit 93 rfl (fun h32 => ?_) (fun h32 => ?_)
                · skip
                  refine lKn 91 rfl h32 <| lKn 92 rfl h32 <| lSkip (gd rfl rfl rfl rfl) rfl rfl <| lSkip (gd rfl rfl rfl rfl) rfl rfl <| lSkip (gd rfl rfl rfl rfl) rfl rfl <| lSkip (gd rfl rfl rfl rfl) rfl rfl <| R rfl (pkT rfl rfl) <| gNil <| eThen <| gTrue rfl <| gSeq <| gReg <| R rfl (asg rfl) <| gNil <| eThen <| gRet <| eMret <| eRet [] [1001] rfl (eE rfl <| eN) (rR rfl rfl <| rN)
                · skip
                  refine lKn 91 rfl h32 <| lKn 92 rfl h32 <| lRun (gd rfl rfl rfl rfl) rfl rfl (mv rfl) <| lRun (gd rfl rfl rfl rfl) rfl rfl (I.gtr rfl rfl) <| lRun (gd rfl rfl rfl rfl) rfl rfl (mv rfl) <| lRun (gd rfl rfl rfl rfl) rfl rfl (neB Tryd.underlying4 rfl rfl) <| R rfl (pkF rfl rfl) <| gNil <| eThen <| gIf rfl rfl (fun h33 => ?_) (fun h33 => ?_)
                  · skip
                    refine gKn 97 rfl h33 <| gSeq <| gReg <| R rfl (asg rfl) <| gNil <| eThen <| gRet <| eMret <| eRet [] [1001] rfl (eE rfl <| eN) (rR rfl rfl <| rN)
                  · skip
                    refine gKn 97 rfl h33 <| gSkip <| eMidR (fun aa ww h => h.sub [1, 1001] (sS rfl <| sS rfl <| sN) (rR rfl rfl <| rR rfl rfl <| rN))
          · skip
            refine gSkip <| eMidR (fun aa ww h => h.sub [1, 1001] (sS rfl <| sS rfl <| sN) (rR rfl rfl <| rR rfl rfl <| rN))
      · skip
        refine gSeq <| gMid (fun (s34 : Bool) aa ww => Sta (ctx 172 H [(1001, some ((.bool true), .glob 1 (arrR 64 u8R) gtab1))] w) [(0, .rd i64R a0), (9, .val (ptrTo v1 0)), (109, .rd boolR s34)] [(1, some (v1, .box 24 [.rd R_api_Value a4])), (1001, some ((.bool true), .glob 1 (arrR 64 u8R) gtab1))] aa ww) ?_ (fun s34 => ?_)
        · skip
          refine gReg <| R rfl (mv rfl) <| R rfl (I.gtr rfl rfl) <| R rfl (mv rfl) <| lSplit 101 rfl (fun h35 => ?_) (fun h35 => ?_)
          · skip
            refine lKn 100 rfl h35 <| lSkip (gd rfl rfl rfl rfl) rfl rfl <| lSkip (gd rfl rfl rfl rfl) rfl rfl <| R rfl (pkT rfl rfl) <| R rfl (mv rfl) <| lSkip (gd rfl rfl rfl rfl) rfl rfl <| lSkip (gd rfl rfl rfl rfl) rfl rfl <| lSkip (gd rfl rfl rfl rfl) rfl rfl <| R rfl (pkT rfl rfl) <| gNil <| eMid (fun aa ww h => h.sub [1, 1001] (sS rfl <| sS rfl <| sS rfl <| sN) (rR rfl rfl <| rR rfl rfl <| rN))
          · skip
            refine lKn 100 rfl h35 <| lRun (gd rfl rfl rfl rfl) rfl rfl (mv rfl) <| lRun (gd rfl rfl rfl rfl) rfl rfl (I.lss rfl rfl) <| R rfl (pkF rfl rfl) <| R rfl (mv rfl) <| lSplit 105 rfl (fun h36 => ?_) (fun h36 => ?_)
            · skip
              refine lKn 103 rfl h36 <| lKn 104 rfl h36 <| lSkip (gd rfl rfl rfl rfl) rfl rfl <| lSkip (gd rfl rfl rfl rfl) rfl rfl <| lSkip (gd rfl rfl rfl rfl) rfl rfl <| R rfl (pkT rfl rfl) <| gNil <| eMid (fun aa ww h => h.sub [1, 1001] (sS rfl <| sS rfl <| sS rfl <| sN) (rR rfl rfl <| rR rfl rfl <| rN))
            · skip
              refine lKn 103 rfl h36 <| lKn 104 rfl h36 <| lRun (gd rfl rfl rfl rfl) rfl rfl (ld 1 rfl rfl Foc.here ty24 rfl) <| callg [] [] (gd rfl rfl rfl rfl) rfl Tryd.func8 rfl rfl (braidlaw05_fit_ok _) (aQ rfl <| aN) rN fun r37 n38 => lRun (gd rfl rfl rfl rfl) rfl rfl (not' rfl) <| R rfl (pkF rfl rfl) <| gNil <| eMid (fun aa ww h => h.sub [1, 1001] (sS rfl <| sS rfl <| sS rfl <| sN) (rR rfl rfl <| rR rfl rfl <| rN))
        · skip
          refine gIf rfl rfl (fun h39 => ?_) (fun h39 => ?_)
          · skip
            refine gSeq <| gReg <| call [1001] [] rfl Tryd.func9 rfl rfl (braidlaw05_alive_ok) (aN) (rR rfl rfl <| rN) fun r40 n41 => R rfl (asg rfl) <| gNil <| eThen <| gRet <| eTret <| eRet [] [1001] rfl (eE rfl <| eN) (rR rfl rfl <| rN)
          · skip
            refine gSkip <| eThen <| gSeq <| gReg <| R rfl (mv rfl) <| call [] [] rfl Tryd.func11 rfl rfl (value_Number_ok _) (aQ rfl <| aN) rN fun r42 n43 => R rfl (mv rfl) <| call [] [] rfl Tryd.func14 rfl rfl (braidlaw05_sized_ok _) (aQ rfl <| aN) rN fun r44 n45 => call [] [] rfl Tryd.func13 rfl rfl (value_Float_ok _) (aQ rfl <| aN) rN fun r46 n47 => Eb rfl (allc 1002 ti24 (.zr zr24)) fun v48 => Eb rfl (allc 1003 ti24 (.zr zr24)) fun v49 => Es (sto 1002 rfl rfl Foc.here rfl ti24) <| Es (sto 1003 rfl rfl Foc.here rfl ti24) <| gNil <| eThen <| gSeq <| gReg <| R rfl (ld 1002 rfl rfl Foc.here ty24 rfl) <| R rfl (ld 1003 rfl rfl Foc.here ty24 rfl) <| call [1001] [] rfl Tryd.func10 rfl rfl (value_Cmp_ok _ _) (aQ rfl <| aQ rfl <| aN) (rR rfl rfl <| rN) fun r50 n51 => R rfl (mv rfl) <| R rfl (ext rfl rfl) <| R rfl (ext rfl rfl) <| R rfl (asg rfl) <| R rfl (asg rfl) <| gNil <| eThen <| gSeq <| gSeq <| gReg <| R rfl (mv rfl) <| R rfl (I.neq rfl rfl) <| R rfl (mv rfl) <| lSplit 124 rfl (fun h52 => ?_) (fun h52 => ?_)
            · skip
              refine lKn 123 rfl h52 <| lSkip (gd rfl rfl rfl rfl) rfl rfl <| lSkip (gd rfl rfl rfl rfl) rfl rfl <| R rfl (pkT rfl rfl) <| gNil <| eThen <| gTrue rfl <| gSeq <| gReg <| R rfl (asg rfl) <| gNil <| eThen <| gRet <| eTret <| eRet [] [1001] rfl (eE rfl <| eN) (rR rfl rfl <| rN)
            · skip
              refine lKn 123 rfl h52 <| lRun (gd rfl rfl rfl rfl) rfl rfl (mv rfl) <| lRun (gd rfl rfl rfl rfl) rfl rfl (I.neq rfl rfl) <| R rfl (pkF rfl rfl) <| gNil <| eThen <| gIf rfl rfl (fun h53 => ?_) (fun h53 => ?_)
              · skip
                refine gKn 126 rfl h53 <| gSeq <| gReg <| R rfl (asg rfl) <| gNil <| eThen <| gRet <| eTret <| eRet [] [1001] rfl (eE rfl <| eN) (rR rfl rfl <| rN)
              · skip
                refine gKn 126 rfl h53 <| gSkip <| eThen <| gSeq <| gMid (fun (s54 : Bool) aa ww => Sta (ctx 172 H [(1001, some ((.bool true), .glob 1 (arrR 64 u8R) gtab1))] w) [(9, .val (ptrTo v1 0)), (17, .val (ptrTo v48 0)), (18, .val (ptrTo v49 0)), (140, .rd boolR s54)] [(1, some (v1, .box 24 [.rd R_api_Value a4])), (1002, some (v48, .box 24 [.rd R_api_Value r42])), (1003, some (v49, .box 24 [.rd R_api_Value r46])), (1001, some ((.bool true), .glob 1 (arrR 64 u8R) gtab1))] aa ww) ?_ (fun s54 => ?_)
                · skip
                  refine gRegH [] mixed rfl rfl <| hTake 0 rfl (by kernel_rfl) (by kernel_rfl) (by kernel_rfl) (gd0 rfl) rfl rfl (ld 1 rfl rfl Foc.here ty24 rfl) <| hTake 1 rfl (by kernel_rfl) (by kernel_rfl) (by kernel_rfl) (gd0 rfl) rfl rfl (ld 1002 rfl rfl Foc.here ty24 rfl) <| hTake 2 rfl (by kernel_rfl) (by kernel_rfl) (by kernel_rfl) (gd0 rfl) rfl rfl (eqA rfl rfl eq24 rfl rfl gq24) <| hTake 3 rfl (by kernel_rfl) (by kernel_rfl) (by kernel_rfl) (gd0 rfl) rfl rfl (mv rfl) <| hIf 131 rfl rfl (fun h55 => ?_) (fun h55 => ?_)
                  · skip
                    refine hKn 130 rfl rfl h55 <| hSkip 4 rfl (by kernel_rfl) (by kernel_rfl) (by kernel_rfl) (gd rfl rfl rfl rfl) rfl rfl <| hSkip 5 rfl (by kernel_rfl) (by kernel_rfl) (by kernel_rfl) (gd rfl rfl rfl rfl) rfl rfl <| hSkip 6 rfl (by kernel_rfl) (by kernel_rfl) (by kernel_rfl) (gd rfl rfl rfl rfl) rfl rfl <| hTake 7 rfl (by kernel_rfl) (by kernel_rfl) (by kernel_rfl) (gd0 rfl) rfl rfl (pkT rfl rfl) <| hTake 8 rfl (by kernel_rfl) (by kernel_rfl) (by kernel_rfl) (gd0 rfl) rfl rfl (mv rfl) <| hSkip 9 rfl (by kernel_rfl) (by kernel_rfl) (by kernel_rfl) (gd rfl rfl rfl rfl) rfl rfl <| hSkip 10 rfl (by kernel_rfl) (by kernel_rfl) (by kernel_rfl) (gd rfl rfl rfl rfl) rfl rfl <| hSkip 11 rfl (by kernel_rfl) (by kernel_rfl) (by kernel_rfl) (gd rfl rfl rfl rfl) rfl rfl <| hTake 12 rfl (by kernel_rfl) (by kernel_rfl) (by kernel_rfl) (gd0 rfl) rfl rfl (pkT rfl rfl) <| hDone (by kernel_rfl) <| eMid (fun aa ww h => h.sub [1, 1002, 1003, 1001] (sS rfl <| sS rfl <| sS rfl <| sS rfl <| sN) (rR rfl rfl <| rR rfl rfl <| rR rfl rfl <| rR rfl rfl <| rN))
                  · skip
                    refine hKn 130 rfl rfl h55 <| hTake 4 rfl (by kernel_rfl) (by kernel_rfl) (by kernel_rfl) (gd rfl rfl rfl rfl) rfl rfl (ld 1 rfl rfl Foc.here ty24 rfl) <| hTake 5 rfl (by kernel_rfl) (by kernel_rfl) (by kernel_rfl) (gd rfl rfl rfl rfl) rfl rfl (ld 1003 rfl rfl Foc.here ty24 rfl) <| hTake 6 rfl (by kernel_rfl) (by kernel_rfl) (by kernel_rfl) (gd rfl rfl rfl rfl) rfl rfl (eqA rfl rfl eq24 rfl rfl gq24) <| hTake 7 rfl (by kernel_rfl) (by kernel_rfl) (by kernel_rfl) (gd0 rfl) rfl rfl (pkF rfl rfl) <| hTake 8 rfl (by kernel_rfl) (by kernel_rfl) (by kernel_rfl) (gd0 rfl) rfl rfl (mv rfl) <| hIf 136 rfl rfl (fun h56 => ?_) (fun h56 => ?_)
                    · skip
                      refine hKn 134 rfl rfl h56 <| hKn 135 rfl rfl h56 <| hSkip 9 rfl (by kernel_rfl) (by kernel_rfl) (by kernel_rfl) (gd rfl rfl rfl rfl) rfl rfl <| hSkip 10 rfl (by kernel_rfl) (by kernel_rfl) (by kernel_rfl) (gd rfl rfl rfl rfl) rfl rfl <| hSkip 11 rfl (by kernel_rfl) (by kernel_rfl) (by kernel_rfl) (gd rfl rfl rfl rfl) rfl rfl <| hTake 12 rfl (by kernel_rfl) (by kernel_rfl) (by kernel_rfl) (gd0 rfl) rfl rfl (pkT rfl rfl) <| hDone (by kernel_rfl) <| eMid (fun aa ww h => h.sub [1, 1002, 1003, 1001] (sS rfl <| sS rfl <| sS rfl <| sS rfl <| sN) (rR rfl rfl <| rR rfl rfl <| rR rfl rfl <| rR rfl rfl <| rN))
                    · skip
                      refine hKn 134 rfl rfl h56 <| hKn 135 rfl rfl h56 <| hTake 9 rfl (by kernel_rfl) (by kernel_rfl) (by kernel_rfl) (gd rfl rfl rfl rfl) rfl rfl (ld 1 rfl rfl Foc.here ty24 rfl) <| hCallJ 10 [] [] rfl (by kernel_rfl) rfl (gd rfl rfl rfl rfl) rfl Tryd.func13 rfl rfl (value_Float_ok _) (aQ rfl <| aN) rN rfl fun r57 n58 => hTakeF 11 rfl (by kernel_rfl) (by kernel_rfl) (by kernel_rfl) (gd rfl rfl rfl rfl) rfl rfl flat_bool (eqA rfl rfl eq24 rfl rfl gq24) <| hTake 12 rfl (by kernel_rfl) (by kernel_rfl) (by kernel_rfl) (gd0 rfl) rfl rfl (pkF rfl rfl) <| hDone (by kernel_rfl) <| eMid (fun aa ww h => h.sub [1, 1002, 1003, 1001] (sS rfl <| sS rfl <| sS rfl <| sS rfl <| sN) (rR rfl rfl <| rR rfl rfl <| rR rfl rfl <| rR rfl rfl <| rN))
                · skip
                  refine gIf rfl rfl (fun h59 => ?_) (fun h59 => ?_)
                  · skip
                    refine gSeq <| gReg <| call [1001] [] rfl Tryd.func9 rfl rfl (braidlaw05_alive_ok) (aN) (rR rfl rfl <| rN) fun r60 n61 => R rfl (asg rfl) <| gNil <| eThen <| gRet <| eTret <| eRet [] [1001] rfl (eE rfl <| eN) (rR rfl rfl <| rN)
                  · skip
                    refine gSkip <| eThen <| gSeq <| gReg <| R rfl (ld 1 rfl rfl Foc.here ty24 rfl) <| R rfl (ld 1002 rfl rfl Foc.here ty24 rfl) <| call [1001] [] rfl Tryd.func10 rfl rfl (value_Cmp_ok _ _) (aQ rfl <| aQ rfl <| aN) (rR rfl rfl <| rN) fun r62 n63 => R rfl (mv rfl) <| R rfl (ext rfl rfl) <| R rfl (ext rfl rfl) <| R rfl (asg rfl) <| R rfl (asg rfl) <| gNil <| eThen <| gSeq <| gReg <| R rfl (ld 1 rfl rfl Foc.here ty24 rfl) <| R rfl (ld 1003 rfl rfl Foc.here ty24 rfl) <| call [1001] [] rfl Tryd.func10 rfl rfl (value_Cmp_ok _ _) (aQ rfl <| aQ rfl <| aN) (rR rfl rfl <| rN) fun r64 n65 => R rfl (mv rfl) <| R rfl (ext rfl rfl) <| R rfl (ext rfl rfl) <| R rfl (asg rfl) <| R rfl (asg rfl) <| gNil <| eThen <| gSeq <| gReg <| R rfl (mv rfl) <| R rfl (I.eql rfl rfl) <| R rfl (mv rfl) <| lSplit 156 rfl (fun h66 => ?_) (fun h66 => ?_)
                    · skip
                      refine lKn 155 rfl h66 <| lRun (gd rfl rfl rfl rfl) rfl rfl (mv rfl) <| lRun (gd rfl rfl rfl rfl) rfl rfl (I.eql rfl rfl) <| R rfl (pkT rfl rfl) <| R rfl (mv rfl) <| lSplit 160 rfl (fun h67 => ?_) (fun h67 => ?_)
                      · skip
                        refine lKn 158 rfl h67 <| lKn 159 rfl h67 <| lRun (gd rfl rfl rfl rfl) rfl rfl (mv rfl) <| lRun (gd rfl rfl rfl rfl) rfl rfl (mv rfl) <| lRun (gd rfl rfl rfl rfl) rfl rfl (I.eql rfl rfl) <| R rfl (pkT rfl rfl) <| R rfl (mv rfl) <| lSplit 165 rfl (fun h68 => ?_) (fun h68 => ?_)
                        · skip
                          refine lKn 163 rfl h68 <| lKn 164 rfl h68 <| lRun (gd rfl rfl rfl rfl) rfl rfl (mv rfl) <| lRun (gd rfl rfl rfl rfl) rfl rfl (I.neq rfl rfl) <| R rfl (pkT rfl rfl) <| R rfl (mv rfl) <| lSplit 169 rfl (fun h69 => ?_) (fun h69 => ?_)
                          · skip
                            refine lKn 167 rfl h69 <| lKn 168 rfl h69 <| callg [1001] [] (gd rfl rfl rfl rfl) rfl Tryd.func9 rfl rfl (braidlaw05_alive_ok) (aN) (rR rfl rfl <| rN) fun r70 n71 => R rfl (pkT rfl rfl) <| R rfl (asg rfl) <| gNil <| eThen <| gRet <| eRet [] [1001] rfl (eE rfl <| eN) (rR rfl rfl <| rN)
                          · skip
                            refine lKn 167 rfl h69 <| lKn 168 rfl h69 <| lSkip (gd rfl rfl rfl rfl) rfl rfl <| R rfl (pkF rfl rfl) <| R rfl (asg rfl) <| gNil <| eThen <| gRet <| eRet [] [1001] rfl (eE rfl <| eN) (rR rfl rfl <| rN)
                        · skip
                          refine lKn 163 rfl h68 <| lKn 164 rfl h68 <| lSkip (gd rfl rfl rfl rfl) rfl rfl <| lSkip (gd rfl rfl rfl rfl) rfl rfl <| R rfl (pkF rfl rfl) <| R rfl (mv rfl) <| lSkip (gd rfl rfl rfl rfl) rfl rfl <| R rfl (pkF rfl rfl) <| R rfl (asg rfl) <| gNil <| eThen <| gRet <| eRet [] [1001] rfl (eE rfl <| eN) (rR rfl rfl <| rN)
                      · skip
                        refine lKn 158 rfl h67 <| lKn 159 rfl h67 <| lSkip (gd rfl rfl rfl rfl) rfl rfl <| lSkip (gd rfl rfl rfl rfl) rfl rfl <| lSkip (gd rfl rfl rfl rfl) rfl rfl <| R rfl (pkF rfl rfl) <| R rfl (mv rfl) <| lSkip (gd rfl rfl rfl rfl) rfl rfl <| lSkip (gd rfl rfl rfl rfl) rfl rfl <| R rfl (pkF rfl rfl) <| R rfl (mv rfl) <| lSkip (gd rfl rfl rfl rfl) rfl rfl <| R rfl (pkF rfl rfl) <| R rfl (asg rfl) <| gNil <| eThen <| gRet <| eRet [] [1001] rfl (eE rfl <| eN) (rR rfl rfl <| rN)
                    · skip
                      refine lKn 155 rfl h66 <| lSkip (gd rfl rfl rfl rfl) rfl rfl <| lSkip (gd rfl rfl rfl rfl) rfl rfl <| R rfl (pkF rfl rfl) <| R rfl (mv rfl) <| lSkip (gd rfl rfl rfl rfl) rfl rfl <| lSkip (gd rfl rfl rfl rfl) rfl rfl <| lSkip (gd rfl rfl rfl rfl) rfl rfl <| R rfl (pkF rfl rfl) <| R rfl (mv rfl) <| lSkip (gd rfl rfl rfl rfl) rfl rfl <| lSkip (gd rfl rfl rfl rfl) rfl rfl <| R rfl (pkF rfl rfl) <| R rfl (mv rfl) <| lSkip (gd rfl rfl rfl rfl) rfl rfl <| R rfl (pkF rfl rfl) <| R rfl (asg rfl) <| gNil <| eThen <| gRet <| eRet [] [1001] rfl (eE rfl <| eN) (rR rfl rfl <| rN)

def wire_ReadNumber_L0 (x20 : List UInt8) (s22 : UInt64 × Int) : Option (Sum UInt64 (UInt64 × Int)) :=
  if decide (s22.2 < (x20.length : Int)) then
    idx x20 s22.2 >>= fun x24 =>
    some ((shl64 s22.1 8) ||| x24.toUInt64) >>= fun y26 =>
    some (.inr (y26, w64 (s22.2 + 1)))
  else
    some (.inl s22.1)
def wire_ReadNumber (a0 : List UInt8) : Option (UInt64 × Int × Int) :=
  if (a0.length : Int) == 0 then
    some (0, 0, 12)
  else
    idx a0 0 >>= fun x2 =>
    if decide (x2 ≤ 247) then
      idx a0 0 >>= fun x5 =>
      some (x5.toUInt64, 1, 0)
    else
      idx a0 0 >>= fun x7 =>
      some (w64 ((x7.toNat : Int) - 247)) >>= fun y9 =>
      orRet (if decide ((a0.length : Int) ≤ y9) then
        some (.inl (0, 0, 12))
      else
        idx a0 1 >>= fun x12 =>
        if x12 == 0 then
          some (.inl (0, 0, 12))
        else
          if y9 == 1 then
            idx a0 1 >>= fun x16 =>
            if decide (x16 ≤ 247) then
              some (.inl (0, 0, 12))
            else
              some (.inr ())
          else
            some (.inr ())) fun s10 =>
      (cut a0 1 (w64 (y9 + 1)) >>= fun x20 =>
      iter (wire_ReadNumber_L0 x20) (0, 0)) >>= fun s19 =>
      some (s19, w64 (y9 + 1), 0)
set_option maxRecDepth 100000 in
theorem wire_ReadNumber_ok (a0 : List UInt8) : Spec Tryd.prog 54 [.rd (sliceR u8R) a0] [] (wire_ReadNumber a0) (fun r nv => ⟨[.rd u64R r.1, .rd i64R r.2.1, .rd i64R r.2.2], []⟩) := by
  refine spec 63 Tryd.func54 rfl rfl rfl fun H w => ?_
  refine gSeq <| gReg <| R rfl (asg rfl) <| R rfl (asg rfl) <| R rfl (asg rfl) <| gNil <| eThen <| gSeq <| gSeq <| gReg <| R rfl (mv rfl) <| R rfl (len' rfl .rd rfl Tryd.underlying40) <| R rfl (I.eql rfl rfl) <| gNil <| eThen <| gIf rfl rfl (fun h1 => ?_) (fun h1 => ?_)
  · skip
    refine gSeq <| gReg <| R rfl (asg rfl) <| R rfl (asg rfl) <| R rfl (asg rfl) <| gNil <| eThen <| gRet <| eTret <| eRet [] [] rfl (eE rfl <| eE rfl <| eE rfl <| eN) (rN)
  · skip
    refine gSkip <| eThen <| gSeq <| gSeq <| gReg <| R rfl (mv rfl) <| lBind fun x2 h3 => R rfl (ixR rfl rfl h3 Tryd.underlying40 ti5 rfl) <| R rfl (ldR rfl ty5) <| R rfl (B.leq rfl rfl) <| gNil <| eThen <| gIf rfl rfl (fun h4 => ?_) (fun h4 => ?_)
    · skip
      refine gSeq <| gReg <| R rfl (mv rfl) <| lBind fun x5 h6 => R rfl (ixR rfl rfl h6 Tryd.underlying40 ti5 rfl) <| R rfl (ldR rfl ty5) <| R rfl (B.toU rfl Tryd.underlying5 Tryd.underlying22) <| R rfl (asg rfl) <| R rfl (asg rfl) <| R rfl (asg rfl) <| gNil <| eThen <| gRet <| eTret <| eRet [] [] rfl (eE rfl <| eE rfl <| eE rfl <| eN) (rN)
    · skip
      refine gSkip <| eThen <| gSeq <| gReg <| R rfl (mv rfl) <| lBind fun x7 h8 => R rfl (ixR rfl rfl h8 Tryd.underlying40 ti5 rfl) <| R rfl (ldR rfl ty5) <| R rfl (B.toI rfl Tryd.underlying5 Tryd.underlying3) <| R rfl (I.sub rfl rfl) <| R rfl (asg rfl) <| lName 5 rfl fun y9 => gNil <| eThen <| gMidR (fun (s10 : Unit) aa ww => Sta (ctx 63 H [] w) [(0, .rd (sliceR u8R) a0), (5, .rd i64R y9)] [] aa ww) ?_ (fun s10 => ?_)
      · skip
        refine gSeq <| gReg <| R rfl (mv rfl) <| R rfl (len' rfl .rd rfl Tryd.underlying40) <| R rfl (mv rfl) <| R rfl (I.leq rfl rfl) <| R rfl (mv rfl) <| lSplit 29 rfl (fun h11 => ?_) (fun h11 => ?_)
        · skip
          refine lKn 28 rfl h11 <| lSkip (gd rfl rfl rfl rfl) rfl rfl <| lSkip (gd rfl rfl rfl rfl) rfl rfl <| lSkip (gd rfl rfl rfl rfl) rfl rfl <| lSkip (gd rfl rfl rfl rfl) rfl rfl <| R rfl (pkT rfl rfl) <| R rfl (mv rfl) <| lSkip (gd rfl rfl rfl rfl) rfl rfl <| lSkip (gd rfl rfl rfl rfl) rfl rfl <| lSkip (gd rfl rfl rfl rfl) rfl rfl <| lSkip (gdU rfl rfl rfl) rfl rfl <| lSkip (gdU rfl rfl rfl) rfl rfl <| lSkip (gdU rfl rfl rfl) rfl rfl <| lSkip (gdU rfl rfl rfl) rfl rfl <| lSkip (gd rfl rfl rfl rfl) rfl rfl <| R rfl (pkT rfl rfl) <| gNil <| eThen <| gTrue rfl <| gSeq <| gReg <| R rfl (asg rfl) <| R rfl (asg rfl) <| R rfl (asg rfl) <| gNil <| eThen <| gRet <| eMret <| eRet [] [] rfl (eE rfl <| eE rfl <| eE rfl <| eN) (rN)
        · skip
          refine lKn 28 rfl h11 <| lRun (gd rfl rfl rfl rfl) rfl rfl (mv rfl) <| lBind fun x12 h13 => lRun (gd rfl rfl rfl rfl) rfl rfl (ixR rfl rfl h13 Tryd.underlying40 ti5 rfl) <| lRun (gd rfl rfl rfl rfl) rfl rfl (ldR rfl ty5) <| lRun (gd rfl rfl rfl rfl) rfl rfl (B.eql rfl rfl) <| R rfl (pkF rfl rfl) <| R rfl (mv rfl) <| lSplit 35 rfl (fun h14 => ?_) (fun h14 => ?_)
          · skip
            refine lKn 33 rfl h14 <| lKn 34 rfl h14 <| lSkip (gd rfl rfl rfl rfl) rfl rfl <| lSkip (gd rfl rfl rfl rfl) rfl rfl <| lSkip (gd rfl rfl rfl rfl) rfl rfl <| lSkip (gdU rfl rfl rfl) rfl rfl <| lSkip (gdU rfl rfl rfl) rfl rfl <| lSkip (gdU rfl rfl rfl) rfl rfl <| lSkip (gdU rfl rfl rfl) rfl rfl <| lSkip (gd rfl rfl rfl rfl) rfl rfl <| R rfl (pkT rfl rfl) <| gNil <| eThen <| gTrue rfl <| gSeq <| gReg <| R rfl (asg rfl) <| R rfl (asg rfl) <| R rfl (asg rfl) <| gNil <| eThen <| gRet <| eMret <| eRet [] [] rfl (eE rfl <| eE rfl <| eE rfl <| eN) (rN)
          · skip
            refine lKn 33 rfl h14 <| lKn 34 rfl h14 <| lRun (gd rfl rfl rfl rfl) rfl rfl (mv rfl) <| lRun (gd rfl rfl rfl rfl) rfl rfl (I.eql rfl rfl) <| lRun (gd rfl rfl rfl rfl) rfl rfl (mv rfl) <| lSplit 38 rfl (fun h15 => ?_) (fun h15 => ?_)
            · skip
              refine lKn 37 rfl h15 <| lRun (gd rfl rfl rfl rfl) rfl rfl (mv rfl) <| lBind fun x16 h17 => lRun (gd rfl rfl rfl rfl) rfl rfl (ixR rfl rfl h17 Tryd.underlying40 ti5 rfl) <| lRun (gd rfl rfl rfl rfl) rfl rfl (ldR rfl ty5) <| lRun (gd rfl rfl rfl rfl) rfl rfl (B.leq rfl rfl) <| lRun (gd rfl rfl rfl rfl) rfl rfl (pkT rfl rfl) <| R rfl (pkF rfl rfl) <| gNil <| eThen <| gIf rfl rfl (fun h18 => ?_) (fun h18 => ?_)
              · skip
                refine gKn 42 rfl h18 <| gKn 43 rfl h18 <| gSeq <| gReg <| R rfl (asg rfl) <| R rfl (asg rfl) <| R rfl (asg rfl) <| gNil <| eThen <| gRet <| eMret <| eRet [] [] rfl (eE rfl <| eE rfl <| eE rfl <| eN) (rN)
              · skip
                refine gKn 42 rfl h18 <| gKn 43 rfl h18 <| gSkip <| eMidR (fun aa ww h => h.sub [] (sS rfl <| sS rfl <| sN) (rN))
            · skip
              refine lKn 37 rfl h15 <| lSkip (gd rfl rfl rfl rfl) rfl rfl <| lSkip (gd rfl rfl rfl rfl) rfl rfl <| lSkip (gd rfl rfl rfl rfl) rfl rfl <| lSkip (gd rfl rfl rfl rfl) rfl rfl <| lRun (gd rfl rfl rfl rfl) rfl rfl (pkF rfl rfl) <| R rfl (pkF rfl rfl) <| gNil <| eThen <| gFalse rfl <| gSkip <| eMidR (fun aa ww h => h.sub [] (sS rfl <| sS rfl <| sN) (rN))
      · skip
        refine gSeq <| gReg <| R rfl (asg rfl) <| gNil <| eThen <| gMid (fun (s19 : UInt64) aa ww => Sta (ctx 63 H [] w) [(5, .rd i64R y9), (6, .rd u64R s19)] [] aa ww) ?_ (fun s19 => ?_)
        · skip
          refine gSeq <| gReg <| R rfl (mv rfl) <| R rfl (mv rfl) <| R rfl (I.add rfl rfl) <| lBind fun x20 h21 => R rfl (cut' rfl (.to rfl) (.to rfl) h21 Tryd.underlying40 ti5) <| R rfl (len' rfl .rd rfl Tryd.underlying40) <| R rfl (mv rfl) <| gNil <| eThen <| gLoop (fun (s22 : UInt64 × Int) aa ww => Sta (ctx 63 H [] w) [(5, .rd i64R y9), (6, .rd u64R s22.1), (48, .rd (sliceR u8R) x20), (49, .rd i64R (x20.length : Int)), (50, .rd i64R s22.2)] [] aa ww) (fun aa ww h => h.sub [] (sS rfl <| sS rfl <| sS rfl <| sS rfl <| sS rfl <| sN) (rN)) (fun s22 => ?_)
          refine gSeq <| gReg <| R rfl (I.lss rfl rfl) <| gNil <| eThen <| gSeq <| gIf rfl rfl (fun h23 => ?_) (fun h23 => ?_)
          · skip
            refine gSkip <| eThen <| gSeq <| gBlk <| gSeq <| gReg <| lBind fun x24 h25 => R rfl (ixR rfl rfl h25 Tryd.underlying40 ti5 rfl) <| R rfl (ldR rfl ty5) <| R rfl (asg rfl) <| gNil <| eThen <| gReg <| R rfl (mv rfl) <| R rfl (U.shl rfl rfl (Int.natCast_nonneg _)) <| R rfl (mv rfl) <| R rfl (B.toU rfl Tryd.underlying5 Tryd.underlying22) <| R rfl (U.or rfl rfl) <| R rfl (asg rfl) <| lName 6 rfl fun y26 => gNil <| eBlk <| eThen <| gReg <| R rfl (I.add rfl rfl) <| R rfl (mv rfl) <| gNil <| eNext (fun aa ww h => h.sub [] (sS rfl <| sS rfl <| sS rfl <| sS rfl <| sS rfl <| sN) (rN))
          · skip
            refine gExit <| eTexit <| eLeave <| eMid (fun aa ww h => h.sub [] (sS rfl <| sS rfl <| sN) (rN))
        · skip
          refine gSeq <| gReg <| R rfl (mv rfl) <| R rfl (mv rfl) <| R rfl (I.add rfl rfl) <| R rfl (asg rfl) <| R rfl (asg rfl) <| R rfl (asg rfl) <| gNil <| eThen <| gRet <| eRet [] [] rfl (eE rfl <| eE rfl <| eE rfl <| eN) (rN)


def wire_ReadSigned (a0 : List UInt8) : Option (Int × Int × Int) :=
  wire_ReadNumber a0 >>= fun r1 =>
  if r1.2.2 != 0 then
    some (0, 0, r1.2.2)
  else
    some (xorI (w64 ((shr64 r1.1 1).toNat : Int)) (w64 (0 - (w64 ((r1.1 &&& 1).toNat : Int))))) >>= fun y4 =>
    some (y4, r1.2.1, 0)
set_option maxRecDepth 100000 in
theorem wire_ReadSigned_ok (a0 : List UInt8) : Spec Tryd.prog 36 [.rd (sliceR u8R) a0] [] (wire_ReadSigned a0) (fun r nv => ⟨[.rd i64R r.1, .rd i64R r.2.1, .rd i64R r.2.2], []⟩) := by
  refine spec 26 Tryd.func36 rfl rfl rfl fun H w => ?_
  refine gSeq <| gReg <| R rfl (asg rfl) <| R rfl (asg rfl) <| R rfl (asg rfl) <| gNil <| eThen <| gSeq <| gReg <| R rfl (mv rfl) <| call [] [] rfl Tryd.func54 rfl rfl (wire_ReadNumber_ok _) (aQ rfl <| aN) rN fun r1 n2 => R rfl (mv rfl) <| R rfl (ext rfl rfl) <| R rfl (ext rfl rfl) <| R rfl (ext rfl rfl) <| R rfl (asg rfl) <| R rfl (asg rfl) <| R rfl (asg rfl) <| gNil <| eThen <| gSeq <| gSeq <| gReg <| R rfl (mv rfl) <| R rfl (I.neq rfl rfl) <| gNil <| eThen <| gIf rfl rfl (fun h3 => ?_) (fun h3 => ?_)
  · skip
    refine gSeq <| gReg <| R rfl (mv rfl) <| R rfl (asg rfl) <| R rfl (asg rfl) <| R rfl (asg rfl) <| gNil <| eThen <| gRet <| eTret <| eRet [] [] rfl (eE rfl <| eE rfl <| eE rfl <| eN) (rN)
  · skip
    refine gSkip <| eThen <| gSeq <| gReg <| R rfl (mv rfl) <| R rfl (U.shr rfl rfl (Int.natCast_nonneg _)) <| R rfl (U.toI rfl Tryd.underlying22 Tryd.underlying2) <| R rfl (mv rfl) <| R rfl (U.and rfl rfl) <| R rfl (U.toI rfl Tryd.underlying22 Tryd.underlying2) <| R rfl (I.neg rfl) <| R rfl (I.xor rfl rfl) <| R rfl (mv rfl) <| R rfl (asg rfl) <| lName 2 rfl fun y4 => R rfl (asg rfl) <| R rfl (asg rfl) <| gNil <| eThen <| gRet <| eRet [] [] rfl (eE rfl <| eE rfl <| eE rfl <| eN) (rN)


def wire_part (a0 : List UInt8) (a1 : Int) (a2 : Int) : Option ((List UInt8) × Int × Int) :=
  if decide (a1 < 0) then
    some ([], 0, 2)
  else
    wire_ReadNumber a0 >>= fun r2 =>
    (if r2.2.2 != 0 then
      some true
    else
      if decide ((UInt64.ofInt a1) < r2.1) then
        some true
      else
        chk (a2 ≠ 0) >>= fun u7 =>
        some (decide ((UInt64.ofInt (w64 (Int.tdiv (w64 ((a0.length : Int) - r2.2.1)) a2))) < r2.1))) >>= fun s4 =>
    if s4 then
      some ([], 0, 12)
    else
      some (w64 (r2.2.1 + (w64 (a2 * (w64 (r2.1.toNat : Int)))))) >>= fun y10 =>
      cut a0 r2.2.1 y10 >>= fun x11 =>
      some (x11, y10, 0)
set_option maxRecDepth 100000 in
theorem wire_part_ok (a0 : List UInt8) (a1 : Int) (a2 : Int) : Spec Tryd.prog 55 [.rd (sliceR u8R) a0, .rd i64R a1, .rd i64R a2] [] (wire_part a0 a1 a2) (fun r nv => ⟨[.rd (sliceR u8R) r.1, .rd i64R r.2.1, .rd i64R r.2.2], []⟩) := by
  refine spec 51 Tryd.func55 rfl rfl rfl fun H w => ?_
  refine gSeq <| gReg <| R rfl (asg rfl) <| R rfl (asg rfl) <| R rfl (asg rfl) <| gNil <| eThen <| gSeq <| gSeq <| gReg <| R rfl (mv rfl) <| R rfl (I.lss rfl rfl) <| gNil <| eThen <| gIf rfl rfl (fun h1 => ?_) (fun h1 => ?_)
  · skip
    refine gSeq <| gReg <| R rfl (asg rfl) <| R rfl (asg rfl) <| R rfl (asg rfl) <| gNil <| eThen <| gRet <| eTret <| eRdNil u8R 6 rfl <| eRet [] [] rfl (eE rfl <| eE rfl <| eE rfl <| eN) (rN)
  · skip
    refine gSkip <| eThen <| gSeq <| gReg <| R rfl (mv rfl) <| call [] [] rfl Tryd.func54 rfl rfl (wire_ReadNumber_ok _) (aQ rfl <| aN) rN fun r2 n3 => R rfl (mv rfl) <| R rfl (ext rfl rfl) <| R rfl (ext rfl rfl) <| R rfl (ext rfl rfl) <| R rfl (asg rfl) <| R rfl (asg rfl) <| R rfl (asg rfl) <| gNil <| eThen <| gSeq <| gMid (fun (s4 : Bool) aa ww => Sta (ctx 51 H [] w) [(0, .rd (sliceR u8R) a0), (2, .rd i64R a2), (9, .rd u64R r2.1), (10, .rd i64R r2.2.1), (39, .rd boolR s4)] [] aa ww) ?_ (fun s4 => ?_)
    · skip
      refine gReg <| R rfl (mv rfl) <| R rfl (I.neq rfl rfl) <| R rfl (mv rfl) <| lSplit 23 rfl (fun h5 => ?_) (fun h5 => ?_)
      · skip
        refine lKn 22 rfl h5 <| lSkip (gd rfl rfl rfl rfl) rfl rfl <| lSkip (gd rfl rfl rfl rfl) rfl rfl <| lSkip (gd rfl rfl rfl rfl) rfl rfl <| lSkip (gd rfl rfl rfl rfl) rfl rfl <| R rfl (pkT rfl rfl) <| R rfl (mv rfl) <| lSkip (gd rfl rfl rfl rfl) rfl rfl <| lSkip (gd rfl rfl rfl rfl) rfl rfl <| lSkip (gd rfl rfl rfl rfl) rfl rfl <| lSkip (gd rfl rfl rfl rfl) rfl rfl <| lSkip (gd rfl rfl rfl rfl) rfl rfl <| lSkip (gd rfl rfl rfl rfl) rfl rfl <| lSkip (gd rfl rfl rfl rfl) rfl rfl <| lSkip (gd rfl rfl rfl rfl) rfl rfl <| lSkip (gd rfl rfl rfl rfl) rfl rfl <| R rfl (pkT rfl rfl) <| gNil <| eMid (fun aa ww h => h.sub [] (sS rfl <| sS rfl <| sS rfl <| sS rfl <| sS rfl <| sN) (rN))
      · skip
        refine lKn 22 rfl h5 <| lRun (gd rfl rfl rfl rfl) rfl rfl (mv rfl) <| lRun (gd rfl rfl rfl rfl) rfl rfl (mv rfl) <| lRun (gd rfl rfl rfl rfl) rfl rfl (I.toU rfl Tryd.underlying3 Tryd.underlying22) <| lRun (gd rfl rfl rfl rfl) rfl rfl (U.gtr rfl rfl) <| R rfl (pkF rfl rfl) <| R rfl (mv rfl) <| lSplit 29 rfl (fun h6 => ?_) (fun h6 => ?_)
        · skip
          refine lKn 27 rfl h6 <| lKn 28 rfl h6 <| lSkip (gd rfl rfl rfl rfl) rfl rfl <| lSkip (gd rfl rfl rfl rfl) rfl rfl <| lSkip (gd rfl rfl rfl rfl) rfl rfl <| lSkip (gd rfl rfl rfl rfl) rfl rfl <| lSkip (gd rfl rfl rfl rfl) rfl rfl <| lSkip (gd rfl rfl rfl rfl) rfl rfl <| lSkip (gd rfl rfl rfl rfl) rfl rfl <| lSkip (gd rfl rfl rfl rfl) rfl rfl <| lSkip (gd rfl rfl rfl rfl) rfl rfl <| R rfl (pkT rfl rfl) <| gNil <| eMid (fun aa ww h => h.sub [] (sS rfl <| sS rfl <| sS rfl <| sS rfl <| sS rfl <| sN) (rN))
        · skip
          refine lKn 27 rfl h6 <| lKn 28 rfl h6 <| lRun (gd rfl rfl rfl rfl) rfl rfl (mv rfl) <| lRun (gd rfl rfl rfl rfl) rfl rfl (mv rfl) <| lRun (gd rfl rfl rfl rfl) rfl rfl (len' rfl .rd rfl Tryd.underlying40) <| lRun (gd rfl rfl rfl rfl) rfl rfl (mv rfl) <| lRun (gd rfl rfl rfl rfl) rfl rfl (I.sub rfl rfl) <| lRun (gd rfl rfl rfl rfl) rfl rfl (mv rfl) <| lBind fun u7 h8 => lRun (gd rfl rfl rfl rfl) rfl rfl (I.quo rfl rfl (chk_some h8)) <| lRun (gd rfl rfl rfl rfl) rfl rfl (I.toU rfl Tryd.underlying3 Tryd.underlying22) <| lRun (gd rfl rfl rfl rfl) rfl rfl (U.gtr rfl rfl) <| R rfl (pkF rfl rfl) <| gNil <| eMid (fun aa ww h => h.sub [] (sS rfl <| sS rfl <| sS rfl <| sS rfl <| sS rfl <| sN) (rN))
    · skip
      refine gIf rfl rfl (fun h9 => ?_) (fun h9 => ?_)
      · skip
        refine gSeq <| gReg <| R rfl (asg rfl) <| R rfl (asg rfl) <| R rfl (asg rfl) <| gNil <| eThen <| gRet <| eTret <| eRdNil u8R 6 rfl <| eRet [] [] rfl (eE rfl <| eE rfl <| eE rfl <| eN) (rN)
      · skip
        refine gSkip <| eThen <| gSeq <| gReg <| R rfl (mv rfl) <| R rfl (mv rfl) <| R rfl (mv rfl) <| R rfl (U.toI rfl Tryd.underlying22 Tryd.underlying3) <| R rfl (I.mul rfl rfl) <| R rfl (I.add rfl rfl) <| R rfl (asg rfl) <| lName 12 rfl fun y10 => gNil <| eThen <| gSeq <| gReg <| R rfl (mv rfl) <| R rfl (mv rfl) <| R rfl (mv rfl) <| lBind fun x11 h12 => R rfl (cut' rfl (.to rfl) (.to rfl) h12 Tryd.underlying40 ti5) <| R rfl (mv rfl) <| R rfl (asg rfl) <| R rfl (asg rfl) <| R rfl (asg rfl) <| gNil <| eThen <| gRet <| eRet [] [] rfl (eE rfl <| eE rfl <| eE rfl <| eN) (rN)


def bytes_Clone (a0 : List UInt8) : Option ((List UInt8)) :=
  app 1 ([] : List UInt8) a0 >>= fun x3 =>
  some x3
set_option maxRecDepth 100000 in
theorem bytes_Clone_ok (a0 : List UInt8) : Spec Tryd.prog 56 [.rd (sliceR u8R) a0] [] (bytes_Clone a0) (fun r nv => ⟨[.val (nv 0)], [(100, some (nv 0, .list u8R 5 r))]⟩) := by
  refine spec 8 Tryd.func56 rfl rfl rfl fun H w => ?_
  refine gSeq <| gReg <| R rfl (asg rfl) <| gNil <| eThen <| gSeq <| gSeq <| gReg <| R rfl (mv rfl) <| lNilE rfl rfl rfl Tryd.underlying40 (fun h1 => ?_) ?_
  · skip
    subst h1
    refine gNil <| eThen <| gTrue rfl <| gSeq <| gReg <| R rfl (asg rfl) <| gNil <| eThen <| gRet <| eTret <| eNew u8R 5 1 <| eRet [(.slice none 0 0)] [1] rfl (eE rfl <| eN) (rR rfl rfl <| rN)
  · skip
    refine gNil <| eThen <| gFalse rfl <| gSkip <| eThen <| gSeq <| gReg <| Ef rfl (lit (R := u8R) (([] : List UInt8) : List UInt8) 2 (pN) rfl Tryd.underlying40 ti5 rfl rfl) fun v2 => R rfl (mv rfl) <| lBind fun x3 h4 => Ef rfl (apn 2 rfl rfl rfl .rd h4 Tryd.underlying40 ti5 rfl rfl rfl) fun v5 => R rfl (asg rfl) <| gNil <| eThen <| gRet <| eRet [v5] [2] rfl (eE rfl <| eN) (rR rfl rfl <| rN)


def wire_ReadBytes (a0 : List UInt8) (a1 : Int) : Option ((List UInt8) × Int × Int) :=
  wire_part a0 a1 1 >>= fun r1 =>
  bytes_Clone r1.1 >>= fun r3 =>
  some (r3, r1.2.1, r1.2.2)
set_option maxRecDepth 100000 in
theorem wire_ReadBytes_ok (a0 : List UInt8) (a1 : Int) : Spec Tryd.prog 37 [.rd (sliceR u8R) a0, .rd i64R a1] [] (wire_ReadBytes a0 a1) (fun r nv => ⟨[.val (nv 0), .rd i64R r.2.1, .rd i64R r.2.2], [(100, some (nv 0, .list u8R 5 r.1))]⟩) := by
  refine spec 21 Tryd.func37 rfl rfl rfl fun H w => ?_
  refine gSeq <| gReg <| R rfl (asg rfl) <| R rfl (asg rfl) <| R rfl (asg rfl) <| gNil <| eThen <| gSeq <| gReg <| R rfl (mv rfl) <| R rfl (mv rfl) <| call [] [] rfl Tryd.func55 rfl rfl (wire_part_ok _ _ _) (aQ rfl <| aQ rfl <| aQ rfl <| aN) rN fun r1 n2 => R rfl (mv rfl) <| R rfl (ext rfl rfl) <| R rfl (ext rfl rfl) <| R rfl (ext rfl rfl) <| R rfl (asg rfl) <| R rfl (asg rfl) <| R rfl (asg rfl) <| gNil <| eThen <| gSeq <| gReg <| R rfl (mv rfl) <| call [] [(100, 1)] rfl Tryd.func56 rfl rfl (bytes_Clone_ok _) (aQ rfl <| aN) rN fun r3 n4 => R rfl (mv rfl) <| R rfl (mv rfl) <| R rfl (asg rfl) <| R rfl (asg rfl) <| R rfl (asg rfl) <| gNil <| eThen <| gRet <| eRet [(n4 0)] [1] rfl (eE rfl <| eE rfl <| eE rfl <| eN) (rR rfl rfl <| rN)

def value_Decode_L1 (x17 : List UInt8) (s19 : api_Value × Int) : Option (Sum api_Value (api_Value × Int)) :=
  if decide (s19.2 < (x17.length : Int)) then
    idx x17 s19.2 >>= fun x21 =>
    some (.inr ({ s19.1 with Bits := (shl64 s19.1.Bits 8) ||| x21.toUInt64 }, w64 (s19.2 + 1)))
  else
    some (.inl s19.1)
def value_Decode (a0 : List UInt8) : Option (api_Value × Int × Int) :=
  if (a0.length : Int) == 0 then
    some ((⟨0, 0, 0, []⟩ : api_Value), 0, 12)
  else
    idx a0 0 >>= fun x3 =>
    orRet (cut a0 1 (a0.length : Int) >>= fun x7 =>
    some (((⟨x3, 0, 0, []⟩ : api_Value).Kind) == 1) >>= fun y9 =>
    if y9 then
      wire_ReadSigned x7 >>= fun r11 =>
      some (.inr ({ (⟨x3, 0, 0, []⟩ : api_Value) with Num := r11.1 }, r11.2.1, r11.2.2))
    else
      some (((⟨x3, 0, 0, []⟩ : api_Value).Kind) == 2) >>= fun y13 =>
      if y13 then
        if decide ((x7.length : Int) < 8) then
          some (.inl ((⟨0, 0, 0, []⟩ : api_Value), 0, 12))
        else
          (cut x7 0 8 >>= fun x17 =>
          iter (value_Decode_L1 x17) ((⟨x3, 0, 0, []⟩ : api_Value), 0)) >>= fun s16 =>
          some (.inr (s16, 8, 0))
      else
        some (((⟨x3, 0, 0, []⟩ : api_Value).Kind) == 3) >>= fun y23 =>
        if y23 then
          wire_ReadBytes x7 30 >>= fun r25 =>
          some (.inr ({ (⟨x3, 0, 0, []⟩ : api_Value) with Text := r25.1 }, r25.2.1, r25.2.2))
        else
          some (.inr ((⟨x3, 0, 0, []⟩ : api_Value), 0, 0))) fun s6 =>
    (if s6.2.2 != 0 then
      some true
    else
      value_Check s6.1 >>= fun r29 =>
      some (r29 != 0)) >>= fun s27 =>
    if s27 then
      some ((⟨0, 0, 0, []⟩ : api_Value), 0, 12)
    else
      some (w64 (s6.2.1 + 1)) >>= fun y32 =>
      some (s6.1, y32, 0)
set_option maxRecDepth 100000 in
theorem value_Decode_ok (a0 : List UInt8) : Spec Tryd.prog 20 [.rd (sliceR u8R) a0] [] (value_Decode a0) (fun r nv => ⟨[.rd R_api_Value r.1, .rd i64R r.2.1, .rd i64R r.2.2], []⟩) := by
  refine spec 76 Tryd.func20 rfl rfl rfl fun H w => ?_
  refine gSeq <| gReg <| Eb rfl (allc 1 ti24 (.zr zr24)) fun v1 => R rfl (asg rfl) <| R rfl (asg rfl) <| gNil <| eThen <| gSeq <| gSeq <| gReg <| R rfl (mv rfl) <| R rfl (len' rfl .rd rfl Tryd.underlying40) <| R rfl (I.eql rfl rfl) <| gNil <| eThen <| gIf rfl rfl (fun h2 => ?_) (fun h2 => ?_)
  · skip
    refine gSeq <| gReg <| R rfl (bld (x' := (⟨0, 0, 0, []⟩ : api_Value)) [(0, 1), (1, 1), (2, 1), (3, 1)] Tryd.underlying24 ti24 rfl zr24 rfl (Bld.done rfl)) <| Es (sto 1 rfl rfl Foc.here rfl ti24) <| R rfl (asg rfl) <| R rfl (asg rfl) <| gNil <| eThen <| gRet <| eTret <| eRet [] [] rfl (eC 1 rfl rfl ty24 <| eE rfl <| eE rfl <| eN) (rN)
  · skip
    refine gSkip <| eThen <| gSeq <| gReg <| R rfl (mv rfl) <| lBind fun x3 h4 => R rfl (ixR rfl rfl h4 Tryd.underlying40 ti5 rfl) <| R rfl (ldR rfl ty5) <| R rfl (bld (x' := (⟨x3, 0, 0, []⟩ : api_Value)) [(0, 1), (1, 1), (2, 1), (3, 1)] Tryd.underlying24 ti24 rfl zr24 rfl (Bld.cons (pt_api_Value_Kind _) rfl rfl <| Bld.done rfl)) <| Eb rfl (allc 2 ti24 (.zr zr24)) fun v5 => Es (sto 2 rfl rfl Foc.here rfl ti24) <| R rfl (asg rfl) <| R rfl (asg rfl) <| gNil <| eThen <| gMidR (fun (s6 : api_Value × Int × Int) aa ww => Sta (ctx 76 H [] w) [(2, .val (ptrTo v1 0)), (5, .val (ptrTo v5 0)), (6, .rd i64R s6.2.1), (7, .rd i64R s6.2.2)] [(1, some (v1, .box 24 [.rd R_api_Value (⟨0, 0, 0, []⟩ : api_Value)])), (2, some (v5, .box 24 [.rd R_api_Value s6.1]))] aa ww) ?_ (fun s6 => ?_)
    · skip
      refine gSeq <| gReg <| R rfl (mv rfl) <| lBind fun x7 h8 => R rfl (cut' rfl (.to rfl) .no h8 Tryd.underlying40 ti5) <| R rfl (asg rfl) <| gNil <| eThen <| gSeq <| gReg <| R rfl (faB 2 rfl rfl Tryd.underlying24 rfl (by exact ti5)) <| R rfl (ld 2 rfl rfl ((Foc.here).part (pt_api_Value_Kind _)) ty5 rfl) <| gNil <| eThen <| gBlk <| gSeq <| gReg <| R rfl (B.eql rfl rfl) <| R rfl (asg rfl) <| lName 24 rfl fun y9 => gNil <| eThen <| gIf rfl rfl (fun h10 => ?_) (fun h10 => ?_)
      · skip
        refine gReg <| R rfl (mv rfl) <| call [] [] rfl Tryd.func36 rfl rfl (wire_ReadSigned_ok _) (aQ rfl <| aN) rN fun r11 n12 => R rfl (mv rfl) <| R rfl (ext rfl rfl) <| R rfl (ext rfl rfl) <| R rfl (ext rfl rfl) <| R rfl (faB 2 rfl rfl Tryd.underlying24 rfl (by exact ti2)) <| Es (sto 2 rfl rfl ((Foc.here).part (pt_api_Value_Num _)) rfl ti2) <| R rfl (asg rfl) <| R rfl (asg rfl) <| gNil <| eBlk <| eMidR (fun aa ww h => h.sub [1, 2] (sS rfl <| sS rfl <| sS rfl <| sS rfl <| sN) (rR rfl rfl <| rR rfl rfl <| rN))
      · skip
        refine gSeq <| gReg <| R rfl (B.eql rfl rfl) <| R rfl (asg rfl) <| lName 33 rfl fun y13 => gNil <| eThen <| gIf rfl rfl (fun h14 => ?_) (fun h14 => ?_)
        · skip
          refine gSeq <| gSeq <| gReg <| R rfl (mv rfl) <| R rfl (len' rfl .rd rfl Tryd.underlying40) <| R rfl (I.lss rfl rfl) <| gNil <| eThen <| gIf rfl rfl (fun h15 => ?_) (fun h15 => ?_)
          · skip
            refine gSeq <| gReg <| R rfl (bld (x' := (⟨0, 0, 0, []⟩ : api_Value)) [(0, 1), (1, 1), (2, 1), (3, 1)] Tryd.underlying24 ti24 rfl zr24 rfl (Bld.done rfl)) <| Es (sto 1 rfl rfl Foc.here rfl ti24) <| R rfl (asg rfl) <| R rfl (asg rfl) <| gNil <| eThen <| gRet <| eTret <| eBret <| eMret <| eRet [] [] rfl (eC 1 rfl rfl ty24 <| eE rfl <| eE rfl <| eN) (rN)
          · skip
            refine gSkip <| eThen <| gMid (fun (s16 : api_Value) aa ww => Sta (ctx 76 H [] w) [(2, .val (ptrTo v1 0)), (5, .val (ptrTo v5 0)), (7, .rd i64R 0)] [(1, some (v1, .box 24 [.rd R_api_Value (⟨0, 0, 0, []⟩ : api_Value)])), (2, some (v5, .box 24 [.rd R_api_Value s16]))] aa ww) ?_ (fun s16 => ?_)
            · skip
              refine gSeq <| gReg <| R rfl (mv rfl) <| lBind fun x17 h18 => R rfl (cut' rfl .no (.to rfl) h18 Tryd.underlying40 ti5) <| R rfl (len' rfl .rd rfl Tryd.underlying40) <| R rfl (mv rfl) <| gNil <| eThen <| gLoop (fun (s19 : api_Value × Int) aa ww => Sta (ctx 76 H [] w) [(2, .val (ptrTo v1 0)), (5, .val (ptrTo v5 0)), (7, .rd i64R 0), (40, .rd (sliceR u8R) x17), (41, .rd i64R (x17.length : Int)), (42, .rd i64R s19.2)] [(1, some (v1, .box 24 [.rd R_api_Value (⟨0, 0, 0, []⟩ : api_Value)])), (2, some (v5, .box 24 [.rd R_api_Value s19.1]))] aa ww) (fun aa ww h => h.sub [1, 2] (sS rfl <| sS rfl <| sS rfl <| sS rfl <| sS rfl <| sS rfl <| sN) (rR rfl rfl <| rR rfl rfl <| rN)) (fun s19 => ?_)
              refine gSeq <| gReg <| R rfl (I.lss rfl rfl) <| gNil <| eThen <| gSeq <| gIf rfl rfl (fun h20 => ?_) (fun h20 => ?_)
              · skip
                refine gSkip <| eThen <| gSeq <| gBlk <| gSeq <| gReg <| lBind fun x21 h22 => R rfl (ixR rfl rfl h22 Tryd.underlying40 ti5 rfl) <| R rfl (ldR rfl ty5) <| R rfl (asg rfl) <| gNil <| eThen <| gReg <| R rfl (faB 2 rfl rfl Tryd.underlying24 rfl (by exact ti22)) <| R rfl (ld 2 rfl rfl ((Foc.here).part (pt_api_Value_Bits _)) ty22 rfl) <| R rfl (U.shl rfl rfl (Int.natCast_nonneg _)) <| R rfl (mv rfl) <| R rfl (B.toU rfl Tryd.underlying5 Tryd.underlying22) <| R rfl (U.or rfl rfl) <| R rfl (faB 2 rfl rfl Tryd.underlying24 rfl (by exact ti22)) <| Es (sto 2 rfl rfl ((Foc.here).part (pt_api_Value_Bits _)) rfl ti22) <| gNil <| eBlk <| eThen <| gReg <| R rfl (I.add rfl rfl) <| R rfl (mv rfl) <| gNil <| eNext (fun aa ww h => h.sub [1, 2] (sS rfl <| sS rfl <| sS rfl <| sS rfl <| sS rfl <| sS rfl <| sN) (rR rfl rfl <| rR rfl rfl <| rN))
              · skip
                refine gExit <| eTexit <| eLeave <| eMid (fun aa ww h => h.sub [1, 2] (sS rfl <| sS rfl <| sS rfl <| sN) (rR rfl rfl <| rR rfl rfl <| rN))
            · skip
              refine gReg <| R rfl (asg rfl) <| gNil <| eBlk <| eMidR (fun aa ww h => h.sub [1, 2] (sS rfl <| sS rfl <| sS rfl <| sS rfl <| sN) (rR rfl rfl <| rR rfl rfl <| rN))
        · skip
          refine gSeq <| gReg <| R rfl (B.eql rfl rfl) <| R rfl (asg rfl) <| lName 54 rfl fun y23 => gNil <| eThen <| gIf rfl rfl (fun h24 => ?_) (fun h24 => ?_)
          · skip
            refine gSeq <| gReg <| R rfl (asg rfl) <| gNil <| eThen <| gSeq <| gReg <| R rfl (mv rfl) <| call [] [(100, 3)] rfl Tryd.func37 rfl rfl (wire_ReadBytes_ok _ _) (aQ rfl <| aQ rfl <| aN) rN fun r25 n26 => R rfl (mv rfl) <| R rfl (ext rfl rfl) <| R rfl (ext rfl rfl) <| R rfl (ext rfl rfl) <| R rfl (asg rfl) <| R rfl (asg rfl) <| R rfl (asg rfl) <| gNil <| eThen <| gReg <| R rfl (mv rfl) <| lFrz 3 [11, 59, 62] rfl (fS rfl <| fS rfl <| fS rfl <| fN) <| R rfl (cvBS rfl Tryd.underlying40 Tryd.underlying5 Tryd.underlying9) <| R rfl (faB 2 rfl rfl Tryd.underlying24 rfl (by exact ti9)) <| Es (sto 2 rfl rfl ((Foc.here).part (pt_api_Value_Text _)) rfl ti9) <| gNil <| eBlk <| eMidR (fun aa ww h => h.sub [1, 2] (sS rfl <| sS rfl <| sS rfl <| sS rfl <| sN) (rR rfl rfl <| rR rfl rfl <| rN))
          · skip
            refine gSkip <| eBlk <| eMidR (fun aa ww h => h.sub [1, 2] (sS rfl <| sS rfl <| sS rfl <| sS rfl <| sN) (rR rfl rfl <| rR rfl rfl <| rN))
    · skip
      refine gSeq <| gMid (fun (s27 : Bool) aa ww => Sta (ctx 76 H [] w) [(2, .val (ptrTo v1 0)), (5, .val (ptrTo v5 0)), (6, .rd i64R s6.2.1), (71, .rd boolR s27)] [(1, some (v1, .box 24 [.rd R_api_Value (⟨0, 0, 0, []⟩ : api_Value)])), (2, some (v5, .box 24 [.rd R_api_Value s6.1]))] aa ww) ?_ (fun s27 => ?_)
      · skip
        refine gReg <| R rfl (mv rfl) <| R rfl (I.neq rfl rfl) <| R rfl (mv rfl) <| lSplit 67 rfl (fun h28 => ?_) (fun h28 => ?_)
        · skip
          refine lKn 66 rfl h28 <| lSkip (gd rfl rfl rfl rfl) rfl rfl <| lSkip (gd rfl rfl rfl rfl) rfl rfl <| lSkip (gd rfl rfl rfl rfl) rfl rfl <| R rfl (pkT rfl rfl) <| gNil <| eMid (fun aa ww h => h.sub [1, 2] (sS rfl <| sS rfl <| sS rfl <| sS rfl <| sN) (rR rfl rfl <| rR rfl rfl <| rN))
        · skip
          refine lKn 66 rfl h28 <| lRun (gd rfl rfl rfl rfl) rfl rfl (ld 2 rfl rfl Foc.here ty24 rfl) <| callg [] [] (gd rfl rfl rfl rfl) rfl Tryd.func18 rfl rfl (value_Check_ok _) (aQ rfl <| aN) rN fun r29 n30 => lRun (gd rfl rfl rfl rfl) rfl rfl (I.neq rfl rfl) <| R rfl (pkF rfl rfl) <| gNil <| eMid (fun aa ww h => h.sub [1, 2] (sS rfl <| sS rfl <| sS rfl <| sS rfl <| sN) (rR rfl rfl <| rR rfl rfl <| rN))
      · skip
        refine gIf rfl rfl (fun h31 => ?_) (fun h31 => ?_)
        · skip
          refine gSeq <| gReg <| R rfl (bld (x' := (⟨0, 0, 0, []⟩ : api_Value)) [(0, 1), (1, 1), (2, 1), (3, 1)] Tryd.underlying24 ti24 rfl zr24 rfl (Bld.done rfl)) <| Es (sto 1 rfl rfl Foc.here rfl ti24) <| R rfl (asg rfl) <| R rfl (asg rfl) <| gNil <| eThen <| gRet <| eTret <| eRet [] [] rfl (eC 1 rfl rfl ty24 <| eE rfl <| eE rfl <| eN) (rN)
        · skip
          refine gSkip <| eThen <| gSeq <| gReg <| R rfl (ld 2 rfl rfl Foc.here ty24 rfl) <| R rfl (mv rfl) <| R rfl (I.add rfl rfl) <| Es (sto 1 rfl rfl Foc.here rfl ti24) <| R rfl (asg rfl) <| lName 3 rfl fun y32 => R rfl (asg rfl) <| gNil <| eThen <| gRet <| eRet [] [] rfl (eC 1 rfl rfl ty24 <| eE rfl <| eE rfl <| eN) (rN)


def braidlaw05_ValueBack (a0 : api_Value) (a1 : api_Value) (a2 : List UInt8) : Option (Bool) :=
  if decide (100 < (a2.length : Int)) then
    braidlaw05_alive >>= fun r4 =>
    some r4
  else
    orRet ((braidlaw05_fit a0 >>= fun r8 =>
    if r8 then
      braidlaw05_fit a1 >>= fun r11 =>
      some r11
    else
      some false) >>= fun s7 =>
    if s7 then
      value_Encode a0 >>= fun r14 =>
      value_Encode a1 >>= fun r16 =>
      app 1 ([] : List UInt8) r14.1 >>= fun x19 =>
      app 1 x19 a2 >>= fun x22 =>
      value_Decode x22 >>= fun r25 =>
      if r14.2 != 0 then
        some (.inl false)
      else
        if r16.2 != 0 then
          some (.inl false)
        else
          if r25.2.2 != 0 then
            some (.inl false)
          else
            if !decide (r25.1 = a0) then
              some (.inl false)
            else
              if r25.2.1 != (r14.1.length : Int) then
                some (.inl false)
              else
                braidref01_SameBytes r14.1 r16.1 >>= fun r33 =>
                if r33 != (decide (a0 = a1)) then
                  some (.inl false)
                else
                  some (.inr ())
    else
      some (.inr ())) fun s6 =>
    value_Decode a2 >>= fun r36 =>
    if r36.2.2 != 0 then
      if r36.2.2 == 12 then
        braidlaw05_alive >>= fun r41 =>
        some r41
      else
        some false
    else
      value_Encode r36.1 >>= fun r43 =>
      if r43.2 == 0 then
        braidlaw05_fit r36.1 >>= fun r46 =>
        if r46 then
          if decide (1 ≤ r36.2.1) then
            if decide (r36.2.1 ≤ (a2.length : Int)) then
              cut a2 0 r36.2.1 >>= fun x51 =>
              braidref01_SameBytes r43.1 x51 >>= fun r53 =>
              if r53 then
                braidlaw05_alive >>= fun r56 =>
                some r56
              else
                some false
            else
              some false
          else
            some false
        else
          some false
      else
        some false
set_option maxRecDepth 100000 in
theorem braidlaw05_ValueBack_ok (a0 : api_Value) (a1 : api_Value) (a2 : List UInt8) : Spec Tryd.prog 7 [.rd R_api_Value a0, .rd R_api_Value a1, .rd (sliceR u8R) a2] [(1001, some ((.bool true), .glob 1 (arrR 64 u8R) gtab1))] (braidlaw05_ValueBack a0 a1 a2) (fun r nv => ⟨[.rd boolR r], [(1001, some (.bool true, .glob 1 (arrR 64 u8R) gtab1))]⟩) := by
  refine spec 123 Tryd.func7 rfl rfl rfl fun H w => ?_
  refine gSeq <| gReg <| Eb rfl (bx 1 rfl) fun v1 => Eb rfl (bx 2 rfl) fun v2 => R rfl (asg rfl) <| gNil <| eThen <| gSeq <| gSeq <| gReg <| R rfl (mv rfl) <| R rfl (len' rfl .rd rfl Tryd.underlying40) <| R rfl (I.gtr rfl rfl) <| gNil <| eThen <| gIf rfl rfl (fun h3 => ?_) (fun h3 => ?_)
  · skip
    refine gSeq <| gReg <| call [1001] [] rfl Tryd.func9 rfl rfl (braidlaw05_alive_ok) (aN) (rR rfl rfl <| rN) fun r4 n5 => R rfl (asg rfl) <| gNil <| eThen <| gRet <| eTret <| eRet [] [1001] rfl (eE rfl <| eN) (rR rfl rfl <| rN)
  · skip
    refine gSkip <| eThen <| gMidR (fun (s6 : Unit) aa ww => Sta (ctx 123 H [(1001, some ((.bool true), .glob 1 (arrR 64 u8R) gtab1))] w) [(2, .rd (sliceR u8R) a2)] [(1001, some ((.bool true), .glob 1 (arrR 64 u8R) gtab1))] aa ww) ?_ (fun s6 => ?_)
    · skip
      refine gMid (fun (s7 : Bool) aa ww => Sta (ctx 123 H [(1001, some ((.bool true), .glob 1 (arrR 64 u8R) gtab1))] w) [(2, .rd (sliceR u8R) a2), (3, .val (ptrTo v1 0)), (4, .val (ptrTo v2 0)), (28, .rd boolR s7)] [(1, some (v1, .box 24 [.rd R_api_Value a0])), (2, some (v2, .box 24 [.rd R_api_Value a1])), (1001, some ((.bool true), .glob 1 (arrR 64 u8R) gtab1))] aa ww) ?_ (fun s7 => ?_)
      · skip
        refine gReg <| R rfl (ld 1 rfl rfl Foc.here ty24 rfl) <| call [] [] rfl Tryd.func8 rfl rfl (braidlaw05_fit_ok _) (aQ rfl <| aN) rN fun r8 n9 => R rfl (mv rfl) <| lSplit 25 rfl (fun h10 => ?_) (fun h10 => ?_)
        · skip
          refine lKn 24 rfl h10 <| lRun (gd rfl rfl rfl rfl) rfl rfl (ld 2 rfl rfl Foc.here ty24 rfl) <| callg [] [] (gd rfl rfl rfl rfl) rfl Tryd.func8 rfl rfl (braidlaw05_fit_ok _) (aQ rfl <| aN) rN fun r11 n12 => R rfl (pkT rfl rfl) <| gNil <| eMid (fun aa ww h => h.sub [1, 2, 1001] (sS rfl <| sS rfl <| sS rfl <| sS rfl <| sN) (rR rfl rfl <| rR rfl rfl <| rR rfl rfl <| rN))
        · skip
          refine lKn 24 rfl h10 <| lSkip (gd rfl rfl rfl rfl) rfl rfl <| lSkip (gd rfl rfl rfl rfl) rfl rfl <| R rfl (pkF rfl rfl) <| gNil <| eMid (fun aa ww h => h.sub [1, 2, 1001] (sS rfl <| sS rfl <| sS rfl <| sS rfl <| sN) (rR rfl rfl <| rR rfl rfl <| rR rfl rfl <| rN))
      · skip
        refine gIf rfl rfl (fun h13 => ?_) (fun h13 => ?_)
        · skip
          refine gSeq <| gReg <| R rfl (ld 1 rfl rfl Foc.here ty24 rfl) <| call [] [(100, 1002)] rfl Tryd.func17 rfl rfl (value_Encode_ok _) (aQ rfl <| aN) rN fun r14 n15 => R rfl (mv rfl) <| R rfl (ext rfl rfl) <| R rfl (ext rfl rfl) <| R rfl (asg rfl) <| R rfl (asg rfl) <| gNil <| eThen <| gSeq <| gReg <| R rfl (ld 2 rfl rfl Foc.here ty24 rfl) <| call [] [(100, 1003)] rfl Tryd.func17 rfl rfl (value_Encode_ok _) (aQ rfl <| aN) rN fun r16 n17 => R rfl (mv rfl) <| R rfl (ext rfl rfl) <| R rfl (ext rfl rfl) <| R rfl (asg rfl) <| R rfl (asg rfl) <| gNil <| eThen <| gSeq <| gReg <| Ef rfl (lit (R := u8R) (([] : List UInt8) : List UInt8) 1004 (pN) rfl Tryd.underlying40 ti5 rfl rfl) fun v18 => R rfl (mv rfl) <| lBind fun x19 h20 => Ef rfl (apn 1004 rfl rfl rfl (.own 1002 rfl) h20 Tryd.underlying40 ti5 rfl rfl rfl) fun v21 => R rfl (mv rfl) <| lBind fun x22 h23 => Ef rfl (apn 1004 rfl rfl rfl .rd h23 Tryd.underlying40 ti5 rfl rfl rfl) fun v24 => lFrz 1004 [44] rfl (fS rfl <| fN) <| call [] [] rfl Tryd.func20 rfl rfl (value_Decode_ok _) (aQ rfl <| aN) rN fun r25 n26 => R rfl (mv rfl) <| R rfl (ext rfl rfl) <| R rfl (ext rfl rfl) <| R rfl (ext rfl rfl) <| Eb rfl (allc 1005 ti24 (.zr zr24)) fun v27 => Es (sto 1005 rfl rfl Foc.here rfl ti24) <| R rfl (asg rfl) <| R rfl (asg rfl) <| gNil <| eThen <| gSeq <| gRegH [] mixed rfl rfl <| hTake 0 rfl (by kernel_rfl) (by kernel_rfl) (by kernel_rfl) (gd0 rfl) rfl rfl (mv rfl) <| hTake 1 rfl (by kernel_rfl) (by kernel_rfl) (by kernel_rfl) (gd0 rfl) rfl rfl (I.neq rfl rfl) <| hTake 2 rfl (by kernel_rfl) (by kernel_rfl) (by kernel_rfl) (gd0 rfl) rfl rfl (mv rfl) <| hIf 51 rfl rfl (fun h28 => ?_) (fun h28 => ?_)
          · skip
            refine hKn 50 rfl rfl h28 <| hSkip 3 rfl (by kernel_rfl) (by kernel_rfl) (by kernel_rfl) (gd rfl rfl rfl rfl) rfl rfl <| hSkip 4 rfl (by kernel_rfl) (by kernel_rfl) (by kernel_rfl) (gd rfl rfl rfl rfl) rfl rfl <| hTake 5 rfl (by kernel_rfl) (by kernel_rfl) (by kernel_rfl) (gd0 rfl) rfl rfl (pkT rfl rfl) <| hTake 6 rfl (by kernel_rfl) (by kernel_rfl) (by kernel_rfl) (gd0 rfl) rfl rfl (mv rfl) <| hSkip 7 rfl (by kernel_rfl) (by kernel_rfl) (by kernel_rfl) (gd rfl rfl rfl rfl) rfl rfl <| hSkip 8 rfl (by kernel_rfl) (by kernel_rfl) (by kernel_rfl) (gd rfl rfl rfl rfl) rfl rfl <| hTake 9 rfl (by kernel_rfl) (by kernel_rfl) (by kernel_rfl) (gd0 rfl) rfl rfl (pkT rfl rfl) <| hTake 10 rfl (by kernel_rfl) (by kernel_rfl) (by kernel_rfl) (gd0 rfl) rfl rfl (mv rfl) <| hSkip 11 rfl (by kernel_rfl) (by kernel_rfl) (by kernel_rfl) (gd rfl rfl rfl rfl) rfl rfl <| hSkip 12 rfl (by kernel_rfl) (by kernel_rfl) (by kernel_rfl) (gd rfl rfl rfl rfl) rfl rfl <| hSkip 13 rfl (by kernel_rfl) (by kernel_rfl) (by kernel_rfl) (gd rfl rfl rfl rfl) rfl rfl <| hTake 14 rfl (by kernel_rfl) (by kernel_rfl) (by kernel_rfl) (gd0 rfl) rfl rfl (pkT rfl rfl) <| hTake 15 rfl (by kernel_rfl) (by kernel_rfl) (by kernel_rfl) (gd0 rfl) rfl rfl (mv rfl) <| hSkip 16 rfl (by kernel_rfl) (by kernel_rfl) (by kernel_rfl) (gd rfl rfl rfl rfl) rfl rfl <| hSkip 17 rfl (by kernel_rfl) (by kernel_rfl) (by kernel_rfl) (gd rfl rfl rfl rfl) rfl rfl <| hSkip 18 rfl (by kernel_rfl) (by kernel_rfl) (by kernel_rfl) (gd rfl rfl rfl rfl) rfl rfl <| hSkip 19 rfl (by kernel_rfl) (by kernel_rfl) (by kernel_rfl) (gd rfl rfl rfl rfl) rfl rfl <| hTake 20 rfl (by kernel_rfl) (by kernel_rfl) (by kernel_rfl) (gd0 rfl) rfl rfl (pkT rfl rfl) <| hTake 21 rfl (by kernel_rfl) (by kernel_rfl) (by kernel_rfl) (gd0 rfl) rfl rfl (mv rfl) <| hSkip 22 rfl (by kernel_rfl) (by kernel_rfl) (by kernel_rfl) (gd rfl rfl rfl rfl) rfl rfl <| hSkip 23 rfl (by kernel_rfl) (by kernel_rfl) (by kernel_rfl) (gd rfl rfl rfl rfl) rfl rfl <| hSkip 24 rfl (by kernel_rfl) (by kernel_rfl) (by kernel_rfl) (gd rfl rfl rfl rfl) rfl rfl <| hSkip 25 rfl (by kernel_rfl) (by kernel_rfl) (by kernel_rfl) (gd rfl rfl rfl rfl) rfl rfl <| hSkip 26 rfl (by kernel_rfl) (by kernel_rfl) (by kernel_rfl) (gd rfl rfl rfl rfl) rfl rfl <| hSkip 27 rfl (by kernel_rfl) (by kernel_rfl) (by kernel_rfl) (gd rfl rfl rfl rfl) rfl rfl <| hSkip 28 rfl (by kernel_rfl) (by kernel_rfl) (by kernel_rfl) (gd rfl rfl rfl rfl) rfl rfl <| hTake 29 rfl (by kernel_rfl) (by kernel_rfl) (by kernel_rfl) (gd0 rfl) rfl rfl (pkT rfl rfl) <| hDone (by kernel_rfl) <| eThen <| gTrue rfl <| gSeq <| gReg <| R rfl (asg rfl) <| gNil <| eThen <| gRet <| eMret <| eRet [] [1001] rfl (eE rfl <| eN) (rR rfl rfl <| rN)
          · skip
            refine hKn 50 rfl rfl h28 <| hTake 3 rfl (by kernel_rfl) (by kernel_rfl) (by kernel_rfl) (gd rfl rfl rfl rfl) rfl rfl (mv rfl) <| hTake 4 rfl (by kernel_rfl) (by kernel_rfl) (by kernel_rfl) (gd rfl rfl rfl rfl) rfl rfl (I.neq rfl rfl) <| hTake 5 rfl (by kernel_rfl) (by kernel_rfl) (by kernel_rfl) (gd0 rfl) rfl rfl (pkF rfl rfl) <| hTake 6 rfl (by kernel_rfl) (by kernel_rfl) (by kernel_rfl) (gd0 rfl) rfl rfl (mv rfl) <| hIf 55 rfl rfl (fun h29 => ?_) (fun h29 => ?_)
            · skip
              refine hKn 53 rfl rfl h29 <| hKn 54 rfl rfl h29 <| hSkip 7 rfl (by kernel_rfl) (by kernel_rfl) (by kernel_rfl) (gd rfl rfl rfl rfl) rfl rfl <| hSkip 8 rfl (by kernel_rfl) (by kernel_rfl) (by kernel_rfl) (gd rfl rfl rfl rfl) rfl rfl <| hTake 9 rfl (by kernel_rfl) (by kernel_rfl) (by kernel_rfl) (gd0 rfl) rfl rfl (pkT rfl rfl) <| hTake 10 rfl (by kernel_rfl) (by kernel_rfl) (by kernel_rfl) (gd0 rfl) rfl rfl (mv rfl) <| hSkip 11 rfl (by kernel_rfl) (by kernel_rfl) (by kernel_rfl) (gd rfl rfl rfl rfl) rfl rfl <| hSkip 12 rfl (by kernel_rfl) (by kernel_rfl) (by kernel_rfl) (gd rfl rfl rfl rfl) rfl rfl <| hSkip 13 rfl (by kernel_rfl) (by kernel_rfl) (by kernel_rfl) (gd rfl rfl rfl rfl) rfl rfl <| hTake 14 rfl (by kernel_rfl) (by kernel_rfl) (by kernel_rfl) (gd0 rfl) rfl rfl (pkT rfl rfl) <| hTake 15 rfl (by kernel_rfl) (by kernel_rfl) (by kernel_rfl) (gd0 rfl) rfl rfl (mv rfl) <| hSkip 16 rfl (by kernel_rfl) (by kernel_rfl) (by kernel_rfl) (gd rfl rfl rfl rfl) rfl rfl <| hSkip 17 rfl (by kernel_rfl) (by kernel_rfl) (by kernel_rfl) (gd rfl rfl rfl rfl) rfl rfl <| hSkip 18 rfl (by kernel_rfl) (by kernel_rfl) (by kernel_rfl) (gd rfl rfl rfl rfl) rfl rfl <| hSkip 19 rfl (by kernel_rfl) (by kernel_rfl) (by kernel_rfl) (gd rfl rfl rfl rfl) rfl rfl <| hTake 20 rfl (by kernel_rfl) (by kernel_rfl) (by kernel_rfl) (gd0 rfl) rfl rfl (pkT rfl rfl) <| hTake 21 rfl (by kernel_rfl) (by kernel_rfl) (by kernel_rfl) (gd0 rfl) rfl rfl (mv rfl) <| hSkip 22 rfl (by kernel_rfl) (by kernel_rfl) (by kernel_rfl) (gd rfl rfl rfl rfl) rfl rfl <| hSkip 23 rfl (by kernel_rfl) (by kernel_rfl) (by kernel_rfl) (gd rfl rfl rfl rfl) rfl rfl <| hSkip 24 rfl (by kernel_rfl) (by kernel_rfl) (by kernel_rfl) (gd rfl rfl rfl rfl) rfl rfl <| hSkip 25 rfl (by kernel_rfl) (by kernel_rfl) (by kernel_rfl) (gd rfl rfl rfl rfl) rfl rfl <| hSkip 26 rfl (by kernel_rfl) (by kernel_rfl) (by kernel_rfl) (gd rfl rfl rfl rfl) rfl rfl <| hSkip 27 rfl (by kernel_rfl) (by kernel_rfl) (by kernel_rfl) (gd rfl rfl rfl rfl) rfl rfl <| hSkip 28 rfl (by kernel_rfl) (by kernel_rfl) (by kernel_rfl) (gd rfl rfl rfl rfl) rfl rfl <| hTake 29 rfl (by kernel_rfl) (by kernel_rfl) (by kernel_rfl) (gd0 rfl) rfl rfl (pkT rfl rfl) <| hDone (by kernel_rfl) <| eThen <| gTrue rfl <| gSeq <| gReg <| R rfl (asg rfl) <| gNil <| eThen <| gRet <| eMret <| eRet [] [1001] rfl (eE rfl <| eN) (rR rfl rfl <| rN)
            · skip
              refine hKn 53 rfl rfl h29 <| hKn 54 rfl rfl h29 <| hTake 7 rfl (by kernel_rfl) (by kernel_rfl) (by kernel_rfl) (gd rfl rfl rfl rfl) rfl rfl (mv rfl) <| hTake 8 rfl (by kernel_rfl) (by kernel_rfl) (by kernel_rfl) (gd rfl rfl rfl rfl) rfl rfl (I.neq rfl rfl) <| hTake 9 rfl (by kernel_rfl) (by kernel_rfl) (by kernel_rfl) (gd0 rfl) rfl rfl (pkF rfl rfl) <| hTake 10 rfl (by kernel_rfl) (by kernel_rfl) (by kernel_rfl) (gd0 rfl) rfl rfl (mv rfl) <| hIf 59 rfl rfl (fun h30 => ?_) (fun h30 => ?_)
              · skip
                refine hKn 57 rfl rfl h30 <| hKn 58 rfl rfl h30 <| hSkip 11 rfl (by kernel_rfl) (by kernel_rfl) (by kernel_rfl) (gd rfl rfl rfl rfl) rfl rfl <| hSkip 12 rfl (by kernel_rfl) (by kernel_rfl) (by kernel_rfl) (gd rfl rfl rfl rfl) rfl rfl <| hSkip 13 rfl (by kernel_rfl) (by kernel_rfl) (by kernel_rfl) (gd rfl rfl rfl rfl) rfl rfl <| hTake 14 rfl (by kernel_rfl) (by kernel_rfl) (by kernel_rfl) (gd0 rfl) rfl rfl (pkT rfl rfl) <| hTake 15 rfl (by kernel_rfl) (by kernel_rfl) (by kernel_rfl) (gd0 rfl) rfl rfl (mv rfl) <| hSkip 16 rfl (by kernel_rfl) (by kernel_rfl) (by kernel_rfl) (gd rfl rfl rfl rfl) rfl rfl <| hSkip 17 rfl (by kernel_rfl) (by kernel_rfl) (by kernel_rfl) (gd rfl rfl rfl rfl) rfl rfl <| hSkip 18 rfl (by kernel_rfl) (by kernel_rfl) (by kernel_rfl) (gd rfl rfl rfl rfl) rfl rfl <| hSkip 19 rfl (by kernel_rfl) (by kernel_rfl) (by kernel_rfl) (gd rfl rfl rfl rfl) rfl rfl <| hTake 20 rfl (by kernel_rfl) (by kernel_rfl) (by kernel_rfl) (gd0 rfl) rfl rfl (pkT rfl rfl) <| hTake 21 rfl (by kernel_rfl) (by kernel_rfl) (by kernel_rfl) (gd0 rfl) rfl rfl (mv rfl) <| hSkip 22 rfl (by kernel_rfl) (by kernel_rfl) (by kernel_rfl) (gd rfl rfl rfl rfl) rfl rfl <| hSkip 23 rfl (by kernel_rfl) (by kernel_rfl) (by kernel_rfl) (gd rfl rfl rfl rfl) rfl rfl <| hSkip 24 rfl (by kernel_rfl) (by kernel_rfl) (by kernel_rfl) (gd rfl rfl rfl rfl) rfl rfl <| hSkip 25 rfl (by kernel_rfl) (by kernel_rfl) (by kernel_rfl) (gd rfl rfl rfl rfl) rfl rfl <| hSkip 26 rfl (by kernel_rfl) (by kernel_rfl) (by kernel_rfl) (gd rfl rfl rfl rfl) rfl rfl <| hSkip 27 rfl (by kernel_rfl) (by kernel_rfl) (by kernel_rfl) (gd rfl rfl rfl rfl) rfl rfl <| hSkip 28 rfl (by kernel_rfl) (by kernel_rfl) (by kernel_rfl) (gd rfl rfl rfl rfl) rfl rfl <| hTake 29 rfl (by kernel_rfl) (by kernel_rfl) (by kernel_rfl) (gd0 rfl) rfl rfl (pkT rfl rfl) <| hDone (by kernel_rfl) <| eThen <| gTrue rfl <| gSeq <| gReg <| R rfl (asg rfl) <| gNil <| eThen <| gRet <| eMret <| eRet [] [1001] rfl (eE rfl <| eN) (rR rfl rfl <| rN)
              · skip
                refine hKn 57 rfl rfl h30 <| hKn 58 rfl rfl h30 <| hTake 11 rfl (by kernel_rfl) (by kernel_rfl) (by kernel_rfl) (gd rfl rfl rfl rfl) rfl rfl (ld 1005 rfl rfl Foc.here ty24 rfl) <| hTake 12 rfl (by kernel_rfl) (by kernel_rfl) (by kernel_rfl) (gd rfl rfl rfl rfl) rfl rfl (ld 1 rfl rfl Foc.here ty24 rfl) <| hTake 13 rfl (by kernel_rfl) (by kernel_rfl) (by kernel_rfl) (gd rfl rfl rfl rfl) rfl rfl (neA rfl rfl eq24 rfl rfl gq24) <| hTake 14 rfl (by kernel_rfl) (by kernel_rfl) (by kernel_rfl) (gd0 rfl) rfl rfl (pkF rfl rfl) <| hTake 15 rfl (by kernel_rfl) (by kernel_rfl) (by kernel_rfl) (gd0 rfl) rfl rfl (mv rfl) <| hIf 64 rfl rfl (fun h31 => ?_) (fun h31 => ?_)
                · skip
                  refine hKn 62 rfl rfl h31 <| hKn 63 rfl rfl h31 <| hSkip 16 rfl (by kernel_rfl) (by kernel_rfl) (by kernel_rfl) (gd rfl rfl rfl rfl) rfl rfl <| hSkip 17 rfl (by kernel_rfl) (by kernel_rfl) (by kernel_rfl) (gd rfl rfl rfl rfl) rfl rfl <| hSkip 18 rfl (by kernel_rfl) (by kernel_rfl) (by kernel_rfl) (gd rfl rfl rfl rfl) rfl rfl <| hSkip 19 rfl (by kernel_rfl) (by kernel_rfl) (by kernel_rfl) (gd rfl rfl rfl rfl) rfl rfl <| hTake 20 rfl (by kernel_rfl) (by kernel_rfl) (by kernel_rfl) (gd0 rfl) rfl rfl (pkT rfl rfl) <| hTake 21 rfl (by kernel_rfl) (by kernel_rfl) (by kernel_rfl) (gd0 rfl) rfl rfl (mv rfl) <| hSkip 22 rfl (by kernel_rfl) (by kernel_rfl) (by kernel_rfl) (gd rfl rfl rfl rfl) rfl rfl <| hSkip 23 rfl (by kernel_rfl) (by kernel_rfl) (by kernel_rfl) (gd rfl rfl rfl rfl) rfl rfl <| hSkip 24 rfl (by kernel_rfl) (by kernel_rfl) (by kernel_rfl) (gd rfl rfl rfl rfl) rfl rfl <| hSkip 25 rfl (by kernel_rfl) (by kernel_rfl) (by kernel_rfl) (gd rfl rfl rfl rfl) rfl rfl <| hSkip 26 rfl (by kernel_rfl) (by kernel_rfl) (by kernel_rfl) (gd rfl rfl rfl rfl) rfl rfl <| hSkip 27 rfl (by kernel_rfl) (by kernel_rfl) (by kernel_rfl) (gd rfl rfl rfl rfl) rfl rfl <| hSkip 28 rfl (by kernel_rfl) (by kernel_rfl) (by kernel_rfl) (gd rfl rfl rfl rfl) rfl rfl <| hTake 29 rfl (by kernel_rfl) (by kernel_rfl) (by kernel_rfl) (gd0 rfl) rfl rfl (pkT rfl rfl) <| hDone (by kernel_rfl) <| eThen <| gTrue rfl <| gSeq <| gReg <| R rfl (asg rfl) <| gNil <| eThen <| gRet <| eMret <| eRet [] [1001] rfl (eE rfl <| eN) (rR rfl rfl <| rN)
                · skip
                  refine hKn 62 rfl rfl h31 <| hKn 63 rfl rfl h31 <| hTake 16 rfl (by kernel_rfl) (by kernel_rfl) (by kernel_rfl) (gd rfl rfl rfl rfl) rfl rfl (mv rfl) <| hTake 17 rfl (by kernel_rfl) (by kernel_rfl) (by kernel_rfl) (gd rfl rfl rfl rfl) rfl rfl (mv rfl) <| hTake 18 rfl (by kernel_rfl) (by kernel_rfl) (by kernel_rfl) (gd rfl rfl rfl rfl) rfl rfl (len' rfl (.own 1002 rfl) rfl Tryd.underlying40) <| hTake 19 rfl (by kernel_rfl) (by kernel_rfl) (by kernel_rfl) (gd rfl rfl rfl rfl) rfl rfl (I.neq rfl rfl) <| hTake 20 rfl (by kernel_rfl) (by kernel_rfl) (by kernel_rfl) (gd0 rfl) rfl rfl (pkF rfl rfl) <| hTake 21 rfl (by kernel_rfl) (by kernel_rfl) (by kernel_rfl) (gd0 rfl) rfl rfl (mv rfl) <| hIf 70 rfl rfl (fun h32 => ?_) (fun h32 => ?_)
                  · skip
                    refine hKn 68 rfl rfl h32 <| hKn 69 rfl rfl h32 <| hSkip 22 rfl (by kernel_rfl) (by kernel_rfl) (by kernel_rfl) (gd rfl rfl rfl rfl) rfl rfl <| hSkip 23 rfl (by kernel_rfl) (by kernel_rfl) (by kernel_rfl) (gd rfl rfl rfl rfl) rfl rfl <| hSkip 24 rfl (by kernel_rfl) (by kernel_rfl) (by kernel_rfl) (gd rfl rfl rfl rfl) rfl rfl <| hSkip 25 rfl (by kernel_rfl) (by kernel_rfl) (by kernel_rfl) (gd rfl rfl rfl rfl) rfl rfl <| hSkip 26 rfl (by kernel_rfl) (by kernel_rfl) (by kernel_rfl) (gd rfl rfl rfl rfl) rfl rfl <| hSkip 27 rfl (by kernel_rfl) (by kernel_rfl) (by kernel_rfl) (gd rfl rfl rfl rfl) rfl rfl <| hSkip 28 rfl (by kernel_rfl) (by kernel_rfl) (by kernel_rfl) (gd rfl rfl rfl rfl) rfl rfl <| hTake 29 rfl (by kernel_rfl) (by kernel_rfl) (by kernel_rfl) (gd0 rfl) rfl rfl (pkT rfl rfl) <| hDone (by kernel_rfl) <| eThen <| gTrue rfl <| gSeq <| gReg <| R rfl (asg rfl) <| gNil <| eThen <| gRet <| eMret <| eRet [] [1001] rfl (eE rfl <| eN) (rR rfl rfl <| rN)
                  · skip
                    refine hKn 68 rfl rfl h32 <| hKn 69 rfl rfl h32 <| hTake 22 rfl (by kernel_rfl) (by kernel_rfl) (by kernel_rfl) (gd rfl rfl rfl rfl) rfl rfl (mv rfl) <| hTake 23 rfl (by kernel_rfl) (by kernel_rfl) (by kernel_rfl) (gd rfl rfl rfl rfl) rfl rfl (mv rfl) <| hTake 25 rfl (by kernel_rfl) (by kernel_rfl) (by kernel_rfl) (gd rfl rfl rfl rfl) rfl rfl (ld 1 rfl rfl Foc.here ty24 rfl) <| hTake 26 rfl (by kernel_rfl) (by kernel_rfl) (by kernel_rfl) (gd rfl rfl rfl rfl) rfl rfl (ld 2 rfl rfl Foc.here ty24 rfl) <| hTake 27 rfl (by kernel_rfl) (by kernel_rfl) (by kernel_rfl) (gd rfl rfl rfl rfl) rfl rfl (eqA rfl rfl eq24 rfl rfl gq24) <| hFrz 1002 [32, 7, 41, 66, 71] rfl (fS rfl <| fS rfl <| fS rfl <| fS rfl <| fS rfl <| fN) <| hFrz 1003 [37, 9, 72] rfl (fS rfl <| fS rfl <| fS rfl <| fN) <| hCallF 24 [] [] rfl (by kernel_rfl) rfl (gd rfl rfl rfl rfl) rfl Tryd.func25 rfl rfl (braidref01_SameBytes_ok _ _) (aQ rfl <| aQ rfl <| aN) rN rfl (fun _ _ => flat_bool) fun r33 n34 => hTake 28 rfl (by kernel_rfl) (by kernel_rfl) (by kernel_rfl) (gd rfl rfl rfl rfl) rfl rfl (neB Tryd.underlying4 rfl rfl) <| hTake 29 rfl (by kernel_rfl) (by kernel_rfl) (by kernel_rfl) (gd0 rfl) rfl rfl (pkF rfl rfl) <| hDone (by kernel_rfl) <| eThen <| gIf rfl rfl (fun h35 => ?_) (fun h35 => ?_)
                    · skip
                      refine gKn 77 rfl h35 <| gSeq <| gReg <| R rfl (asg rfl) <| gNil <| eThen <| gRet <| eMret <| eRet [] [1001] rfl (eE rfl <| eN) (rR rfl rfl <| rN)
                    · skip
                      refine gKn 77 rfl h35 <| gSkip <| eMidR (fun aa ww h => h.sub [1001] (sS rfl <| sN) (rR rfl rfl <| rN))
        · skip
          refine gSkip <| eMidR (fun aa ww h => h.sub [1001] (sS rfl <| sN) (rR rfl rfl <| rN))
    · skip
      refine gSeq <| gReg <| R rfl (mv rfl) <| call [] [] rfl Tryd.func20 rfl rfl (value_Decode_ok _) (aQ rfl <| aN) rN fun r36 n37 => R rfl (mv rfl) <| R rfl (ext rfl rfl) <| R rfl (ext rfl rfl) <| R rfl (ext rfl rfl) <| Eb rfl (allc 1099 ti24 (.zr zr24)) fun v38 => Es (sto 1099 rfl rfl Foc.here rfl ti24) <| R rfl (asg rfl) <| R rfl (asg rfl) <| gNil <| eThen <| gSeq <| gSeq <| gReg <| R rfl (mv rfl) <| R rfl (I.neq rfl rfl) <| gNil <| eThen <| gIf rfl rfl (fun h39 => ?_) (fun h39 => ?_)
      · skip
        refine gSeq <| gReg <| R rfl (mv rfl) <| R rfl (I.eql rfl rfl) <| R rfl (mv rfl) <| lSplit 89 rfl (fun h40 => ?_) (fun h40 => ?_)
        · skip
          refine lKn 88 rfl h40 <| callg [1001] [] (gd rfl rfl rfl rfl) rfl Tryd.func9 rfl rfl (braidlaw05_alive_ok) (aN) (rR rfl rfl <| rN) fun r41 n42 => R rfl (pkT rfl rfl) <| R rfl (asg rfl) <| gNil <| eThen <| gRet <| eTret <| eRet [] [1001] rfl (eE rfl <| eN) (rR rfl rfl <| rN)
        · skip
          refine lKn 88 rfl h40 <| lSkip (gd rfl rfl rfl rfl) rfl rfl <| R rfl (pkF rfl rfl) <| R rfl (asg rfl) <| gNil <| eThen <| gRet <| eTret <| eRet [] [1001] rfl (eE rfl <| eN) (rR rfl rfl <| rN)
      · skip
        refine gSkip <| eThen <| gSeq <| gReg <| R rfl (ld 1099 rfl rfl Foc.here ty24 rfl) <| call [] [(100, 1100)] rfl Tryd.func17 rfl rfl (value_Encode_ok _) (aQ rfl <| aN) rN fun r43 n44 => R rfl (mv rfl) <| R rfl (ext rfl rfl) <| R rfl (ext rfl rfl) <| R rfl (asg rfl) <| R rfl (asg rfl) <| gNil <| eThen <| gSeq <| gReg <| R rfl (mv rfl) <| R rfl (I.eql rfl rfl) <| R rfl (mv rfl) <| lSplit 99 rfl (fun h45 => ?_) (fun h45 => ?_)
        · skip
          refine lKn 98 rfl h45 <| lRun (gd rfl rfl rfl rfl) rfl rfl (ld 1099 rfl rfl Foc.here ty24 rfl) <| callg [] [] (gd rfl rfl rfl rfl) rfl Tryd.func8 rfl rfl (braidlaw05_fit_ok _) (aQ rfl <| aN) rN fun r46 n47 => R rfl (pkT rfl rfl) <| R rfl (mv rfl) <| lSplit 103 rfl (fun h48 => ?_) (fun h48 => ?_)
          · skip
            refine lKn 101 rfl h48 <| lKn 102 rfl h48 <| lRun (gd rfl rfl rfl rfl) rfl rfl (mv rfl) <| lRun (gd rfl rfl rfl rfl) rfl rfl (I.geq rfl rfl) <| R rfl (pkT rfl rfl) <| R rfl (mv rfl) <| lSplit 107 rfl (fun h49 => ?_) (fun h49 => ?_)
            · skip
              refine lKn 105 rfl h49 <| lKn 106 rfl h49 <| lRun (gd rfl rfl rfl rfl) rfl rfl (mv rfl) <| lRun (gd rfl rfl rfl rfl) rfl rfl (mv rfl) <| lRun (gd rfl rfl rfl rfl) rfl rfl (len' rfl .rd rfl Tryd.underlying40) <| lRun (gd rfl rfl rfl rfl) rfl rfl (I.leq rfl rfl) <| R rfl (pkT rfl rfl) <| R rfl (mv rfl) <| lSplit 113 rfl (fun h50 => ?_) (fun h50 => ?_)
              · skip
                refine lKn 111 rfl h50 <| lKn 112 rfl h50 <| lRun (gd rfl rfl rfl rfl) rfl rfl (mv rfl) <| lRun (gd rfl rfl rfl rfl) rfl rfl (mv rfl) <| lRun (gd rfl rfl rfl rfl) rfl rfl (mv rfl) <| lBind fun x51 h52 => lRun (gd rfl rfl rfl rfl) rfl rfl (cut' rfl .no (.to rfl) h52 Tryd.underlying40 ti5) <| lFrz 1100 [95, 17, 114] rfl (fS rfl <| fS rfl <| fS rfl <| fN) <| callg [] [] (gd rfl rfl rfl rfl) rfl Tryd.func25 rfl rfl (braidref01_SameBytes_ok _ _) (aQ rfl <| aQ rfl <| aN) rN fun r53 n54 => R rfl (pkT rfl rfl) <| R rfl (mv rfl) <| lSplit 120 rfl (fun h55 => ?_) (fun h55 => ?_)
                · skip
                  refine lKn 118 rfl h55 <| lKn 119 rfl h55 <| callg [1001] [] (gd rfl rfl rfl rfl) rfl Tryd.func9 rfl rfl (braidlaw05_alive_ok) (aN) (rR rfl rfl <| rN) fun r56 n57 => R rfl (pkT rfl rfl) <| R rfl (asg rfl) <| gNil <| eThen <| gRet <| eRet [] [1001] rfl (eE rfl <| eN) (rR rfl rfl <| rN)
                · skip
                  refine lKn 118 rfl h55 <| lKn 119 rfl h55 <| lSkip (gd rfl rfl rfl rfl) rfl rfl <| R rfl (pkF rfl rfl) <| R rfl (asg rfl) <| gNil <| eThen <| gRet <| eRet [] [1001] rfl (eE rfl <| eN) (rR rfl rfl <| rN)
              · skip
                refine lKn 111 rfl h50 <| lKn 112 rfl h50 <| lSkip (gd rfl rfl rfl rfl) rfl rfl <| lSkip (gd rfl rfl rfl rfl) rfl rfl <| lSkip (gd rfl rfl rfl rfl) rfl rfl <| lSkip (gd rfl rfl rfl rfl) rfl rfl <| lSkip (gd rfl rfl rfl rfl) rfl rfl <| R rfl (pkF rfl rfl) <| R rfl (mv rfl) <| lSkip (gd rfl rfl rfl rfl) rfl rfl <| R rfl (pkF rfl rfl) <| R rfl (asg rfl) <| gNil <| eThen <| gRet <| eRet [] [1001] rfl (eE rfl <| eN) (rR rfl rfl <| rN)
            · skip
              refine lKn 105 rfl h49 <| lKn 106 rfl h49 <| lSkip (gd rfl rfl rfl rfl) rfl rfl <| lSkip (gd rfl rfl rfl rfl) rfl rfl <| lSkip (gd rfl rfl rfl rfl) rfl rfl <| lSkip (gd rfl rfl rfl rfl) rfl rfl <| R rfl (pkF rfl rfl) <| R rfl (mv rfl) <| lSkip (gd rfl rfl rfl rfl) rfl rfl <| lSkip (gd rfl rfl rfl rfl) rfl rfl <| lSkip (gd rfl rfl rfl rfl) rfl rfl <| lSkip (gd rfl rfl rfl rfl) rfl rfl <| lSkip (gd rfl rfl rfl rfl) rfl rfl <| R rfl (pkF rfl rfl) <| R rfl (mv rfl) <| lSkip (gd rfl rfl rfl rfl) rfl rfl <| R rfl (pkF rfl rfl) <| R rfl (asg rfl) <| gNil <| eThen <| gRet <| eRet [] [1001] rfl (eE rfl <| eN) (rR rfl rfl <| rN)
          · skip
            refine lKn 101 rfl h48 <| lKn 102 rfl h48 <| lSkip (gd rfl rfl rfl rfl) rfl rfl <| lSkip (gd rfl rfl rfl rfl) rfl rfl <| R rfl (pkF rfl rfl) <| R rfl (mv rfl) <| lSkip (gd rfl rfl rfl rfl) rfl rfl <| lSkip (gd rfl rfl rfl rfl) rfl rfl <| lSkip (gd rfl rfl rfl rfl) rfl rfl <| lSkip (gd rfl rfl rfl rfl) rfl rfl <| R rfl (pkF rfl rfl) <| R rfl (mv rfl) <| lSkip (gd rfl rfl rfl rfl) rfl rfl <| lSkip (gd rfl rfl rfl rfl) rfl rfl <| lSkip (gd rfl rfl rfl rfl) rfl rfl <| lSkip (gd rfl rfl rfl rfl) rfl rfl <| lSkip (gd rfl rfl rfl rfl) rfl rfl <| R rfl (pkF rfl rfl) <| R rfl (mv rfl) <| lSkip (gd rfl rfl rfl rfl) rfl rfl <| R rfl (pkF rfl rfl) <| R rfl (asg rfl) <| gNil <| eThen <| gRet <| eRet [] [1001] rfl (eE rfl <| eN) (rR rfl rfl <| rN)
        · skip
          refine lKn 98 rfl h45 <| lSkip (gd rfl rfl rfl rfl) rfl rfl <| lSkip (gd rfl rfl rfl rfl) rfl rfl <| R rfl (pkF rfl rfl) <| R rfl (mv rfl) <| lSkip (gd rfl rfl rfl rfl) rfl rfl <| lSkip (gd rfl rfl rfl rfl) rfl rfl <| R rfl (pkF rfl rfl) <| R rfl (mv rfl) <| lSkip (gd rfl rfl rfl rfl) rfl rfl <| lSkip (gd rfl rfl rfl rfl) rfl rfl <| lSkip (gd rfl rfl rfl rfl) rfl rfl <| lSkip (gd rfl rfl rfl rfl) rfl rfl <| R rfl (pkF rfl rfl) <| R rfl (mv rfl) <| lSkip (gd rfl rfl rfl rfl) rfl rfl <| lSkip (gd rfl rfl rfl rfl) rfl rfl <| lSkip (gd rfl rfl rfl rfl) rfl rfl <| lSkip (gd rfl rfl rfl rfl) rfl rfl <| lSkip (gd rfl rfl rfl rfl) rfl rfl <| R rfl (pkF rfl rfl) <| R rfl (mv rfl) <| lSkip (gd rfl rfl rfl rfl) rfl rfl <| R rfl (pkF rfl rfl) <| R rfl (asg rfl) <| gNil <| eThen <| gRet <| eRet [] [1001] rfl (eE rfl <| eN) (rR rfl rfl <| rN)


def braidref05_Sign (a0 : UInt64) : Option (UInt64) :=
  some (a0 / 9223372036854775808) >>= fun y1 =>
  some y1
set_option maxRecDepth 100000 in
theorem braidref05_Sign_ok (a0 : UInt64) : Spec Tryd.prog 72 [.rd u64R a0] [] (braidref05_Sign a0) (fun r nv => ⟨[.rd u64R r], []⟩) := by
  refine spec 5 Tryd.func72 rfl rfl rfl fun H w => ?_
  refine gSeq <| gReg <| R rfl (asg rfl) <| gNil <| eThen <| gSeq <| gReg <| R rfl (mv rfl) <| R rfl (U.quo rfl rfl (by decide)) <| R rfl (asg rfl) <| lName 2 rfl fun y1 => gNil <| eThen <| gRet <| eRet [] [] rfl (eE rfl <| eN) (rN)


def braidref05_side (a0 : api_Value) : Option (Int) :=
  if a0.Kind == 3 then
    some 4
  else
    if a0.Kind == 1 then
      if decide (a0.Num < 0) then
        some (-1)
      else
        if a0.Num == 0 then
          some 0
        else
          some 1
    else
      (braidref05_Sign a0.Bits >>= fun r7 =>
      if r7 == 1 then
        some (-1)
      else
        some 1) >>= fun s6 =>
      braidref05_Class a0.Bits >>= fun r10 =>
      if r10 == 1 then
        some 0
      else
        if r10 == 4 then
          some (w64 (2 * s6))
        else
          if r10 == 5 then
            some 3
          else
            some s6
set_option maxRecDepth 100000 in
theorem braidref05_side_ok (a0 : api_Value) : Spec Tryd.prog 57 [.rd R_api_Value a0] [] (braidref05_side a0) (fun r nv => ⟨[.rd i64R r], []⟩) := by
  refine spec 32 Tryd.func57 rfl rfl rfl fun H w => ?_
  refine gSeq <| gReg <| Eb rfl (bx 1 rfl) fun v1 => R rfl (asg rfl) <| gNil <| eThen <| gSeq <| gSeq <| gReg <| R rfl (faB 1 rfl rfl Tryd.underlying24 rfl (by exact ti5)) <| R rfl (ld 1 rfl rfl ((Foc.here).part (pt_api_Value_Kind _)) ty5 rfl) <| R rfl (B.eql rfl rfl) <| gNil <| eThen <| gIf rfl rfl (fun h2 => ?_) (fun h2 => ?_)
  · skip
    refine gSeq <| gReg <| R rfl (asg rfl) <| gNil <| eThen <| gRet <| eTret <| eRet [] [] rfl (eE rfl <| eN) (rN)
  · skip
    refine gSkip <| eThen <| gSeq <| gSeq <| gReg <| R rfl (faB 1 rfl rfl Tryd.underlying24 rfl (by exact ti5)) <| R rfl (ld 1 rfl rfl ((Foc.here).part (pt_api_Value_Kind _)) ty5 rfl) <| R rfl (B.eql rfl rfl) <| gNil <| eThen <| gIf rfl rfl (fun h3 => ?_) (fun h3 => ?_)
    · skip
      refine gSeq <| gSeq <| gReg <| R rfl (faB 1 rfl rfl Tryd.underlying24 rfl (by exact ti2)) <| R rfl (ld 1 rfl rfl ((Foc.here).part (pt_api_Value_Num _)) ty2 rfl) <| R rfl (I.lss rfl rfl) <| gNil <| eThen <| gIf rfl rfl (fun h4 => ?_) (fun h4 => ?_)
      · skip
        refine gSeq <| gReg <| R rfl (asg rfl) <| gNil <| eThen <| gRet <| eTret <| eTret <| eRet [] [] rfl (eE rfl <| eN) (rN)
      · skip
        refine gSkip <| eThen <| gSeq <| gSeq <| gReg <| R rfl (faB 1 rfl rfl Tryd.underlying24 rfl (by exact ti2)) <| R rfl (ld 1 rfl rfl ((Foc.here).part (pt_api_Value_Num _)) ty2 rfl) <| R rfl (I.eql rfl rfl) <| gNil <| eThen <| gIf rfl rfl (fun h5 => ?_) (fun h5 => ?_)
        · skip
          refine gSeq <| gReg <| R rfl (asg rfl) <| gNil <| eThen <| gRet <| eTret <| eTret <| eRet [] [] rfl (eE rfl <| eN) (rN)
        · skip
          refine gSkip <| eThen <| gSeq <| gReg <| R rfl (asg rfl) <| gNil <| eThen <| gRet <| eTret <| eRet [] [] rfl (eE rfl <| eN) (rN)
    · skip
      refine gSkip <| eThen <| gSeq <| gReg <| R rfl (asg rfl) <| gNil <| eThen <| gMid (fun (s6 : Int) aa ww => Sta (ctx 32 H [] w) [(1, .val (ptrTo v1 0)), (3, .rd i64R s6)] [(1, some (v1, .box 24 [.rd R_api_Value a0]))] aa ww) ?_ (fun s6 => ?_)
      · skip
        refine gSeq <| gReg <| R rfl (faB 1 rfl rfl Tryd.underlying24 rfl (by exact ti22)) <| R rfl (ld 1 rfl rfl ((Foc.here).part (pt_api_Value_Bits _)) ty22 rfl) <| call [] [] rfl Tryd.func72 rfl rfl (braidref05_Sign_ok _) (aQ rfl <| aN) rN fun r7 n8 => R rfl (U.eql rfl rfl) <| gNil <| eThen <| gIf rfl rfl (fun h9 => ?_) (fun h9 => ?_)
        · skip
          refine gReg <| R rfl (asg rfl) <| gNil <| eMid (fun aa ww h => h.sub [1] (sS rfl <| sS rfl <| sN) (rR rfl rfl <| rN))
        · skip
          refine gSkip <| eMid (fun aa ww h => h.sub [1] (sS rfl <| sS rfl <| sN) (rR rfl rfl <| rN))
      · skip
        refine gSeq <| gSeq <| gReg <| R rfl (faB 1 rfl rfl Tryd.underlying24 rfl (by exact ti22)) <| R rfl (ld 1 rfl rfl ((Foc.here).part (pt_api_Value_Bits _)) ty22 rfl) <| call [] [] rfl Tryd.func66 rfl rfl (braidref05_Class_ok _) (aQ rfl <| aN) rN fun r10 n11 => gNil <| eThen <| gBlk <| gSeq <| gReg <| R rfl (B.eql rfl rfl) <| R rfl (asg rfl) <| gNil <| eThen <| gIf rfl rfl (fun h12 => ?_) (fun h12 => ?_)
        · skip
          refine gKn 24 rfl h12 <| gSeq <| gReg <| R rfl (asg rfl) <| gNil <| eThen <| gRet <| eBret <| eTret <| eRet [] [] rfl (eE rfl <| eN) (rN)
        · skip
          refine gKn 24 rfl h12 <| gSeq <| gReg <| R rfl (B.eql rfl rfl) <| R rfl (asg rfl) <| gNil <| eThen <| gIf rfl rfl (fun h13 => ?_) (fun h13 => ?_)
          · skip
            refine gKn 26 rfl h13 <| gSeq <| gReg <| R rfl (mv rfl) <| R rfl (I.mul rfl rfl) <| R rfl (asg rfl) <| gNil <| eThen <| gRet <| eBret <| eTret <| eRet [] [] rfl (eE rfl <| eN) (rN)
          · skip
            refine gKn 26 rfl h13 <| gSeq <| gReg <| R rfl (B.eql rfl rfl) <| R rfl (asg rfl) <| gNil <| eThen <| gIf rfl rfl (fun h14 => ?_) (fun h14 => ?_)
            · skip
              refine gKn 30 rfl h14 <| gSeq <| gReg <| R rfl (asg rfl) <| gNil <| eThen <| gRet <| eBret <| eTret <| eRet [] [] rfl (eE rfl <| eN) (rN)
            · skip
              refine gKn 30 rfl h14 <| gSkip <| eBlk <| eThen <| gSeq <| gReg <| R rfl (mv rfl) <| R rfl (asg rfl) <| gNil <| eThen <| gRet <| eRet [] [] rfl (eE rfl <| eN) (rN)


def braidref05_order (a0 : Int) (a1 : Int) : Option (Int) :=
  if decide (a0 < a1) then
    some (-1)
  else
    if decide (a1 < a0) then
      some 1
    else
      some 0
set_option maxRecDepth 100000 in
theorem braidref05_order_ok (a0 : Int) (a1 : Int) : Spec Tryd.prog 58 [.rd i64R a0, .rd i64R a1] [] (braidref05_order a0 a1) (fun r nv => ⟨[.rd i64R r], []⟩) := by
  refine spec 11 Tryd.func58 rfl rfl rfl fun H w => ?_
  refine gSeq <| gReg <| R rfl (asg rfl) <| gNil <| eThen <| gSeq <| gSeq <| gReg <| R rfl (mv rfl) <| R rfl (mv rfl) <| R rfl (I.lss rfl rfl) <| gNil <| eThen <| gIf rfl rfl (fun h1 => ?_) (fun h1 => ?_)
  · skip
    refine gSeq <| gReg <| R rfl (asg rfl) <| gNil <| eThen <| gRet <| eTret <| eRet [] [] rfl (eE rfl <| eN) (rN)
  · skip
    refine gSkip <| eThen <| gSeq <| gSeq <| gReg <| R rfl (mv rfl) <| R rfl (mv rfl) <| R rfl (I.gtr rfl rfl) <| gNil <| eThen <| gIf rfl rfl (fun h2 => ?_) (fun h2 => ?_)
    · skip
      refine gSeq <| gReg <| R rfl (asg rfl) <| gNil <| eThen <| gRet <| eTret <| eRet [] [] rfl (eE rfl <| eN) (rN)
    · skip
      refine gSkip <| eThen <| gSeq <| gReg <| R rfl (asg rfl) <| gNil <| eThen <| gRet <| eRet [] [] rfl (eE rfl <| eN) (rN)

def braidref05_texts_L0 (a0 : List UInt8) (a1 : List UInt8) (s2 : Int) : Option (Sum (Sum Int Unit) Int) :=
  if decide (s2 < (a0.length : Int)) then
    if decide (s2 < (a1.length : Int)) then
      idx a0 s2 >>= fun x5 =>
      idx a1 s2 >>= fun x7 =>
      if x5 != x7 then
        idx a0 s2 >>= fun x10 =>
        idx a1 s2 >>= fun x12 =>
        braidref05_order (x10.toNat : Int) (x12.toNat : Int) >>= fun r14 =>
        some (.inl (.inl r14))
      else
        some (.inr (w64 (s2 + 1)))
    else
      some (.inl (.inr ()))
  else
    some (.inl (.inr ()))
def braidref05_texts (a0 : List UInt8) (a1 : List UInt8) : Option (Int) :=
  orRet (iter (braidref05_texts_L0 a0 a1) 0) fun s1 =>
  braidref05_order (a0.length : Int) (a1.length : Int) >>= fun r16 =>
  some r16
set_option maxRecDepth 100000 in
theorem braidref05_texts_ok (a0 : List UInt8) (a1 : List UInt8) : Spec Tryd.prog 59 [.rd strR a0, .rd strR a1] [] (braidref05_texts a0 a1) (fun r nv => ⟨[.rd i64R r], []⟩) := by
  refine spec 39 Tryd.func59 rfl rfl rfl fun H w => ?_
  refine gSeq <| gReg <| R rfl (asg rfl) <| gNil <| eThen <| gMidR (fun (s1 : Unit) aa ww => Sta (ctx 39 H [] w) [(0, .rd strR a0), (1, .rd strR a1)] [] aa ww) ?_ (fun s1 => ?_)
  · skip
    refine gSeq <| gReg <| R rfl (asg rfl) <| gNil <| eThen <| gLoop (fun (s2 : Int) aa ww => Sta (ctx 39 H [] w) [(0, .rd strR a0), (1, .rd strR a1), (5, .rd i64R s2)] [] aa ww) (fun aa ww h => h.sub [] (sS rfl <| sS rfl <| sS rfl <| sN) (rN)) (fun s2 => ?_)
    refine gSeq <| gSeq <| gReg <| R rfl (mv rfl) <| R rfl (mv rfl) <| R rfl (lenT rfl rfl Tryd.underlying9) <| R rfl (I.lss rfl rfl) <| R rfl (mv rfl) <| lSplit 10 rfl (fun h3 => ?_) (fun h3 => ?_)
    · skip
      refine lKn 9 rfl h3 <| lRun (gd rfl rfl rfl rfl) rfl rfl (mv rfl) <| lRun (gd rfl rfl rfl rfl) rfl rfl (mv rfl) <| lRun (gd rfl rfl rfl rfl) rfl rfl (lenT rfl rfl Tryd.underlying9) <| lRun (gd rfl rfl rfl rfl) rfl rfl (I.lss rfl rfl) <| R rfl (pkT rfl rfl) <| gNil <| eThen <| gIf rfl rfl (fun h4 => ?_) (fun h4 => ?_)
      · skip
        refine gKn 14 rfl h4 <| gSkip <| eThen <| gSeq <| gBlk <| gSeq <| gRegQ mixed (by kernel_rfl) <| Rq rfl (mv rfl) <| Rq rfl (mv rfl) <| qBind fun x5 h6 => Rq rfl (idxT rfl rfl Tryd.underlying9 (idx_some h6).1 (idx_some h6).2.1) <| Rq rfl (mv rfl) <| Rq rfl (mv rfl) <| qBind fun x7 h8 => Rq rfl (idxT rfl rfl Tryd.underlying9 (idx_some h8).1 (idx_some h8).2.1) <| Rq rfl (B.neq rfl rfl) <| qNil <| eThen <| gIf rfl rfl (fun h9 => ?_) (fun h9 => ?_)
        · skip
          refine gSeq <| gRegH [] mixed rfl rfl <| hTake 0 rfl (by kernel_rfl) (by kernel_rfl) (by kernel_rfl) (gd0 rfl) rfl rfl (mv rfl) <| hTake 1 rfl (by kernel_rfl) (by kernel_rfl) (by kernel_rfl) (gd0 rfl) rfl rfl (mv rfl) <| hBind fun x10 h11 => hTake 2 rfl (by kernel_rfl) (by kernel_rfl) (by kernel_rfl) (gd0 rfl) rfl rfl (idxT rfl rfl Tryd.underlying9 (idx_some h11).1 (idx_some h11).2.1) <| hTake 3 rfl (by kernel_rfl) (by kernel_rfl) (by kernel_rfl) (gd0 rfl) rfl rfl (B.toI rfl Tryd.underlying5 Tryd.underlying3) <| hTake 4 rfl (by kernel_rfl) (by kernel_rfl) (by kernel_rfl) (gd0 rfl) rfl rfl (mv rfl) <| hTake 5 rfl (by kernel_rfl) (by kernel_rfl) (by kernel_rfl) (gd0 rfl) rfl rfl (mv rfl) <| hBind fun x12 h13 => hTake 6 rfl (by kernel_rfl) (by kernel_rfl) (by kernel_rfl) (gd0 rfl) rfl rfl (idxT rfl rfl Tryd.underlying9 (idx_some h13).1 (idx_some h13).2.1) <| hTake 7 rfl (by kernel_rfl) (by kernel_rfl) (by kernel_rfl) (gd0 rfl) rfl rfl (B.toI rfl Tryd.underlying5 Tryd.underlying3) <| hCallF 8 [] [] rfl (by kernel_rfl) rfl (gd0 rfl) rfl Tryd.func58 rfl rfl (braidref05_order_ok _ _) (aQ rfl <| aQ rfl <| aN) rN rfl (fun _ _ => flat_num) fun r14 n15 => hTake 9 rfl (by kernel_rfl) (by kernel_rfl) (by kernel_rfl) (gd0 rfl) rfl rfl (asg rfl) <| hDone (by kernel_rfl) <| eThen <| gRet <| eBret <| eTret <| eLret <| eMret <| eRet [] [] rfl (eE rfl <| eN) (rN)
        · skip
          refine gSkip <| eBlk <| eThen <| gReg <| R rfl (mv rfl) <| R rfl (I.add rfl rfl) <| R rfl (asg rfl) <| gNil <| eNext (fun aa ww h => h.sub [] (sS rfl <| sS rfl <| sS rfl <| sN) (rN))
      · skip
        refine gKn 14 rfl h4 <| gExit <| eTexit <| eLeave <| eMidR (fun aa ww h => h.sub [] (sS rfl <| sS rfl <| sN) (rN))
    · skip
      refine lKn 9 rfl h3 <| lSkip (gd rfl rfl rfl rfl) rfl rfl <| lSkip (gd rfl rfl rfl rfl) rfl rfl <| lSkip (gd rfl rfl rfl rfl) rfl rfl <| lSkip (gd rfl rfl rfl rfl) rfl rfl <| R rfl (pkF rfl rfl) <| gNil <| eThen <| gFalse rfl <| gExit <| eTexit <| eLeave <| eMidR (fun aa ww h => h.sub [] (sS rfl <| sS rfl <| sN) (rN))
  · skip
    refine gSeq <| gReg <| R rfl (mv rfl) <| R rfl (lenT rfl rfl Tryd.underlying9) <| R rfl (mv rfl) <| R rfl (lenT rfl rfl Tryd.underlying9) <| call [] [] rfl Tryd.func58 rfl rfl (braidref05_order_ok _ _) (aQ rfl <| aQ rfl <| aN) rN fun r16 n17 => R rfl (asg rfl) <| gNil <| eThen <| gRet <| eRet [] [] rfl (eE rfl <| eN) (rN)

def braidref05_digits_L0 (a0 : UInt64) (a1 : Int) (s2 : (List UInt8) × Int) : Option (Sum ((List UInt8)) ((List UInt8) × Int)) :=
  if decide (s2.2 < a1) then
    if decide (0 < a0) then
      app 1 s2.1 [0] >>= fun x7 =>
      some (w64 (s2.2 + 1)) >>= fun y10 =>
      some (.inr (x7, y10))
    else
      some (.inl s2.1)
  else
    some (.inl s2.1)
def braidref05_digits_L2 (s13 : UInt64 × (List UInt8)) : Option (Sum ((List UInt8)) (UInt64 × (List UInt8))) :=
  if decide (0 < s13.1) then
    app 1 s13.2 [(s13.1 % 2).toUInt8] >>= fun x17 =>
    some (.inr (s13.1 / 2, x17))
  else
    some (.inl s13.2)
def braidref05_digits (a0 : UInt64) (a1 : Int) : Option ((List UInt8)) :=
  (iter (braidref05_digits_L0 a0 a1) ([], 0)) >>= fun s1 =>
  (iter (braidref05_digits_L2) (a0, s1)) >>= fun s12 =>
  some s12
set_option maxRecDepth 100000 in
theorem braidref05_digits_ok (a0 : UInt64) (a1 : Int) : Spec Tryd.prog 73 [.rd u64R a0, .rd i64R a1] [] (braidref05_digits a0 a1) (fun r nv => ⟨[.val (nv 0)], [(100, some (nv 0, .list u8R 5 r))]⟩) := by
  refine spec 30 Tryd.func73 rfl rfl rfl fun H w => ?_
  refine gSeq <| gReg <| R rfl (asg rfl) <| gNil <| eThen <| gSeq <| gReg <| R rfl (asg rfl) <| gNil <| eThen <| gMid (fun (s1 : (List UInt8)) aa ww => ∃ nv : Nat → Value, Sta (ctx 30 H [] w) [(0, .rd u64R a0), (5, .val (nv 0))] [(2, some ((nv 0), .list u8R 5 s1))] aa ww) ?_ (fun s1 => ?_)
  · skip
    refine gSeq <| gReg <| R rfl (asg rfl) <| gNil <| eThen <| gNew u8R 5 5 <| gLoop (fun (s2 : (List UInt8) × Int) aa ww => ∃ nv : Nat → Value, Sta (ctx 30 H [] w) [(0, .rd u64R a0), (1, .rd i64R a1), (5, .val (nv 0)), (6, .rd i64R s2.2)] [(4, some ((nv 0), .list u8R 5 s2.1))] aa ww) (fun aa ww h => ⟨nvl [(.slice none 0 0)], h.sub [5] (sS rfl <| sS rfl <| sS rfl <| sS rfl <| sN) (rR rfl rfl <| rN)⟩) (fun s2 => ?_)
    refine gEx fun n3 => gSeq <| gSeq <| gReg <| R rfl (mv rfl) <| R rfl (mv rfl) <| R rfl (I.lss rfl rfl) <| R rfl (mv rfl) <| lSplit 10 rfl (fun h4 => ?_) (fun h4 => ?_)
    · skip
      refine lKn 9 rfl h4 <| lRun (gd rfl rfl rfl rfl) rfl rfl (mv rfl) <| lRun (gd rfl rfl rfl rfl) rfl rfl (U.gtr rfl rfl) <| R rfl (pkT rfl rfl) <| gNil <| eThen <| gIf rfl rfl (fun h5 => ?_) (fun h5 => ?_)
      · skip
        refine gKn 12 rfl h5 <| gSkip <| eThen <| gSeq <| gBlk <| gReg <| R rfl (mv rfl) <| Ef rfl (lit (R := u8R) ([0] : List UInt8) 6 (pP rfl rfl <| pN) rfl Tryd.underlying40 ti5 rfl rfl) fun v6 => lBind fun x7 h8 => Ef rfl (apn 4 rfl rfl rfl (.own 6 rfl) h8 Tryd.underlying40 ti5 rfl rfl rfl) fun v9 => R rfl (asg rfl) <| gNil <| eBlk <| eThen <| gReg <| R rfl (mv rfl) <| R rfl (I.add rfl rfl) <| R rfl (asg rfl) <| lName 6 rfl fun y10 => gNil <| eNext (fun aa ww h => ⟨nvl [v9], h.sub [4] (sS rfl <| sS rfl <| sS rfl <| sS rfl <| sN) (rR rfl rfl <| rN)⟩)
      · skip
        refine gKn 12 rfl h5 <| gExit <| eTexit <| eLeave <| eMid (fun aa ww h => ⟨nvl [(n3 0)], h.sub [4] (sS rfl <| sS rfl <| sN) (rR rfl rfl <| rN)⟩)
    · skip
      refine lKn 9 rfl h4 <| lSkip (gd rfl rfl rfl rfl) rfl rfl <| lSkip (gd rfl rfl rfl rfl) rfl rfl <| R rfl (pkF rfl rfl) <| gNil <| eThen <| gFalse rfl <| gExit <| eTexit <| eLeave <| eMid (fun aa ww h => ⟨nvl [(n3 0)], h.sub [4] (sS rfl <| sS rfl <| sN) (rR rfl rfl <| rN)⟩)
  · skip
    refine gEx fun n11 => gMid (fun (s12 : (List UInt8)) aa ww => ∃ nv : Nat → Value, Sta (ctx 30 H [] w) [(5, .val (nv 0))] [(2, some ((nv 0), .list u8R 5 s12))] aa ww) ?_ (fun s12 => ?_)
    · skip
      refine gLoop (fun (s13 : UInt64 × (List UInt8)) aa ww => ∃ nv : Nat → Value, Sta (ctx 30 H [] w) [(0, .rd u64R s13.1), (5, .val (nv 0))] [(2, some ((nv 0), .list u8R 5 s13.2))] aa ww) (fun aa ww h => ⟨nvl [(n11 0)], h.sub [2] (sS rfl <| sS rfl <| sN) (rR rfl rfl <| rN)⟩) (fun s13 => ?_)
      refine gEx fun n14 => gSeq <| gSeq <| gReg <| R rfl (mv rfl) <| R rfl (U.gtr rfl rfl) <| gNil <| eThen <| gIf rfl rfl (fun h15 => ?_) (fun h15 => ?_)
      · skip
        refine gSkip <| eThen <| gBlk <| gSeq <| gReg <| R rfl (mv rfl) <| R rfl (mv rfl) <| R rfl (U.rem rfl rfl (by decide)) <| R rfl (U.toB rfl Tryd.underlying22 Tryd.underlying5) <| Ef rfl (lit (R := u8R) ([(s13.1 % 2).toUInt8] : List UInt8) 7 (pP rfl rfl <| pN) rfl Tryd.underlying40 ti5 rfl rfl) fun v16 => lBind fun x17 h18 => Ef rfl (apn 2 rfl rfl rfl (.own 7 rfl) h18 Tryd.underlying40 ti5 rfl rfl rfl) fun v19 => R rfl (asg rfl) <| gNil <| eThen <| gReg <| R rfl (mv rfl) <| R rfl (U.quo rfl rfl (by decide)) <| R rfl (asg rfl) <| gNil <| eBlk <| eNext (fun aa ww h => ⟨nvl [v19], h.sub [2] (sS rfl <| sS rfl <| sN) (rR rfl rfl <| rN)⟩)
      · skip
        refine gExit <| eTexit <| eLeave <| eMid (fun aa ww h => ⟨nvl [(n14 0)], h.sub [2] (sS rfl <| sN) (rR rfl rfl <| rN)⟩)
    · skip
      refine gEx fun n20 => gSeq <| gReg <| R rfl (mv rfl) <| R rfl (asg rfl) <| gNil <| eThen <| gRet <| eRet [(n20 0)] [2] rfl (eE rfl <| eN) (rR rfl rfl <| rN)


def braidref05_size (a0 : api_Value) : Option ((List UInt8)) :=
  if a0.Kind == 1 then
    if decide (a0.Num < 0) then
      braidref05_digits ((UInt64.ofInt (w64 (0 - (w64 (a0.Num + 1))))) + 1) 1074 >>= fun r4 =>
      some r4
    else
      braidref05_digits (UInt64.ofInt a0.Num) 1074 >>= fun r6 =>
      some r6
  else
    braidref05_Exponent a0.Bits >>= fun r8 =>
    braidref05_Fraction a0.Bits >>= fun r10 =>
    if r8 == 0 then
      braidref05_digits r10 0 >>= fun r13 =>
      some r13
    else
      braidref05_digits (4503599627370496 + r10) (w64 (r8 - 1)) >>= fun r15 =>
      some r15
set_option maxRecDepth 100000 in
theorem braidref05_size_ok (a0 : api_Value) : Spec Tryd.prog 61 [.rd R_api_Value a0] [] (braidref05_size a0) (fun r nv => ⟨[.val (nv 0)], [(100, some (nv 0, .list u8R 5 r))]⟩) := by
  refine spec 37 Tryd.func61 rfl rfl rfl fun H w => ?_
  refine gSeq <| gReg <| Eb rfl (bx 1 rfl) fun v1 => R rfl (asg rfl) <| gNil <| eThen <| gSeq <| gSeq <| gReg <| R rfl (faB 1 rfl rfl Tryd.underlying24 rfl (by exact ti5)) <| R rfl (ld 1 rfl rfl ((Foc.here).part (pt_api_Value_Kind _)) ty5 rfl) <| R rfl (B.eql rfl rfl) <| gNil <| eThen <| gIf rfl rfl (fun h2 => ?_) (fun h2 => ?_)
  · skip
    refine gSeq <| gSeq <| gReg <| R rfl (faB 1 rfl rfl Tryd.underlying24 rfl (by exact ti2)) <| R rfl (ld 1 rfl rfl ((Foc.here).part (pt_api_Value_Num _)) ty2 rfl) <| R rfl (I.lss rfl rfl) <| gNil <| eThen <| gIf rfl rfl (fun h3 => ?_) (fun h3 => ?_)
    · skip
      refine gSeq <| gReg <| R rfl (faB 1 rfl rfl Tryd.underlying24 rfl (by exact ti2)) <| R rfl (ld 1 rfl rfl ((Foc.here).part (pt_api_Value_Num _)) ty2 rfl) <| R rfl (I.add rfl rfl) <| R rfl (I.neg rfl) <| R rfl (I.toU rfl Tryd.underlying2 Tryd.underlying22) <| R rfl (U.add rfl rfl) <| call [] [(100, 2)] rfl Tryd.func73 rfl rfl (braidref05_digits_ok _ _) (aQ rfl <| aQ rfl <| aN) rN fun r4 n5 => R rfl (asg rfl) <| gNil <| eThen <| gRet <| eTret <| eTret <| eRet [(n5 0)] [2] rfl (eE rfl <| eN) (rR rfl rfl <| rN)
    · skip
      refine gSkip <| eThen <| gSeq <| gReg <| R rfl (faB 1 rfl rfl Tryd.underlying24 rfl (by exact ti2)) <| R rfl (ld 1 rfl rfl ((Foc.here).part (pt_api_Value_Num _)) ty2 rfl) <| R rfl (I.toU rfl Tryd.underlying2 Tryd.underlying22) <| call [] [(100, 3)] rfl Tryd.func73 rfl rfl (braidref05_digits_ok _ _) (aQ rfl <| aQ rfl <| aN) rN fun r6 n7 => R rfl (asg rfl) <| gNil <| eThen <| gRet <| eTret <| eRet [(n7 0)] [3] rfl (eE rfl <| eN) (rR rfl rfl <| rN)
  · skip
    refine gSkip <| eThen <| gSeq <| gRegH [] mixed rfl rfl <| hTake 0 rfl (by kernel_rfl) (by kernel_rfl) (by kernel_rfl) (gd0 rfl) rfl rfl (faB 1 rfl rfl Tryd.underlying24 rfl (by exact ti22)) <| hTake 1 rfl (by kernel_rfl) (by kernel_rfl) (by kernel_rfl) (gd0 rfl) rfl rfl (ld 1 rfl rfl ((Foc.here).part (pt_api_Value_Bits _)) ty22 rfl) <| hTake 3 rfl (by kernel_rfl) (by kernel_rfl) (by kernel_rfl) (gd0 rfl) rfl rfl (faB 1 rfl rfl Tryd.underlying24 rfl (by exact ti22)) <| hTake 4 rfl (by kernel_rfl) (by kernel_rfl) (by kernel_rfl) (gd0 rfl) rfl rfl (ld 1 rfl rfl ((Foc.here).part (pt_api_Value_Bits _)) ty22 rfl) <| hCallF 2 [] [] rfl (by kernel_rfl) rfl (gd0 rfl) rfl Tryd.func74 rfl rfl (braidref05_Exponent_ok _) (aQ rfl <| aN) rN rfl (fun _ _ => flat_num) fun r8 n9 => hCallF 5 [] [] rfl (by kernel_rfl) rfl (gd0 rfl) rfl Tryd.func75 rfl rfl (braidref05_Fraction_ok _) (aQ rfl <| aN) rN rfl (fun _ _ => flat_num) fun r10 n11 => hTake 6 rfl (by kernel_rfl) (by kernel_rfl) (by kernel_rfl) (gd0 rfl) rfl rfl (asg rfl) <| hTake 7 rfl (by kernel_rfl) (by kernel_rfl) (by kernel_rfl) (gd0 rfl) rfl rfl (asg rfl) <| hDone (by kernel_rfl) <| eThen <| gSeq <| gSeq <| gReg <| R rfl (mv rfl) <| R rfl (I.eql rfl rfl) <| gNil <| eThen <| gIf rfl rfl (fun h12 => ?_) (fun h12 => ?_)
    · skip
      refine gSeq <| gReg <| R rfl (mv rfl) <| call [] [(100, 31)] rfl Tryd.func73 rfl rfl (braidref05_digits_ok _ _) (aQ rfl <| aQ rfl <| aN) rN fun r13 n14 => R rfl (asg rfl) <| gNil <| eThen <| gRet <| eTret <| eRet [(n14 0)] [31] rfl (eE rfl <| eN) (rR rfl rfl <| rN)
    · skip
      refine gSkip <| eThen <| gSeq <| gReg <| R rfl (mv rfl) <| R rfl (U.add rfl rfl) <| R rfl (mv rfl) <| R rfl (I.sub rfl rfl) <| call [] [(100, 32)] rfl Tryd.func73 rfl rfl (braidref05_digits_ok _ _) (aQ rfl <| aQ rfl <| aN) rN fun r15 n16 => R rfl (asg rfl) <| gNil <| eThen <| gRet <| eRet [(n16 0)] [32] rfl (eE rfl <| eN) (rR rfl rfl <| rN)

def braidref05_less_L0 (a0 : List UInt8) (a1 : List UInt8) (s5 : Int) : Option (Sum (Sum Int Unit) Int) :=
  if decide (0 ≤ s5) then
    idx a0 s5 >>= fun x7 =>
    idx a1 s5 >>= fun x9 =>
    if x7 != x9 then
      idx a0 s5 >>= fun x12 =>
      idx a1 s5 >>= fun x14 =>
      if decide (x12 < x14) then
        some (.inl (.inl (-1)))
      else
        some (.inl (.inl 1))
    else
      some (.inr (w64 (s5 - 1)))
  else
    some (.inl (.inr ()))
def braidref05_less (a0 : List UInt8) (a1 : List UInt8) : Option (Int) :=
  if (a0.length : Int) != (a1.length : Int) then
    if decide ((a0.length : Int) < (a1.length : Int)) then
      some (-1)
    else
      some 1
  else
    orRet (some (w64 ((a0.length : Int) - 1)) >>= fun y4 =>
    iter (braidref05_less_L0 a0 a1) y4) fun s3 =>
    some 0
set_option maxRecDepth 100000 in
theorem braidref05_less_ok (a0 : List UInt8) (a1 : List UInt8) : Spec Tryd.prog 60 [.rd (sliceR u8R) a0, .rd (sliceR u8R) a1] [] (braidref05_less a0 a1) (fun r nv => ⟨[.rd i64R r], []⟩) := by
  refine spec 41 Tryd.func60 rfl rfl rfl fun H w => ?_
  refine gSeq <| gReg <| R rfl (asg rfl) <| gNil <| eThen <| gSeq <| gSeq <| gReg <| R rfl (mv rfl) <| R rfl (len' rfl .rd rfl Tryd.underlying40) <| R rfl (mv rfl) <| R rfl (len' rfl .rd rfl Tryd.underlying40) <| R rfl (I.neq rfl rfl) <| gNil <| eThen <| gIf rfl rfl (fun h1 => ?_) (fun h1 => ?_)
  · skip
    refine gSeq <| gSeq <| gReg <| R rfl (mv rfl) <| R rfl (len' rfl .rd rfl Tryd.underlying40) <| R rfl (mv rfl) <| R rfl (len' rfl .rd rfl Tryd.underlying40) <| R rfl (I.lss rfl rfl) <| gNil <| eThen <| gIf rfl rfl (fun h2 => ?_) (fun h2 => ?_)
    · skip
      refine gSeq <| gReg <| R rfl (asg rfl) <| gNil <| eThen <| gRet <| eTret <| eTret <| eRet [] [] rfl (eE rfl <| eN) (rN)
    · skip
      refine gSkip <| eThen <| gSeq <| gReg <| R rfl (asg rfl) <| gNil <| eThen <| gRet <| eTret <| eRet [] [] rfl (eE rfl <| eN) (rN)
  · skip
    refine gSkip <| eThen <| gMidR (fun (s3 : Unit) aa ww => Sta (ctx 41 H [] w) [] [] aa ww) ?_ (fun s3 => ?_)
    · skip
      refine gSeq <| gReg <| R rfl (mv rfl) <| R rfl (len' rfl .rd rfl Tryd.underlying40) <| R rfl (I.sub rfl rfl) <| R rfl (asg rfl) <| lName 5 rfl fun y4 => gNil <| eThen <| gLoop (fun (s5 : Int) aa ww => Sta (ctx 41 H [] w) [(0, .rd (sliceR u8R) a0), (1, .rd (sliceR u8R) a1), (5, .rd i64R s5)] [] aa ww) (fun aa ww h => h.sub [] (sS rfl <| sS rfl <| sS rfl <| sN) (rN)) (fun s5 => ?_)
      refine gSeq <| gSeq <| gReg <| R rfl (mv rfl) <| R rfl (I.geq rfl rfl) <| gNil <| eThen <| gIf rfl rfl (fun h6 => ?_) (fun h6 => ?_)
      · skip
        refine gSkip <| eThen <| gSeq <| gBlk <| gSeq <| gRegQ mixed (by kernel_rfl) <| Rq rfl (mv rfl) <| Rq rfl (mv rfl) <| qBind fun x7 h8 => Rq rfl (ixR rfl rfl h8 Tryd.underlying40 ti5 rfl) <| Rq rfl (ldR rfl ty5) <| Rq rfl (mv rfl) <| Rq rfl (mv rfl) <| qBind fun x9 h10 => Rq rfl (ixR rfl rfl h10 Tryd.underlying40 ti5 rfl) <| Rq rfl (ldR rfl ty5) <| Rq rfl (B.neq rfl rfl) <| qNil <| eThen <| gIf rfl rfl (fun h11 => ?_) (fun h11 => ?_)
        · skip
          refine gSeq <| gSeq <| gRegQ mixed (by kernel_rfl) <| Rq rfl (mv rfl) <| Rq rfl (mv rfl) <| qBind fun x12 h13 => Rq rfl (ixR rfl rfl h13 Tryd.underlying40 ti5 rfl) <| Rq rfl (ldR rfl ty5) <| Rq rfl (mv rfl) <| Rq rfl (mv rfl) <| qBind fun x14 h15 => Rq rfl (ixR rfl rfl h15 Tryd.underlying40 ti5 rfl) <| Rq rfl (ldR rfl ty5) <| Rq rfl (B.lss rfl rfl) <| qNil <| eThen <| gIf rfl rfl (fun h16 => ?_) (fun h16 => ?_)
          · skip
            refine gSeq <| gReg <| R rfl (asg rfl) <| gNil <| eThen <| gRet <| eTret <| eBret <| eTret <| eLret <| eMret <| eRet [] [] rfl (eE rfl <| eN) (rN)
          · skip
            refine gSkip <| eThen <| gSeq <| gReg <| R rfl (asg rfl) <| gNil <| eThen <| gRet <| eBret <| eTret <| eLret <| eMret <| eRet [] [] rfl (eE rfl <| eN) (rN)
        · skip
          refine gSkip <| eBlk <| eThen <| gReg <| R rfl (mv rfl) <| R rfl (I.sub rfl rfl) <| R rfl (asg rfl) <| gNil <| eNext (fun aa ww h => h.sub [] (sS rfl <| sS rfl <| sS rfl <| sN) (rN))
      · skip
        refine gExit <| eTexit <| eLeave <| eMidR (fun aa ww h => h.sub [] (sN) (rN))
    · skip
      refine gSeq <| gReg <| R rfl (asg rfl) <| gNil <| eThen <| gRet <| eRet [] [] rfl (eE rfl <| eN) (rN)


def braidref05_rank (a0 : api_Value) : Option (Int) :=
  if a0.Kind == 1 then
    some 1
  else
    braidref05_Class a0.Bits >>= fun r3 =>
    if r3 == 1 then
      braidref05_Sign a0.Bits >>= fun r6 =>
      if r6 == 1 then
        some 0
      else
        some 2
    else
      some 2
set_option maxRecDepth 100000 in
theorem braidref05_rank_ok (a0 : api_Value) : Spec Tryd.prog 62 [.rd R_api_Value a0] [] (braidref05_rank a0) (fun r nv => ⟨[.rd i64R r], []⟩) := by
  refine spec 16 Tryd.func62 rfl rfl rfl fun H w => ?_
  refine gSeq <| gReg <| Eb rfl (bx 1 rfl) fun v1 => R rfl (asg rfl) <| gNil <| eThen <| gSeq <| gSeq <| gReg <| R rfl (faB 1 rfl rfl Tryd.underlying24 rfl (by exact ti5)) <| R rfl (ld 1 rfl rfl ((Foc.here).part (pt_api_Value_Kind _)) ty5 rfl) <| R rfl (B.eql rfl rfl) <| gNil <| eThen <| gIf rfl rfl (fun h2 => ?_) (fun h2 => ?_)
  · skip
    refine gSeq <| gReg <| R rfl (asg rfl) <| gNil <| eThen <| gRet <| eTret <| eRet [] [] rfl (eE rfl <| eN) (rN)
  · skip
    refine gSkip <| eThen <| gSeq <| gSeq <| gReg <| R rfl (faB 1 rfl rfl Tryd.underlying24 rfl (by exact ti22)) <| R rfl (ld 1 rfl rfl ((Foc.here).part (pt_api_Value_Bits _)) ty22 rfl) <| call [] [] rfl Tryd.func66 rfl rfl (braidref05_Class_ok _) (aQ rfl <| aN) rN fun r3 n4 => R rfl (B.eql rfl rfl) <| R rfl (mv rfl) <| lSplit 10 rfl (fun h5 => ?_) (fun h5 => ?_)
    · skip
      refine lKn 9 rfl h5 <| lRun (gd rfl rfl rfl rfl) rfl rfl (faB 1 rfl rfl Tryd.underlying24 rfl (by exact ti22)) <| lRun (gd rfl rfl rfl rfl) rfl rfl (ld 1 rfl rfl ((Foc.here).part (pt_api_Value_Bits _)) ty22 rfl) <| callg [] [] (gd rfl rfl rfl rfl) rfl Tryd.func72 rfl rfl (braidref05_Sign_ok _) (aQ rfl <| aN) rN fun r6 n7 => lRun (gd rfl rfl rfl rfl) rfl rfl (U.eql rfl rfl) <| R rfl (pkT rfl rfl) <| gNil <| eThen <| gIf rfl rfl (fun h8 => ?_) (fun h8 => ?_)
      · skip
        refine gKn 14 rfl h8 <| gSeq <| gReg <| R rfl (asg rfl) <| gNil <| eThen <| gRet <| eTret <| eRet [] [] rfl (eE rfl <| eN) (rN)
      · skip
        refine gKn 14 rfl h8 <| gSkip <| eThen <| gSeq <| gReg <| R rfl (asg rfl) <| gNil <| eThen <| gRet <| eRet [] [] rfl (eE rfl <| eN) (rN)
    · skip
      refine lKn 9 rfl h5 <| lSkip (gd rfl rfl rfl rfl) rfl rfl <| lSkip (gd rfl rfl rfl rfl) rfl rfl <| lSkip (gd rfl rfl rfl rfl) rfl rfl <| lSkip (gd rfl rfl rfl rfl) rfl rfl <| R rfl (pkF rfl rfl) <| gNil <| eThen <| gFalse rfl <| gSkip <| eThen <| gSeq <| gReg <| R rfl (asg rfl) <| gNil <| eThen <| gRet <| eRet [] [] rfl (eE rfl <| eN) (rN)


def braidref05_Compare (a0 : api_Value) (a1 : api_Value) : Option (Int) :=
  braidref05_side a0 >>= fun r3 =>
  braidref05_side a1 >>= fun r5 =>
  if r3 != r5 then
    braidref05_order r3 r5 >>= fun r8 =>
    some r8
  else
    orRet (if r3 == 4 then
      braidref05_texts a0.Text a1.Text >>= fun r12 =>
      some (.inl r12)
    else
      if r3 == (-1) then
        braidref05_size a1 >>= fun r15 =>
        braidref05_size a0 >>= fun r17 =>
        braidref05_less r15 r17 >>= fun r19 =>
        if r19 != 0 then
          some (.inl r19)
        else
          some (.inr ())
      else
        if r3 == 1 then
          braidref05_size a0 >>= fun r23 =>
          braidref05_size a1 >>= fun r25 =>
          braidref05_less r23 r25 >>= fun r27 =>
          if r27 != 0 then
            some (.inl r27)
          else
            some (.inr ())
        else
          some (.inr ())) fun s10 =>
    braidref05_rank a0 >>= fun r30 =>
    braidref05_rank a1 >>= fun r32 =>
    braidref05_order r30 r32 >>= fun r34 =>
    some r34
set_option maxRecDepth 100000 in
theorem braidref05_Compare_ok (a0 : api_Value) (a1 : api_Value) : Spec Tryd.prog 38 [.rd R_api_Value a0, .rd R_api_Value a1] [] (braidref05_Compare a0 a1) (fun r nv => ⟨[.rd i64R r], []⟩) := by
  refine spec 52 Tryd.func38 rfl rfl rfl fun H w => ?_
  refine gSeq <| gReg <| Eb rfl (bx 1 rfl) fun v1 => Eb rfl (bx 2 rfl) fun v2 => R rfl (asg rfl) <| gNil <| eThen <| gSeq <| gRegH [] mixed rfl rfl <| hTake 0 rfl (by kernel_rfl) (by kernel_rfl) (by kernel_rfl) (gd0 rfl) rfl rfl (ld 1 rfl rfl Foc.here ty24 rfl) <| hTake 2 rfl (by kernel_rfl) (by kernel_rfl) (by kernel_rfl) (gd0 rfl) rfl rfl (ld 2 rfl rfl Foc.here ty24 rfl) <| hCallF 1 [] [] rfl (by kernel_rfl) rfl (gd0 rfl) rfl Tryd.func57 rfl rfl (braidref05_side_ok _) (aQ rfl <| aN) rN rfl (fun _ _ => flat_num) fun r3 n4 => hCallF 3 [] [] rfl (by kernel_rfl) rfl (gd0 rfl) rfl Tryd.func57 rfl rfl (braidref05_side_ok _) (aQ rfl <| aN) rN rfl (fun _ _ => flat_num) fun r5 n6 => hTake 4 rfl (by kernel_rfl) (by kernel_rfl) (by kernel_rfl) (gd0 rfl) rfl rfl (asg rfl) <| hTake 5 rfl (by kernel_rfl) (by kernel_rfl) (by kernel_rfl) (gd0 rfl) rfl rfl (asg rfl) <| hDone (by kernel_rfl) <| eThen <| gSeq <| gSeq <| gReg <| R rfl (mv rfl) <| R rfl (mv rfl) <| R rfl (I.neq rfl rfl) <| gNil <| eThen <| gIf rfl rfl (fun h7 => ?_) (fun h7 => ?_)
  · skip
    refine gSeq <| gReg <| R rfl (mv rfl) <| R rfl (mv rfl) <| call [] [] rfl Tryd.func58 rfl rfl (braidref05_order_ok _ _) (aQ rfl <| aQ rfl <| aN) rN fun r8 n9 => R rfl (asg rfl) <| gNil <| eThen <| gRet <| eTret <| eRet [] [] rfl (eE rfl <| eN) (rN)
  · skip
    refine gSkip <| eThen <| gMidR (fun (s10 : Unit) aa ww => Sta (ctx 52 H [] w) [(2, .val (ptrTo v1 0)), (3, .val (ptrTo v2 0))] [(1, some (v1, .box 24 [.rd R_api_Value a0])), (2, some (v2, .box 24 [.rd R_api_Value a1]))] aa ww) ?_ (fun s10 => ?_)
    · skip
      refine gSeq <| gReg <| R rfl (mv rfl) <| gNil <| eThen <| gBlk <| gSeq <| gReg <| R rfl (I.eql rfl rfl) <| R rfl (asg rfl) <| gNil <| eThen <| gIf rfl rfl (fun h11 => ?_) (fun h11 => ?_)
      · skip
        refine gKn 21 rfl h11 <| gSeq <| gReg <| R rfl (faB 1 rfl rfl Tryd.underlying24 rfl (by exact ti9)) <| R rfl (ld 1 rfl rfl ((Foc.here).part (pt_api_Value_Text _)) ty9 rfl) <| R rfl (faB 2 rfl rfl Tryd.underlying24 rfl (by exact ti9)) <| R rfl (ld 2 rfl rfl ((Foc.here).part (pt_api_Value_Text _)) ty9 rfl) <| call [] [] rfl Tryd.func59 rfl rfl (braidref05_texts_ok _ _) (aQ rfl <| aQ rfl <| aN) rN fun r12 n13 => R rfl (asg rfl) <| gNil <| eThen <| gRet <| eBret <| eMret <| eRet [] [] rfl (eE rfl <| eN) (rN)
      · skip
        refine gKn 21 rfl h11 <| gSeq <| gReg <| R rfl (I.eql rfl rfl) <| R rfl (asg rfl) <| gNil <| eThen <| gIf rfl rfl (fun h14 => ?_) (fun h14 => ?_)
        · skip
          refine gKn 28 rfl h14 <| gSeq <| gRegH [27, 33] mixed rfl rfl <| hTake 0 rfl (by kernel_rfl) (by kernel_rfl) (by kernel_rfl) (gd0 rfl) rfl rfl (ld 2 rfl rfl Foc.here ty24 rfl) <| hTake 2 rfl (by kernel_rfl) (by kernel_rfl) (by kernel_rfl) (gd0 rfl) rfl rfl (ld 1 rfl rfl Foc.here ty24 rfl) <| hCallF 1 [] [(100, 27)] rfl (by kernel_rfl) rfl (gd0 rfl) rfl Tryd.func61 rfl rfl (braidref05_size_ok _) (aQ rfl <| aN) rN rfl (fun _ _ => flat_val) fun r15 n16 => hCallF 3 [] [(100, 33)] rfl (by kernel_rfl) rfl (gd0 rfl) rfl Tryd.func61 rfl rfl (braidref05_size_ok _) (aQ rfl <| aN) rN rfl (fun _ _ => flat_val) fun r17 n18 => hFrz 27 [30] rfl (fS rfl <| fN) <| hFrz 33 [32] rfl (fS rfl <| fN) <| hCallF 4 [] [] rfl (by kernel_rfl) rfl (gd0 rfl) rfl Tryd.func60 rfl rfl (braidref05_less_ok _ _) (aQ rfl <| aQ rfl <| aN) rN rfl (fun _ _ => flat_num) fun r19 n20 => hTake 5 rfl (by kernel_rfl) (by kernel_rfl) (by kernel_rfl) (gd0 rfl) rfl rfl (asg rfl) <| hDone (by kernel_rfl) <| eThen <| gSeq <| gReg <| R rfl (mv rfl) <| R rfl (I.neq rfl rfl) <| gNil <| eThen <| gIf rfl rfl (fun h21 => ?_) (fun h21 => ?_)
          · skip
            refine gSeq <| gReg <| R rfl (mv rfl) <| R rfl (asg rfl) <| gNil <| eThen <| gRet <| eBret <| eMret <| eRet [] [] rfl (eE rfl <| eN) (rN)
          · skip
            refine gSkip <| eBlk <| eMidR (fun aa ww h => h.sub [1, 2] (sS rfl <| sS rfl <| sN) (rR rfl rfl <| rR rfl rfl <| rN))
        · skip
          refine gKn 28 rfl h14 <| gSeq <| gReg <| R rfl (I.eql rfl rfl) <| R rfl (asg rfl) <| gNil <| eThen <| gIf rfl rfl (fun h22 => ?_) (fun h22 => ?_)
          · skip
            refine gKn 38 rfl h22 <| gSeq <| gRegH [48, 54] mixed rfl rfl <| hTake 0 rfl (by kernel_rfl) (by kernel_rfl) (by kernel_rfl) (gd0 rfl) rfl rfl (ld 1 rfl rfl Foc.here ty24 rfl) <| hTake 2 rfl (by kernel_rfl) (by kernel_rfl) (by kernel_rfl) (gd0 rfl) rfl rfl (ld 2 rfl rfl Foc.here ty24 rfl) <| hCallF 1 [] [(100, 48)] rfl (by kernel_rfl) rfl (gd0 rfl) rfl Tryd.func61 rfl rfl (braidref05_size_ok _) (aQ rfl <| aN) rN rfl (fun _ _ => flat_val) fun r23 n24 => hCallF 3 [] [(100, 54)] rfl (by kernel_rfl) rfl (gd0 rfl) rfl Tryd.func61 rfl rfl (braidref05_size_ok _) (aQ rfl <| aN) rN rfl (fun _ _ => flat_val) fun r25 n26 => hFrz 48 [40] rfl (fS rfl <| fN) <| hFrz 54 [42] rfl (fS rfl <| fN) <| hCallF 4 [] [] rfl (by kernel_rfl) rfl (gd0 rfl) rfl Tryd.func60 rfl rfl (braidref05_less_ok _ _) (aQ rfl <| aQ rfl <| aN) rN rfl (fun _ _ => flat_num) fun r27 n28 => hTake 5 rfl (by kernel_rfl) (by kernel_rfl) (by kernel_rfl) (gd0 rfl) rfl rfl (asg rfl) <| hDone (by kernel_rfl) <| eThen <| gSeq <| gReg <| R rfl (mv rfl) <| R rfl (I.neq rfl rfl) <| gNil <| eThen <| gIf rfl rfl (fun h29 => ?_) (fun h29 => ?_)
            · skip
              refine gSeq <| gReg <| R rfl (mv rfl) <| R rfl (asg rfl) <| gNil <| eThen <| gRet <| eBret <| eMret <| eRet [] [] rfl (eE rfl <| eN) (rN)
            · skip
              refine gSkip <| eBlk <| eMidR (fun aa ww h => h.sub [1, 2] (sS rfl <| sS rfl <| sN) (rR rfl rfl <| rR rfl rfl <| rN))
          · skip
            refine gKn 38 rfl h22 <| gSkip <| eBlk <| eMidR (fun aa ww h => h.sub [1, 2] (sS rfl <| sS rfl <| sN) (rR rfl rfl <| rR rfl rfl <| rN))
    · skip
      refine gSeq <| gRegH [] mixed rfl rfl <| hTake 0 rfl (by kernel_rfl) (by kernel_rfl) (by kernel_rfl) (gd0 rfl) rfl rfl (ld 1 rfl rfl Foc.here ty24 rfl) <| hTake 2 rfl (by kernel_rfl) (by kernel_rfl) (by kernel_rfl) (gd0 rfl) rfl rfl (ld 2 rfl rfl Foc.here ty24 rfl) <| hCallF 1 [] [] rfl (by kernel_rfl) rfl (gd0 rfl) rfl Tryd.func62 rfl rfl (braidref05_rank_ok _) (aQ rfl <| aN) rN rfl (fun _ _ => flat_num) fun r30 n31 => hCallF 3 [] [] rfl (by kernel_rfl) rfl (gd0 rfl) rfl Tryd.func62 rfl rfl (braidref05_rank_ok _) (aQ rfl <| aN) rN rfl (fun _ _ => flat_num) fun r32 n33 => hCallF 4 [] [] rfl (by kernel_rfl) rfl (gd0 rfl) rfl Tryd.func58 rfl rfl (braidref05_order_ok _ _) (aQ rfl <| aQ rfl <| aN) rN rfl (fun _ _ => flat_num) fun r34 n35 => hTake 5 rfl (by kernel_rfl) (by kernel_rfl) (by kernel_rfl) (gd0 rfl) rfl rfl (asg rfl) <| hDone (by kernel_rfl) <| eThen <| gRet <| eRet [] [] rfl (eE rfl <| eN) (rN)


def braidref05_Cmp (a0 : api_Value) (a1 : api_Value) : Option (Int × Int) :=
  braidref05_Check a0 >>= fun r3 =>
  if r3 != 0 then
    some (0, 8)
  else
    braidref05_Check a1 >>= fun r6 =>
    if r6 != 0 then
      some (0, 8)
    else
      braidref05_Compare a0 a1 >>= fun r9 =>
      some (r9, 0)
set_option maxRecDepth 100000 in
theorem braidref05_Cmp_ok (a0 : api_Value) (a1 : api_Value) : Spec Tryd.prog 22 [.rd R_api_Value a0, .rd R_api_Value a1] [] (braidref05_Cmp a0 a1) (fun r nv => ⟨[.rd i64R r.1, .rd i64R r.2], []⟩) := by
  refine spec 17 Tryd.func22 rfl rfl rfl fun H w => ?_
  refine gSeq <| gReg <| Eb rfl (bx 1 rfl) fun v1 => Eb rfl (bx 2 rfl) fun v2 => R rfl (asg rfl) <| R rfl (asg rfl) <| gNil <| eThen <| gSeq <| gSeq <| gReg <| R rfl (ld 1 rfl rfl Foc.here ty24 rfl) <| call [] [] rfl Tryd.func26 rfl rfl (braidref05_Check_ok _) (aQ rfl <| aN) rN fun r3 n4 => R rfl (I.neq rfl rfl) <| R rfl (mv rfl) <| lSplit 9 rfl (fun h5 => ?_) (fun h5 => ?_)
  · skip
    refine lKn 8 rfl h5 <| lSkip (gd rfl rfl rfl rfl) rfl rfl <| lSkip (gd rfl rfl rfl rfl) rfl rfl <| lSkip (gd rfl rfl rfl rfl) rfl rfl <| R rfl (pkT rfl rfl) <| gNil <| eThen <| gTrue rfl <| gSeq <| gReg <| R rfl (asg rfl) <| R rfl (asg rfl) <| gNil <| eThen <| gRet <| eTret <| eRet [] [] rfl (eE rfl <| eE rfl <| eN) (rN)
  · skip
    refine lKn 8 rfl h5 <| lRun (gd rfl rfl rfl rfl) rfl rfl (ld 2 rfl rfl Foc.here ty24 rfl) <| callg [] [] (gd rfl rfl rfl rfl) rfl Tryd.func26 rfl rfl (braidref05_Check_ok _) (aQ rfl <| aN) rN fun r6 n7 => lRun (gd rfl rfl rfl rfl) rfl rfl (I.neq rfl rfl) <| R rfl (pkF rfl rfl) <| gNil <| eThen <| gIf rfl rfl (fun h8 => ?_) (fun h8 => ?_)
    · skip
      refine gKn 12 rfl h8 <| gSeq <| gReg <| R rfl (asg rfl) <| R rfl (asg rfl) <| gNil <| eThen <| gRet <| eTret <| eRet [] [] rfl (eE rfl <| eE rfl <| eN) (rN)
    · skip
      refine gKn 12 rfl h8 <| gSkip <| eThen <| gSeq <| gReg <| R rfl (ld 1 rfl rfl Foc.here ty24 rfl) <| R rfl (ld 2 rfl rfl Foc.here ty24 rfl) <| call [] [] rfl Tryd.func38 rfl rfl (braidref05_Compare_ok _ _) (aQ rfl <| aQ rfl <| aN) rN fun r9 n10 => R rfl (asg rfl) <| R rfl (asg rfl) <| gNil <| eThen <| gRet <| eRet [] [] rfl (eE rfl <| eE rfl <| eN) (rN)

def braidref04_Number_L0 (s4 : UInt64 × (List UInt8)) : Option (Sum ((List UInt8)) (UInt64 × (List UInt8))) :=
  if decide (0 < s4.1) then
    app 1 s4.2 [(s4.1 % 256).toUInt8] >>= fun x8 =>
    some (.inr (s4.1 / 256, x8))
  else
    some (.inl s4.2)
def braidref04_Number_L2 (s3 : (List UInt8)) (s15 : (List UInt8) × Int) : Option (Sum ((List UInt8)) ((List UInt8) × Int)) :=
  if decide (0 ≤ s15.2) then
    idx s3 s15.2 >>= fun x18 =>
    app 1 s15.1 [x18] >>= fun x21 =>
    some (w64 (s15.2 - 1)) >>= fun y24 =>
    some (.inr (x21, y24))
  else
    some (.inl s15.1)
def braidref04_Number (a0 : UInt64) : Option ((List UInt8)) :=
  if decide (a0 ≤ 247) then
    some [a0.toUInt8]
  else
    (iter (braidref04_Number_L0) (a0, [])) >>= fun s3 =>
    (some (w64 ((s3.length : Int) - 1)) >>= fun y14 =>
    iter (braidref04_Number_L2 s3) ([UInt8.ofInt (w64 (247 + (s3.length : Int)))], y14)) >>= fun s13 =>
    some s13
set_option maxRecDepth 100000 in
theorem braidref04_Number_ok (a0 : UInt64) : Spec Tryd.prog 76 [.rd u64R a0] [] (braidref04_Number a0) (fun r nv => ⟨[.val (nv 0)], [(100, some (nv 0, .list u8R 5 r))]⟩) := by
  refine spec 41 Tryd.func76 rfl rfl rfl fun H w => ?_
  refine gSeq <| gReg <| R rfl (asg rfl) <| gNil <| eThen <| gSeq <| gSeq <| gReg <| R rfl (mv rfl) <| R rfl (U.leq rfl rfl) <| gNil <| eThen <| gIf rfl rfl (fun h1 => ?_) (fun h1 => ?_)
  · skip
    refine gSeq <| gReg <| R rfl (mv rfl) <| R rfl (U.toB rfl Tryd.underlying22 Tryd.underlying5) <| Ef rfl (lit (R := u8R) ([a0.toUInt8] : List UInt8) 1 (pP rfl rfl <| pN) rfl Tryd.underlying40 ti5 rfl rfl) fun v2 => R rfl (asg rfl) <| gNil <| eThen <| gRet <| eTret <| eRet [v2] [1] rfl (eE rfl <| eN) (rR rfl rfl <| rN)
  · skip
    refine gSkip <| eThen <| gSeq <| gReg <| R rfl (asg rfl) <| gNil <| eThen <| gMid (fun (s3 : (List UInt8)) aa ww => ∃ nv : Nat → Value, Sta (ctx 41 H [] w) [(3, .val (nv 0))] [(3, some ((nv 0), .list u8R 5 s3))] aa ww) ?_ (fun s3 => ?_)
    · skip
      refine gNew u8R 5 6 <| gLoop (fun (s4 : UInt64 × (List UInt8)) aa ww => ∃ nv : Nat → Value, Sta (ctx 41 H [] w) [(0, .rd u64R s4.1), (3, .val (nv 0))] [(5, some ((nv 0), .list u8R 5 s4.2))] aa ww) (fun aa ww h => ⟨nvl [(.slice none 0 0)], h.sub [6] (sS rfl <| sS rfl <| sN) (rR rfl rfl <| rN)⟩) (fun s4 => ?_)
      refine gEx fun n5 => gSeq <| gSeq <| gReg <| R rfl (mv rfl) <| R rfl (U.gtr rfl rfl) <| gNil <| eThen <| gIf rfl rfl (fun h6 => ?_) (fun h6 => ?_)
      · skip
        refine gSkip <| eThen <| gBlk <| gSeq <| gReg <| R rfl (mv rfl) <| R rfl (mv rfl) <| R rfl (U.rem rfl rfl (by decide)) <| R rfl (U.toB rfl Tryd.underlying22 Tryd.underlying5) <| Ef rfl (lit (R := u8R) ([(s4.1 % 256).toUInt8] : List UInt8) 7 (pP rfl rfl <| pN) rfl Tryd.underlying40 ti5 rfl rfl) fun v7 => lBind fun x8 h9 => Ef rfl (apn 5 rfl rfl rfl (.own 7 rfl) h9 Tryd.underlying40 ti5 rfl rfl rfl) fun v10 => R rfl (asg rfl) <| gNil <| eThen <| gReg <| R rfl (mv rfl) <| R rfl (U.quo rfl rfl (by decide)) <| R rfl (asg rfl) <| gNil <| eBlk <| eNext (fun aa ww h => ⟨nvl [v10], h.sub [5] (sS rfl <| sS rfl <| sN) (rR rfl rfl <| rN)⟩)
      · skip
        refine gExit <| eTexit <| eLeave <| eMid (fun aa ww h => ⟨nvl [(n5 0)], h.sub [5] (sS rfl <| sN) (rR rfl rfl <| rN)⟩)
    · skip
      refine gEx fun n11 => gSeq <| gReg <| R rfl (mv rfl) <| R rfl (len' rfl (.own 3 rfl) rfl Tryd.underlying40) <| R rfl (I.add rfl rfl) <| R rfl (I.toB rfl Tryd.underlying3 Tryd.underlying5) <| Ef rfl (lit (R := u8R) ([UInt8.ofInt (w64 (247 + (s3.length : Int)))] : List UInt8) 8 (pP rfl rfl <| pN) rfl Tryd.underlying40 ti5 rfl rfl) fun v12 => R rfl (asg rfl) <| gNil <| eThen <| gMid (fun (s13 : (List UInt8)) aa ww => ∃ nv : Nat → Value, Sta (ctx 41 H [] w) [(4, .val (nv 0))] [(8, some ((nv 0), .list u8R 5 s13))] aa ww) ?_ (fun s13 => ?_)
      · skip
        refine gSeq <| gReg <| R rfl (mv rfl) <| R rfl (len' rfl (.own 3 rfl) rfl Tryd.underlying40) <| R rfl (I.sub rfl rfl) <| R rfl (asg rfl) <| lName 5 rfl fun y14 => gNil <| eThen <| gLoop (fun (s15 : (List UInt8) × Int) aa ww => ∃ nv : Nat → Value, Sta (ctx 41 H [] w) [(3, .val (n11 0)), (4, .val (nv 0)), (5, .rd i64R s15.2)] [(3, some ((n11 0), .list u8R 5 s3)), (8, some ((nv 0), .list u8R 5 s15.1))] aa ww) (fun aa ww h => ⟨nvl [v12], h.sub [3, 8] (sS rfl <| sS rfl <| sS rfl <| sN) (rR rfl rfl <| rR rfl rfl <| rN)⟩) (fun s15 => ?_)
        refine gEx fun n16 => gSeq <| gSeq <| gReg <| R rfl (mv rfl) <| R rfl (I.geq rfl rfl) <| gNil <| eThen <| gIf rfl rfl (fun h17 => ?_) (fun h17 => ?_)
        · skip
          refine gSkip <| eThen <| gSeq <| gBlk <| gReg <| R rfl (mv rfl) <| R rfl (mv rfl) <| R rfl (mv rfl) <| lBind fun x18 h19 => R rfl (ixO 3 rfl rfl rfl h19 Tryd.underlying40 ti5) <| R rfl (ld 3 rfl rfl (Foc.el h19) ty5 rfl) <| Ef rfl (lit (R := u8R) ([x18] : List UInt8) 9 (pP rfl rfl <| pN) rfl Tryd.underlying40 ti5 rfl rfl) fun v20 => lBind fun x21 h22 => Ef rfl (apn 8 rfl rfl rfl (.own 9 rfl) h22 Tryd.underlying40 ti5 rfl rfl rfl) fun v23 => R rfl (asg rfl) <| gNil <| eBlk <| eThen <| gReg <| R rfl (mv rfl) <| R rfl (I.sub rfl rfl) <| R rfl (asg rfl) <| lName 5 rfl fun y24 => gNil <| eNext (fun aa ww h => ⟨nvl [v23], h.sub [3, 8] (sS rfl <| sS rfl <| sS rfl <| sN) (rR rfl rfl <| rR rfl rfl <| rN)⟩)
        · skip
          refine gExit <| eTexit <| eLeave <| eMid (fun aa ww h => ⟨nvl [(n16 0)], h.sub [8] (sS rfl <| sN) (rR rfl rfl <| rN)⟩)
      · skip
        refine gEx fun n25 => gSeq <| gReg <| R rfl (mv rfl) <| R rfl (asg rfl) <| gNil <| eThen <| gRet <| eRet [(n25 0)] [8] rfl (eE rfl <| eN) (rR rfl rfl <| rN)


def braidref04_Signed (a0 : Int) : Option ((List UInt8)) :=
  if decide (0 ≤ a0) then
    braidref04_Number (2 * (UInt64.ofInt a0)) >>= fun r2 =>
    some r2
  else
    braidref04_Number ((2 * (UInt64.ofInt (w64 (0 - (w64 (a0 + 1)))))) + 1) >>= fun r4 =>
    some r4
set_option maxRecDepth 100000 in
theorem braidref04_Signed_ok (a0 : Int) : Spec Tryd.prog 63 [.rd i64R a0] [] (braidref04_Signed a0) (fun r nv => ⟨[.val (nv 0)], [(100, some (nv 0, .list u8R 5 r))]⟩) := by
  refine spec 16 Tryd.func63 rfl rfl rfl fun H w => ?_
  refine gSeq <| gReg <| R rfl (asg rfl) <| gNil <| eThen <| gSeq <| gSeq <| gReg <| R rfl (mv rfl) <| R rfl (I.geq rfl rfl) <| gNil <| eThen <| gIf rfl rfl (fun h1 => ?_) (fun h1 => ?_)
  · skip
    refine gSeq <| gReg <| R rfl (mv rfl) <| R rfl (I.toU rfl Tryd.underlying2 Tryd.underlying22) <| R rfl (U.mul rfl rfl) <| call [] [(100, 1)] rfl Tryd.func76 rfl rfl (braidref04_Number_ok _) (aQ rfl <| aN) rN fun r2 n3 => R rfl (asg rfl) <| gNil <| eThen <| gRet <| eTret <| eRet [(n3 0)] [1] rfl (eE rfl <| eN) (rR rfl rfl <| rN)
  · skip
    refine gSkip <| eThen <| gSeq <| gReg <| R rfl (mv rfl) <| R rfl (I.add rfl rfl) <| R rfl (I.neg rfl) <| R rfl (I.toU rfl Tryd.underlying2 Tryd.underlying22) <| R rfl (U.mul rfl rfl) <| R rfl (U.add rfl rfl) <| call [] [(100, 2)] rfl Tryd.func76 rfl rfl (braidref04_Number_ok _) (aQ rfl <| aN) rN fun r4 n5 => R rfl (asg rfl) <| gNil <| eThen <| gRet <| eRet [(n5 0)] [2] rfl (eE rfl <| eN) (rR rfl rfl <| rN)


def braidref04_Text (a0 : List UInt8) : Option ((List UInt8)) :=
  braidref04_Number (UInt64.ofInt (a0.length : Int)) >>= fun r1 =>
  app 1 r1 a0 >>= fun x3 =>
  some x3
set_option maxRecDepth 100000 in
theorem braidref04_Text_ok (a0 : List UInt8) : Spec Tryd.prog 64 [.rd (sliceR u8R) a0] [] (braidref04_Text a0) (fun r nv => ⟨[.val (nv 0)], [(100, some (nv 0, .list u8R 5 r))]⟩) := by
  refine spec 9 Tryd.func64 rfl rfl rfl fun H w => ?_
  refine gSeq <| gReg <| R rfl (asg rfl) <| gNil <| eThen <| gSeq <| gReg <| R rfl (mv rfl) <| R rfl (len' rfl .rd rfl Tryd.underlying40) <| R rfl (I.toU rfl Tryd.underlying3 Tryd.underlying22) <| call [] [(100, 1)] rfl Tryd.func76 rfl rfl (braidref04_Number_ok _) (aQ rfl <| aN) rN fun r1 n2 => R rfl (mv rfl) <| lBind fun x3 h4 => Ef rfl (apn 1 rfl rfl rfl .rd h4 Tryd.underlying40 ti5 rfl rfl rfl) fun v5 => R rfl (asg rfl) <| gNil <| eThen <| gRet <| eRet [v5] [1] rfl (eE rfl <| eN) (rR rfl rfl <| rN)

def braidref05_Bytes_L1 (a0 : api_Value) (s11 : (List UInt8) × Int) : Option (Sum ((List UInt8)) ((List UInt8) × Int)) :=
  if decide (0 ≤ s11.2) then
    chk (0 ≤ w64 (8 * s11.2)) >>= fun u14 =>
    app 1 s11.1 [(shr64 a0.Bits ((w64 (8 * s11.2) : Int).toNat)).toUInt8] >>= fun x17 =>
    some (w64 (s11.2 - 1)) >>= fun y20 =>
    some (.inr (x17, y20))
  else
    some (.inl s11.1)
def braidref05_Bytes (a0 : api_Value) : Option ((List UInt8)) :=
  if a0.Kind == 1 then
    braidref04_Signed a0.Num >>= fun r4 =>
    app 1 [a0.Kind] r4 >>= fun x6 =>
    some x6
  else
    if a0.Kind == 2 then
      (iter (braidref05_Bytes_L1 a0) ([a0.Kind], 7)) >>= fun s10 =>
      some s10
    else
      chk (a0.Text.length ≤ 281474976710656) >>= fun u22 =>
      braidref04_Text a0.Text >>= fun r24 =>
      app 1 [a0.Kind] r24 >>= fun x26 =>
      some x26
set_option maxRecDepth 100000 in
theorem braidref05_Bytes_ok (a0 : api_Value) : Spec Tryd.prog 39 [.rd R_api_Value a0] [] (braidref05_Bytes a0) (fun r nv => ⟨[.val (nv 0)], [(100, some (nv 0, .list u8R 5 r))]⟩) := by
  refine spec 39 Tryd.func39 rfl rfl rfl fun H w => ?_
  refine gSeq <| gReg <| Eb rfl (bx 1 rfl) fun v1 => R rfl (asg rfl) <| gNil <| eThen <| gSeq <| gReg <| R rfl (faB 1 rfl rfl Tryd.underlying24 rfl (by exact ti5)) <| R rfl (ld 1 rfl rfl ((Foc.here).part (pt_api_Value_Kind _)) ty5 rfl) <| Ef rfl (lit (R := u8R) ([a0.Kind] : List UInt8) 2 (pP rfl rfl <| pN) rfl Tryd.underlying40 ti5 rfl rfl) fun v2 => R rfl (asg rfl) <| gNil <| eThen <| gSeq <| gSeq <| gReg <| R rfl (faB 1 rfl rfl Tryd.underlying24 rfl (by exact ti5)) <| R rfl (ld 1 rfl rfl ((Foc.here).part (pt_api_Value_Kind _)) ty5 rfl) <| gNil <| eThen <| gBlk <| gSeq <| gReg <| R rfl (B.eql rfl rfl) <| R rfl (asg rfl) <| gNil <| eThen <| gIf rfl rfl (fun h3 => ?_) (fun h3 => ?_)
  · skip
    refine gKn 11 rfl h3 <| gSeq <| gReg <| R rfl (mv rfl) <| R rfl (faB 1 rfl rfl Tryd.underlying24 rfl (by exact ti2)) <| R rfl (ld 1 rfl rfl ((Foc.here).part (pt_api_Value_Num _)) ty2 rfl) <| call [] [(100, 3)] rfl Tryd.func63 rfl rfl (braidref04_Signed_ok _) (aQ rfl <| aN) rN fun r4 n5 => lBind fun x6 h7 => Ef rfl (apn 2 rfl rfl rfl (.own 3 rfl) h7 Tryd.underlying40 ti5 rfl rfl rfl) fun v8 => R rfl (asg rfl) <| gNil <| eThen <| gRet <| eBret <| eTret <| eRet [v8] [2] rfl (eE rfl <| eN) (rR rfl rfl <| rN)
  · skip
    refine gKn 11 rfl h3 <| gSeq <| gReg <| R rfl (B.eql rfl rfl) <| R rfl (asg rfl) <| gNil <| eThen <| gIf rfl rfl (fun h9 => ?_) (fun h9 => ?_)
    · skip
      refine gKn 18 rfl h9 <| gMid (fun (s10 : (List UInt8)) aa ww => ∃ nv : Nat → Value, Sta (ctx 39 H [] w) [(3, .val (nv 0))] [(2, some ((nv 0), .list u8R 5 s10))] aa ww) ?_ (fun s10 => ?_)
      · skip
        refine gSeq <| gReg <| R rfl (asg rfl) <| gNil <| eThen <| gLoop (fun (s11 : (List UInt8) × Int) aa ww => ∃ nv : Nat → Value, Sta (ctx 39 H [] w) [(1, .val (ptrTo v1 0)), (3, .val (nv 0)), (4, .rd i64R s11.2)] [(1, some (v1, .box 24 [.rd R_api_Value a0])), (2, some ((nv 0), .list u8R 5 s11.1))] aa ww) (fun aa ww h => ⟨nvl [v2], h.sub [1, 2] (sS rfl <| sS rfl <| sS rfl <| sN) (rR rfl rfl <| rR rfl rfl <| rN)⟩) (fun s11 => ?_)
        refine gEx fun n12 => gSeq <| gSeq <| gReg <| R rfl (mv rfl) <| R rfl (I.geq rfl rfl) <| gNil <| eThen <| gIf rfl rfl (fun h13 => ?_) (fun h13 => ?_)
        · skip
          refine gSkip <| eThen <| gSeq <| gBlk <| gReg <| R rfl (mv rfl) <| R rfl (faB 1 rfl rfl Tryd.underlying24 rfl (by exact ti22)) <| R rfl (ld 1 rfl rfl ((Foc.here).part (pt_api_Value_Bits _)) ty22 rfl) <| R rfl (mv rfl) <| R rfl (I.mul rfl rfl) <| lBind fun u14 h15 => R rfl (U.shr rfl rfl (chk_some h15)) <| R rfl (U.toB rfl Tryd.underlying22 Tryd.underlying5) <| Ef rfl (lit (R := u8R) ([(shr64 a0.Bits ((w64 (8 * s11.2) : Int).toNat)).toUInt8] : List UInt8) 4 (pP rfl rfl <| pN) rfl Tryd.underlying40 ti5 rfl rfl) fun v16 => lBind fun x17 h18 => Ef rfl (apn 2 rfl rfl rfl (.own 4 rfl) h18 Tryd.underlying40 ti5 rfl rfl rfl) fun v19 => R rfl (asg rfl) <| gNil <| eBlk <| eThen <| gReg <| R rfl (mv rfl) <| R rfl (I.sub rfl rfl) <| R rfl (asg rfl) <| lName 4 rfl fun y20 => gNil <| eNext (fun aa ww h => ⟨nvl [v19], h.sub [1, 2] (sS rfl <| sS rfl <| sS rfl <| sN) (rR rfl rfl <| rR rfl rfl <| rN)⟩)
        · skip
          refine gExit <| eTexit <| eLeave <| eMid (fun aa ww h => ⟨nvl [(n12 0)], h.sub [2] (sS rfl <| sN) (rR rfl rfl <| rN)⟩)
      · skip
        refine gEx fun n21 => gSeq <| gReg <| R rfl (mv rfl) <| R rfl (asg rfl) <| gNil <| eThen <| gRet <| eBret <| eTret <| eRet [(n21 0)] [2] rfl (eE rfl <| eN) (rR rfl rfl <| rN)
    · skip
      refine gKn 18 rfl h9 <| gSkip <| eBlk <| eThen <| gSeq <| gReg <| R rfl (mv rfl) <| R rfl (faB 1 rfl rfl Tryd.underlying24 rfl (by exact ti9)) <| R rfl (ld 1 rfl rfl ((Foc.here).part (pt_api_Value_Text _)) ty9 rfl) <| lBind fun u22 h23 => lCvSB rfl rfl h23 Tryd.underlying9 Tryd.underlying40 Tryd.underlying5 <| call [] [(100, 5)] rfl Tryd.func64 rfl rfl (braidref04_Text_ok _) (aQ rfl <| aN) rN fun r24 n25 => lBind fun x26 h27 => Ef rfl (apn 2 rfl rfl rfl (.own 5 rfl) h27 Tryd.underlying40 ti5 rfl rfl rfl) fun v28 => R rfl (asg rfl) <| gNil <| eThen <| gRet <| eRet [v28] [2] rfl (eE rfl <| eN) (rR rfl rfl <| rN)


def braidref05_Encode (a0 : api_Value) : Option ((List UInt8) × Int) :=
  braidref05_Check a0 >>= fun r2 =>
  if r2 != 0 then
    some ([], 8)
  else
    braidref05_Bytes a0 >>= fun r5 =>
    some (r5, 0)
set_option maxRecDepth 100000 in
theorem braidref05_Encode_ok (a0 : api_Value) : Spec Tryd.prog 23 [.rd R_api_Value a0] [] (braidref05_Encode a0) (fun r nv => ⟨[.val (nv 0), .rd i64R r.2], [(100, some (nv 0, .list u8R 5 r.1))]⟩) := by
  refine spec 9 Tryd.func23 rfl rfl rfl fun H w => ?_
  refine gSeq <| gReg <| Eb rfl (bx 1 rfl) fun v1 => R rfl (asg rfl) <| R rfl (asg rfl) <| gNil <| eThen <| gSeq <| gSeq <| gReg <| R rfl (ld 1 rfl rfl Foc.here ty24 rfl) <| call [] [] rfl Tryd.func26 rfl rfl (braidref05_Check_ok _) (aQ rfl <| aN) rN fun r2 n3 => R rfl (I.neq rfl rfl) <| gNil <| eThen <| gIf rfl rfl (fun h4 => ?_) (fun h4 => ?_)
  · skip
    refine gSeq <| gReg <| R rfl (asg rfl) <| R rfl (asg rfl) <| gNil <| eThen <| gRet <| eTret <| eNew u8R 5 2 <| eRet [(.slice none 0 0)] [2] rfl (eE rfl <| eE rfl <| eN) (rR rfl rfl <| rN)
  · skip
    refine gSkip <| eThen <| gSeq <| gReg <| R rfl (ld 1 rfl rfl Foc.here ty24 rfl) <| call [] [(100, 3)] rfl Tryd.func39 rfl rfl (braidref05_Bytes_ok _) (aQ rfl <| aN) rN fun r5 n6 => R rfl (asg rfl) <| R rfl (asg rfl) <| gNil <| eThen <| gRet <| eRet [(n6 0)] [3] rfl (eE rfl <| eE rfl <| eN) (rR rfl rfl <| rN)


def braidref04_starts (a0 : List UInt8) (a1 : List UInt8) : Option (Bool) :=
  if decide ((a1.length : Int) ≤ (a0.length : Int)) then
    cut a0 0 (a1.length : Int) >>= fun x2 =>
    braidref01_SameBytes x2 a1 >>= fun r4 =>
    some r4
  else
    some false
set_option maxRecDepth 100000 in
theorem braidref04_starts_ok (a0 : List UInt8) (a1 : List UInt8) : Spec Tryd.prog 77 [.rd (sliceR u8R) a0, .rd (sliceR u8R) a1] [] (braidref04_starts a0 a1) (fun r nv => ⟨[.rd boolR r], []⟩) := by
  refine spec 18 Tryd.func77 rfl rfl rfl fun H w => ?_
  refine gSeq <| gReg <| R rfl (asg rfl) <| gNil <| eThen <| gSeq <| gReg <| R rfl (mv rfl) <| R rfl (len' rfl .rd rfl Tryd.underlying40) <| R rfl (mv rfl) <| R rfl (len' rfl .rd rfl Tryd.underlying40) <| R rfl (I.geq rfl rfl) <| R rfl (mv rfl) <| lSplit 10 rfl (fun h1 => ?_) (fun h1 => ?_)
  · skip
    refine lKn 9 rfl h1 <| lRun (gd rfl rfl rfl rfl) rfl rfl (mv rfl) <| lRun (gd rfl rfl rfl rfl) rfl rfl (mv rfl) <| lRun (gd rfl rfl rfl rfl) rfl rfl (len' rfl .rd rfl Tryd.underlying40) <| lBind fun x2 h3 => lRun (gd rfl rfl rfl rfl) rfl rfl (cut' rfl .no (.to rfl) h3 Tryd.underlying40 ti5) <| lRun (gd rfl rfl rfl rfl) rfl rfl (mv rfl) <| callg [] [] (gd rfl rfl rfl rfl) rfl Tryd.func25 rfl rfl (braidref01_SameBytes_ok _ _) (aQ rfl <| aQ rfl <| aN) rN fun r4 n5 => R rfl (pkT rfl rfl) <| R rfl (asg rfl) <| gNil <| eThen <| gRet <| eRet [] [] rfl (eE rfl <| eN) (rN)
  · skip
    refine lKn 9 rfl h1 <| lSkip (gd rfl rfl rfl rfl) rfl rfl <| lSkip (gd rfl rfl rfl rfl) rfl rfl <| lSkip (gd rfl rfl rfl rfl) rfl rfl <| lSkip (gd rfl rfl rfl rfl) rfl rfl <| lSkip (gd rfl rfl rfl rfl) rfl rfl <| lSkip (gd rfl rfl rfl rfl) rfl rfl <| R rfl (pkF rfl rfl) <| R rfl (asg rfl) <| gNil <| eThen <| gRet <| eRet [] [] rfl (eE rfl <| eN) (rN)

def braidref04_ReadNumber_L0 (a0 : List UInt8) (y6 : Int) (s7 : UInt64 × Int) : Option (Sum UInt64 (UInt64 × Int)) :=
  if decide (s7.2 ≤ y6) then
    if decide (s7.2 < (a0.length : Int)) then
      idx a0 s7.2 >>= fun x10 =>
      some ((256 * s7.1) + x10.toUInt64) >>= fun y12 =>
      some (w64 (s7.2 + 1)) >>= fun y13 =>
      some (.inr (y12, y13))
    else
      some (.inl s7.1)
  else
    some (.inl s7.1)
def braidref04_ReadNumber (a0 : List UInt8) : Option (UInt64 × Int × Int) :=
  if (a0.length : Int) == 0 then
    some (0, 0, 12)
  else
    idx a0 0 >>= fun x2 =>
    (if decide (247 < x2.toUInt64) then
      some (w64 ((w64 (x2.toUInt64.toNat : Int)) - 247)) >>= fun y6 =>
      iter (braidref04_ReadNumber_L0 a0 y6) (0, 1)
    else
      some x2.toUInt64) >>= fun s4 =>
    braidref04_Number s4 >>= fun r14 =>
    braidref04_starts a0 r14 >>= fun r16 =>
    if !r16 then
      some (0, 0, 12)
    else
      some (r14.length : Int) >>= fun y19 =>
      some (s4, y19, 0)
set_option maxRecDepth 100000 in
theorem braidref04_ReadNumber_ok (a0 : List UInt8) : Spec Tryd.prog 65 [.rd (sliceR u8R) a0] [] (braidref04_ReadNumber a0) (fun r nv => ⟨[.rd u64R r.1, .rd i64R r.2.1, .rd i64R r.2.2], []⟩) := by
  refine spec 49 Tryd.func65 rfl rfl rfl fun H w => ?_
  refine gSeq <| gReg <| R rfl (asg rfl) <| R rfl (asg rfl) <| R rfl (asg rfl) <| gNil <| eThen <| gSeq <| gSeq <| gReg <| R rfl (mv rfl) <| R rfl (len' rfl .rd rfl Tryd.underlying40) <| R rfl (I.eql rfl rfl) <| gNil <| eThen <| gIf rfl rfl (fun h1 => ?_) (fun h1 => ?_)
  · skip
    refine gSeq <| gReg <| R rfl (asg rfl) <| R rfl (asg rfl) <| R rfl (asg rfl) <| gNil <| eThen <| gRet <| eTret <| eRet [] [] rfl (eE rfl <| eE rfl <| eE rfl <| eN) (rN)
  · skip
    refine gSkip <| eThen <| gSeq <| gReg <| R rfl (mv rfl) <| lBind fun x2 h3 => R rfl (ixR rfl rfl h3 Tryd.underlying40 ti5 rfl) <| R rfl (ldR rfl ty5) <| R rfl (B.toU rfl Tryd.underlying5 Tryd.underlying22) <| R rfl (asg rfl) <| gNil <| eThen <| gMid (fun (s4 : UInt64) aa ww => Sta (ctx 49 H [] w) [(0, .rd (sliceR u8R) a0), (5, .rd u64R s4)] [] aa ww) ?_ (fun s4 => ?_)
    · skip
      refine gSeq <| gReg <| R rfl (mv rfl) <| R rfl (U.gtr rfl rfl) <| gNil <| eThen <| gIf rfl rfl (fun h5 => ?_) (fun h5 => ?_)
      · skip
        refine gSeq <| gReg <| R rfl (mv rfl) <| R rfl (U.toI rfl Tryd.underlying22 Tryd.underlying3) <| R rfl (I.sub rfl rfl) <| R rfl (asg rfl) <| lName 6 rfl fun y6 => gNil <| eThen <| gSeq <| gReg <| R rfl (asg rfl) <| gNil <| eThen <| gSeq <| gReg <| R rfl (asg rfl) <| gNil <| eThen <| gLoop (fun (s7 : UInt64 × Int) aa ww => Sta (ctx 49 H [] w) [(0, .rd (sliceR u8R) a0), (5, .rd u64R s7.1), (6, .rd i64R y6), (7, .rd i64R s7.2)] [] aa ww) (fun aa ww h => h.sub [] (sS rfl <| sS rfl <| sS rfl <| sS rfl <| sN) (rN)) (fun s7 => ?_)
        refine gSeq <| gSeq <| gReg <| R rfl (mv rfl) <| R rfl (mv rfl) <| R rfl (I.leq rfl rfl) <| R rfl (mv rfl) <| lSplit 24 rfl (fun h8 => ?_) (fun h8 => ?_)
        · skip
          refine lKn 23 rfl h8 <| lRun (gd rfl rfl rfl rfl) rfl rfl (mv rfl) <| lRun (gd rfl rfl rfl rfl) rfl rfl (mv rfl) <| lRun (gd rfl rfl rfl rfl) rfl rfl (len' rfl .rd rfl Tryd.underlying40) <| lRun (gd rfl rfl rfl rfl) rfl rfl (I.lss rfl rfl) <| R rfl (pkT rfl rfl) <| gNil <| eThen <| gIf rfl rfl (fun h9 => ?_) (fun h9 => ?_)
          · skip
            refine gKn 28 rfl h9 <| gSkip <| eThen <| gSeq <| gBlk <| gReg <| R rfl (mv rfl) <| R rfl (U.mul rfl rfl) <| R rfl (mv rfl) <| R rfl (mv rfl) <| lBind fun x10 h11 => R rfl (ixR rfl rfl h11 Tryd.underlying40 ti5 rfl) <| R rfl (ldR rfl ty5) <| R rfl (B.toU rfl Tryd.underlying5 Tryd.underlying22) <| R rfl (U.add rfl rfl) <| R rfl (asg rfl) <| lName 5 rfl fun y12 => gNil <| eBlk <| eThen <| gReg <| R rfl (mv rfl) <| R rfl (I.add rfl rfl) <| R rfl (asg rfl) <| lName 7 rfl fun y13 => gNil <| eNext (fun aa ww h => h.sub [] (sS rfl <| sS rfl <| sS rfl <| sS rfl <| sN) (rN))
          · skip
            refine gKn 28 rfl h9 <| gExit <| eTexit <| eLeave <| eMid (fun aa ww h => h.sub [] (sS rfl <| sS rfl <| sN) (rN))
        · skip
          refine lKn 23 rfl h8 <| lSkip (gd rfl rfl rfl rfl) rfl rfl <| lSkip (gd rfl rfl rfl rfl) rfl rfl <| lSkip (gd rfl rfl rfl rfl) rfl rfl <| lSkip (gd rfl rfl rfl rfl) rfl rfl <| R rfl (pkF rfl rfl) <| gNil <| eThen <| gFalse rfl <| gExit <| eTexit <| eLeave <| eMid (fun aa ww h => h.sub [] (sS rfl <| sS rfl <| sN) (rN))
      · skip
        refine gSkip <| eMid (fun aa ww h => h.sub [] (sS rfl <| sS rfl <| sN) (rN))
    · skip
      refine gSeq <| gReg <| R rfl (mv rfl) <| call [] [(100, 1)] rfl Tryd.func76 rfl rfl (braidref04_Number_ok _) (aQ rfl <| aN) rN fun r14 n15 => R rfl (asg rfl) <| gNil <| eThen <| gSeq <| gSeq <| gReg <| R rfl (mv rfl) <| R rfl (mv rfl) <| lFrz 1 [41, 8, 43] rfl (fS rfl <| fS rfl <| fS rfl <| fN) <| call [] [] rfl Tryd.func77 rfl rfl (braidref04_starts_ok _ _) (aQ rfl <| aQ rfl <| aN) rN fun r16 n17 => R rfl (not' rfl) <| gNil <| eThen <| gIf rfl rfl (fun h18 => ?_) (fun h18 => ?_)
      · skip
        refine gSeq <| gReg <| R rfl (asg rfl) <| R rfl (asg rfl) <| R rfl (asg rfl) <| gNil <| eThen <| gRet <| eTret <| eRet [] [] rfl (eE rfl <| eE rfl <| eE rfl <| eN) (rN)
      · skip
        refine gSkip <| eThen <| gSeq <| gReg <| R rfl (mv rfl) <| R rfl (mv rfl) <| R rfl (len' rfl .rd rfl Tryd.underlying40) <| R rfl (asg rfl) <| R rfl (asg rfl) <| lName 3 rfl fun y19 => R rfl (asg rfl) <| gNil <| eThen <| gRet <| eRet [] [] rfl (eE rfl <| eE rfl <| eE rfl <| eN) (rN)


def braidref04_ReadSigned (a0 : List UInt8) : Option (Int × Int × Int) :=
  braidref04_ReadNumber a0 >>= fun r1 =>
  if r1.2.2 != 0 then
    some (0, 0, r1.2.2)
  else
    if (r1.1 % 2) == 0 then
      some (w64 ((r1.1 / 2).toNat : Int)) >>= fun y5 =>
      some (y5, r1.2.1, 0)
    else
      some (w64 ((w64 (0 - (w64 ((r1.1 / 2).toNat : Int)))) - 1)) >>= fun y6 =>
      some (y6, r1.2.1, 0)
set_option maxRecDepth 100000 in
theorem braidref04_ReadSigned_ok (a0 : List UInt8) : Spec Tryd.prog 40 [.rd (sliceR u8R) a0] [] (braidref04_ReadSigned a0) (fun r nv => ⟨[.rd i64R r.1, .rd i64R r.2.1, .rd i64R r.2.2], []⟩) := by
  refine spec 30 Tryd.func40 rfl rfl rfl fun H w => ?_
  refine gSeq <| gReg <| R rfl (asg rfl) <| R rfl (asg rfl) <| R rfl (asg rfl) <| gNil <| eThen <| gSeq <| gReg <| R rfl (mv rfl) <| call [] [] rfl Tryd.func65 rfl rfl (braidref04_ReadNumber_ok _) (aQ rfl <| aN) rN fun r1 n2 => R rfl (mv rfl) <| R rfl (ext rfl rfl) <| R rfl (ext rfl rfl) <| R rfl (ext rfl rfl) <| R rfl (asg rfl) <| R rfl (asg rfl) <| R rfl (asg rfl) <| gNil <| eThen <| gSeq <| gSeq <| gReg <| R rfl (mv rfl) <| R rfl (I.neq rfl rfl) <| gNil <| eThen <| gIf rfl rfl (fun h3 => ?_) (fun h3 => ?_)
  · skip
    refine gSeq <| gReg <| R rfl (mv rfl) <| R rfl (asg rfl) <| R rfl (asg rfl) <| R rfl (asg rfl) <| gNil <| eThen <| gRet <| eTret <| eRet [] [] rfl (eE rfl <| eE rfl <| eE rfl <| eN) (rN)
  · skip
    refine gSkip <| eThen <| gSeq <| gSeq <| gReg <| R rfl (mv rfl) <| R rfl (U.rem rfl rfl (by decide)) <| R rfl (U.eql rfl rfl) <| gNil <| eThen <| gIf rfl rfl (fun h4 => ?_) (fun h4 => ?_)
    · skip
      refine gSeq <| gReg <| R rfl (mv rfl) <| R rfl (U.quo rfl rfl (by decide)) <| R rfl (U.toI rfl Tryd.underlying22 Tryd.underlying2) <| R rfl (mv rfl) <| R rfl (asg rfl) <| lName 2 rfl fun y5 => R rfl (asg rfl) <| R rfl (asg rfl) <| gNil <| eThen <| gRet <| eTret <| eRet [] [] rfl (eE rfl <| eE rfl <| eE rfl <| eN) (rN)
    · skip
      refine gSkip <| eThen <| gSeq <| gReg <| R rfl (mv rfl) <| R rfl (U.quo rfl rfl (by decide)) <| R rfl (U.toI rfl Tryd.underlying22 Tryd.underlying2) <| R rfl (I.neg rfl) <| R rfl (I.sub rfl rfl) <| R rfl (mv rfl) <| R rfl (asg rfl) <| lName 2 rfl fun y6 => R rfl (asg rfl) <| R rfl (asg rfl) <| gNil <| eThen <| gRet <| eRet [] [] rfl (eE rfl <| eE rfl <| eE rfl <| eN) (rN)


def braidref04_ReadBytes (a0 : List UInt8) (a1 : Int) : Option ((List UInt8) × Int × Int) :=
  if decide (a1 < 0) then
    some ([], 0, 2)
  else
    braidref04_ReadNumber a0 >>= fun r2 =>
    (if r2.2.2 != 0 then
      some true
    else
      if decide ((UInt64.ofInt a1) < r2.1) then
        some true
      else
        some (decide ((UInt64.ofInt (w64 ((a0.length : Int) - r2.2.1))) < r2.1))) >>= fun s4 =>
    if s4 then
      some ([], 0, 12)
    else
      some (w64 (r2.2.1 + (w64 (r2.1.toNat : Int)))) >>= fun y8 =>
      cut a0 r2.2.1 y8 >>= fun x10 =>
      app 1 ([] : List UInt8) x10 >>= fun x12 =>
      some (x12, y8, 0)
set_option maxRecDepth 100000 in
theorem braidref04_ReadBytes_ok (a0 : List UInt8) (a1 : Int) : Spec Tryd.prog 41 [.rd (sliceR u8R) a0, .rd i64R a1] [] (braidref04_ReadBytes a0 a1) (fun r nv => ⟨[.val (nv 0), .rd i64R r.2.1, .rd i64R r.2.2], [(100, some (nv 0, .list u8R 5 r.1))]⟩) := by
  refine spec 47 Tryd.func41 rfl rfl rfl fun H w => ?_
  refine gSeq <| gReg <| R rfl (asg rfl) <| R rfl (asg rfl) <| R rfl (asg rfl) <| gNil <| eThen <| gSeq <| gSeq <| gReg <| R rfl (mv rfl) <| R rfl (I.lss rfl rfl) <| gNil <| eThen <| gIf rfl rfl (fun h1 => ?_) (fun h1 => ?_)
  · skip
    refine gSeq <| gReg <| R rfl (asg rfl) <| R rfl (asg rfl) <| R rfl (asg rfl) <| gNil <| eThen <| gRet <| eTret <| eNew u8R 5 1 <| eRet [(.slice none 0 0)] [1] rfl (eE rfl <| eE rfl <| eE rfl <| eN) (rR rfl rfl <| rN)
  · skip
    refine gSkip <| eThen <| gSeq <| gReg <| R rfl (mv rfl) <| call [] [] rfl Tryd.func65 rfl rfl (braidref04_ReadNumber_ok _) (aQ rfl <| aN) rN fun r2 n3 => R rfl (mv rfl) <| R rfl (ext rfl rfl) <| R rfl (ext rfl rfl) <| R rfl (ext rfl rfl) <| R rfl (asg rfl) <| R rfl (asg rfl) <| R rfl (asg rfl) <| gNil <| eThen <| gSeq <| gMid (fun (s4 : Bool) aa ww => Sta (ctx 47 H [] w) [(0, .rd (sliceR u8R) a0), (7, .rd u64R r2.1), (8, .rd i64R r2.2.1), (35, .rd boolR s4)] [] aa ww) ?_ (fun s4 => ?_)
    · skip
      refine gReg <| R rfl (mv rfl) <| R rfl (I.neq rfl rfl) <| R rfl (mv rfl) <| lSplit 21 rfl (fun h5 => ?_) (fun h5 => ?_)
      · skip
        refine lKn 20 rfl h5 <| lSkip (gd rfl rfl rfl rfl) rfl rfl <| lSkip (gd rfl rfl rfl rfl) rfl rfl <| lSkip (gd rfl rfl rfl rfl) rfl rfl <| lSkip (gd rfl rfl rfl rfl) rfl rfl <| R rfl (pkT rfl rfl) <| R rfl (mv rfl) <| lSkip (gd rfl rfl rfl rfl) rfl rfl <| lSkip (gd rfl rfl rfl rfl) rfl rfl <| lSkip (gd rfl rfl rfl rfl) rfl rfl <| lSkip (gd rfl rfl rfl rfl) rfl rfl <| lSkip (gd rfl rfl rfl rfl) rfl rfl <| lSkip (gd rfl rfl rfl rfl) rfl rfl <| lSkip (gd rfl rfl rfl rfl) rfl rfl <| R rfl (pkT rfl rfl) <| gNil <| eMid (fun aa ww h => h.sub [] (sS rfl <| sS rfl <| sS rfl <| sS rfl <| sN) (rN))
      · skip
        refine lKn 20 rfl h5 <| lRun (gd rfl rfl rfl rfl) rfl rfl (mv rfl) <| lRun (gd rfl rfl rfl rfl) rfl rfl (mv rfl) <| lRun (gd rfl rfl rfl rfl) rfl rfl (I.toU rfl Tryd.underlying3 Tryd.underlying22) <| lRun (gd rfl rfl rfl rfl) rfl rfl (U.gtr rfl rfl) <| R rfl (pkF rfl rfl) <| R rfl (mv rfl) <| lSplit 27 rfl (fun h6 => ?_) (fun h6 => ?_)
        · skip
          refine lKn 25 rfl h6 <| lKn 26 rfl h6 <| lSkip (gd rfl rfl rfl rfl) rfl rfl <| lSkip (gd rfl rfl rfl rfl) rfl rfl <| lSkip (gd rfl rfl rfl rfl) rfl rfl <| lSkip (gd rfl rfl rfl rfl) rfl rfl <| lSkip (gd rfl rfl rfl rfl) rfl rfl <| lSkip (gd rfl rfl rfl rfl) rfl rfl <| lSkip (gd rfl rfl rfl rfl) rfl rfl <| R rfl (pkT rfl rfl) <| gNil <| eMid (fun aa ww h => h.sub [] (sS rfl <| sS rfl <| sS rfl <| sS rfl <| sN) (rN))
        · skip
          refine lKn 25 rfl h6 <| lKn 26 rfl h6 <| lRun (gd rfl rfl rfl rfl) rfl rfl (mv rfl) <| lRun (gd rfl rfl rfl rfl) rfl rfl (mv rfl) <| lRun (gd rfl rfl rfl rfl) rfl rfl (len' rfl .rd rfl Tryd.underlying40) <| lRun (gd rfl rfl rfl rfl) rfl rfl (mv rfl) <| lRun (gd rfl rfl rfl rfl) rfl rfl (I.sub rfl rfl) <| lRun (gd rfl rfl rfl rfl) rfl rfl (I.toU rfl Tryd.underlying3 Tryd.underlying22) <| lRun (gd rfl rfl rfl rfl) rfl rfl (U.gtr rfl rfl) <| R rfl (pkF rfl rfl) <| gNil <| eMid (fun aa ww h => h.sub [] (sS rfl <| sS rfl <| sS rfl <| sS rfl <| sN) (rN))
    · skip
      refine gIf rfl rfl (fun h7 => ?_) (fun h7 => ?_)
      · skip
        refine gSeq <| gReg <| R rfl (asg rfl) <| R rfl (asg rfl) <| R rfl (asg rfl) <| gNil <| eThen <| gRet <| eTret <| eNew u8R 5 2 <| eRet [(.slice none 0 0)] [2] rfl (eE rfl <| eE rfl <| eE rfl <| eN) (rR rfl rfl <| rN)
      · skip
        refine gSkip <| eThen <| gSeq <| gReg <| R rfl (mv rfl) <| R rfl (mv rfl) <| R rfl (U.toI rfl Tryd.underlying22 Tryd.underlying3) <| R rfl (I.add rfl rfl) <| R rfl (asg rfl) <| lName 10 rfl fun y8 => gNil <| eThen <| gSeq <| gReg <| Ef rfl (lit (R := u8R) (([] : List UInt8) : List UInt8) 3 (pN) rfl Tryd.underlying40 ti5 rfl rfl) fun v9 => R rfl (mv rfl) <| R rfl (mv rfl) <| R rfl (mv rfl) <| lBind fun x10 h11 => R rfl (cut' rfl (.to rfl) (.to rfl) h11 Tryd.underlying40 ti5) <| lBind fun x12 h13 => Ef rfl (apn 3 rfl rfl rfl .rd h13 Tryd.underlying40 ti5 rfl rfl rfl) fun v14 => R rfl (mv rfl) <| R rfl (asg rfl) <| R rfl (asg rfl) <| R rfl (asg rfl) <| gNil <| eThen <| gRet <| eRet [v14] [3] rfl (eE rfl <| eE rfl <| eE rfl <| eN) (rR rfl rfl <| rN)

def braidref05_Decode_L1 (a0 : List UInt8) (s16 : api_Value × Int) : Option (Sum api_Value (api_Value × Int)) :=
  if decide (s16.2 ≤ 8) then
    if decide (s16.2 < (a0.length : Int)) then
      idx a0 s16.2 >>= fun x19 =>
      some (w64 (s16.2 + 1)) >>= fun y21 =>
      some (.inr ({ s16.1 with Bits := (256 * s16.1.Bits) + x19.toUInt64 }, y21))
    else
      some (.inl s16.1)
  else
    some (.inl s16.1)
def braidref05_Decode (a0 : List UInt8) : Option (api_Value × Int × Int) :=
  if (a0.length : Int) == 0 then
    some ((⟨0, 0, 0, []⟩ : api_Value), 0, 12)
  else
    idx a0 0 >>= fun x3 =>
    (some (((⟨x3, 0, 0, []⟩ : api_Value).Kind) == 1) >>= fun y7 =>
    if y7 then
      cut a0 1 (a0.length : Int) >>= fun x9 =>
      braidref04_ReadSigned x9 >>= fun r11 =>
      some ({ (⟨x3, 0, 0, []⟩ : api_Value) with Num := r11.1 }, r11.2.1, r11.2.2)
    else
      some (((⟨x3, 0, 0, []⟩ : api_Value).Kind) == 2) >>= fun y13 =>
      if y13 then
        (iter (braidref05_Decode_L1 a0) ((⟨x3, 0, 0, []⟩ : api_Value), 1)) >>= fun s15 =>
        some (s15, 8, 0)
      else
        some (((⟨x3, 0, 0, []⟩ : api_Value).Kind) == 3) >>= fun y22 =>
        if y22 then
          cut a0 1 (a0.length : Int) >>= fun x24 =>
          braidref04_ReadBytes x24 30 >>= fun r26 =>
          some ({ (⟨x3, 0, 0, []⟩ : api_Value) with Text := r26.1 }, r26.2.1, r26.2.2)
        else
          some ((⟨x3, 0, 0, []⟩ : api_Value), 0, 0)) >>= fun s6 =>
    (if s6.2.2 != 0 then
      some true
    else
      if decide ((a0.length : Int) < (w64 (s6.2.1 + 1))) then
        some true
      else
        braidref05_Check s6.1 >>= fun r31 =>
        some (r31 != 0)) >>= fun s28 =>
    if s28 then
      some ((⟨0, 0, 0, []⟩ : api_Value), 0, 12)
    else
      some (w64 (s6.2.1 + 1)) >>= fun y34 =>
      some (s6.1, y34, 0)
set_option maxRecDepth 100000 in
theorem braidref05_Decode_ok (a0 : List UInt8) : Spec Tryd.prog 24 [.rd (sliceR u8R) a0] [] (braidref05_Decode a0) (fun r nv => ⟨[.rd R_api_Value r.1, .rd i64R r.2.1, .rd i64R r.2.2], []⟩) := by
  refine spec 82 Tryd.func24 rfl rfl rfl fun H w => ?_
  refine gSeq <| gReg <| Eb rfl (allc 1 ti24 (.zr zr24)) fun v1 => R rfl (asg rfl) <| R rfl (asg rfl) <| gNil <| eThen <| gSeq <| gSeq <| gReg <| R rfl (mv rfl) <| R rfl (len' rfl .rd rfl Tryd.underlying40) <| R rfl (I.eql rfl rfl) <| gNil <| eThen <| gIf rfl rfl (fun h2 => ?_) (fun h2 => ?_)
  · skip
    refine gSeq <| gReg <| R rfl (bld (x' := (⟨0, 0, 0, []⟩ : api_Value)) [(0, 1), (1, 1), (2, 1), (3, 1)] Tryd.underlying24 ti24 rfl zr24 rfl (Bld.done rfl)) <| Es (sto 1 rfl rfl Foc.here rfl ti24) <| R rfl (asg rfl) <| R rfl (asg rfl) <| gNil <| eThen <| gRet <| eTret <| eRet [] [] rfl (eC 1 rfl rfl ty24 <| eE rfl <| eE rfl <| eN) (rN)
  · skip
    refine gSkip <| eThen <| gSeq <| gReg <| R rfl (mv rfl) <| lBind fun x3 h4 => R rfl (ixR rfl rfl h4 Tryd.underlying40 ti5 rfl) <| R rfl (ldR rfl ty5) <| R rfl (bld (x' := (⟨x3, 0, 0, []⟩ : api_Value)) [(0, 1), (1, 1), (2, 1), (3, 1)] Tryd.underlying24 ti24 rfl zr24 rfl (Bld.cons (pt_api_Value_Kind _) rfl rfl <| Bld.done rfl)) <| Eb rfl (allc 2 ti24 (.zr zr24)) fun v5 => Es (sto 2 rfl rfl Foc.here rfl ti24) <| gNil <| eThen <| gSeq <| gReg <| R rfl (asg rfl) <| R rfl (asg rfl) <| gNil <| eThen <| gMid (fun (s6 : api_Value × Int × Int) aa ww => Sta (ctx 82 H [] w) [(0, .rd (sliceR u8R) a0), (2, .val (ptrTo v1 0)), (5, .val (ptrTo v5 0)), (6, .rd i64R s6.2.1), (7, .rd i64R s6.2.2)] [(1, some (v1, .box 24 [.rd R_api_Value (⟨0, 0, 0, []⟩ : api_Value)])), (2, some (v5, .box 24 [.rd R_api_Value s6.1]))] aa ww) ?_ (fun s6 => ?_)
    · skip
      refine gSeq <| gReg <| R rfl (faB 2 rfl rfl Tryd.underlying24 rfl (by exact ti5)) <| R rfl (ld 2 rfl rfl ((Foc.here).part (pt_api_Value_Kind _)) ty5 rfl) <| gNil <| eThen <| gBlk <| gSeq <| gReg <| R rfl (B.eql rfl rfl) <| R rfl (asg rfl) <| lName 20 rfl fun y7 => gNil <| eThen <| gIf rfl rfl (fun h8 => ?_) (fun h8 => ?_)
      · skip
        refine gReg <| R rfl (mv rfl) <| lBind fun x9 h10 => R rfl (cut' rfl (.to rfl) .no h10 Tryd.underlying40 ti5) <| call [] [] rfl Tryd.func40 rfl rfl (braidref04_ReadSigned_ok _) (aQ rfl <| aN) rN fun r11 n12 => R rfl (mv rfl) <| R rfl (ext rfl rfl) <| R rfl (ext rfl rfl) <| R rfl (ext rfl rfl) <| R rfl (faB 2 rfl rfl Tryd.underlying24 rfl (by exact ti2)) <| Es (sto 2 rfl rfl ((Foc.here).part (pt_api_Value_Num _)) rfl ti2) <| R rfl (asg rfl) <| R rfl (asg rfl) <| gNil <| eBlk <| eMid (fun aa ww h => h.sub [1, 2] (sS rfl <| sS rfl <| sS rfl <| sS rfl <| sS rfl <| sN) (rR rfl rfl <| rR rfl rfl <| rN))
      · skip
        refine gSeq <| gReg <| R rfl (B.eql rfl rfl) <| R rfl (asg rfl) <| lName 30 rfl fun y13 => gNil <| eThen <| gIf rfl rfl (fun h14 => ?_) (fun h14 => ?_)
        · skip
          refine gMid (fun (s15 : api_Value) aa ww => Sta (ctx 82 H [] w) [(0, .rd (sliceR u8R) a0), (2, .val (ptrTo v1 0)), (5, .val (ptrTo v5 0)), (7, .rd i64R 0)] [(1, some (v1, .box 24 [.rd R_api_Value (⟨0, 0, 0, []⟩ : api_Value)])), (2, some (v5, .box 24 [.rd R_api_Value s15]))] aa ww) ?_ (fun s15 => ?_)
          · skip
            refine gSeq <| gReg <| R rfl (asg rfl) <| gNil <| eThen <| gLoop (fun (s16 : api_Value × Int) aa ww => Sta (ctx 82 H [] w) [(0, .rd (sliceR u8R) a0), (2, .val (ptrTo v1 0)), (5, .val (ptrTo v5 0)), (7, .rd i64R 0), (8, .rd i64R s16.2)] [(1, some (v1, .box 24 [.rd R_api_Value (⟨0, 0, 0, []⟩ : api_Value)])), (2, some (v5, .box 24 [.rd R_api_Value s16.1]))] aa ww) (fun aa ww h => h.sub [1, 2] (sS rfl <| sS rfl <| sS rfl <| sS rfl <| sS rfl <| sN) (rR rfl rfl <| rR rfl rfl <| rN)) (fun s16 => ?_)
            refine gSeq <| gSeq <| gReg <| R rfl (mv rfl) <| R rfl (I.leq rfl rfl) <| R rfl (mv rfl) <| lSplit 34 rfl (fun h17 => ?_) (fun h17 => ?_)
            · skip
              refine lKn 33 rfl h17 <| lRun (gd rfl rfl rfl rfl) rfl rfl (mv rfl) <| lRun (gd rfl rfl rfl rfl) rfl rfl (mv rfl) <| lRun (gd rfl rfl rfl rfl) rfl rfl (len' rfl .rd rfl Tryd.underlying40) <| lRun (gd rfl rfl rfl rfl) rfl rfl (I.lss rfl rfl) <| R rfl (pkT rfl rfl) <| gNil <| eThen <| gIf rfl rfl (fun h18 => ?_) (fun h18 => ?_)
              · skip
                refine gKn 38 rfl h18 <| gSkip <| eThen <| gSeq <| gBlk <| gRegH [2] mixed rfl rfl <| hTake 0 rfl (by kernel_rfl) (by kernel_rfl) (by kernel_rfl) (gd0 rfl) rfl rfl (faB 2 rfl rfl Tryd.underlying24 rfl (by exact ti22)) <| hTake 3 rfl (by kernel_rfl) (by kernel_rfl) (by kernel_rfl) (gd0 rfl) rfl rfl (mv rfl) <| hTake 4 rfl (by kernel_rfl) (by kernel_rfl) (by kernel_rfl) (gd0 rfl) rfl rfl (mv rfl) <| hBind fun x19 h20 => hTake 5 rfl (by kernel_rfl) (by kernel_rfl) (by kernel_rfl) (gd0 rfl) rfl rfl (ixR rfl rfl h20 Tryd.underlying40 ti5 rfl) <| hTake 6 rfl (by kernel_rfl) (by kernel_rfl) (by kernel_rfl) (gd0 rfl) rfl rfl (ldR rfl ty5) <| hTake 7 rfl (by kernel_rfl) (by kernel_rfl) (by kernel_rfl) (gd0 rfl) rfl rfl (B.toU rfl Tryd.underlying5 Tryd.underlying22) <| hRun 1 rfl (by kernel_rfl) (gd0 rfl) rfl rfl flat_num (ld 2 rfl rfl ((Foc.here).part (pt_api_Value_Bits _)) ty22 rfl) <| hTake 2 rfl (by kernel_rfl) (by kernel_rfl) (by kernel_rfl) (gd0 rfl) rfl rfl (U.mul rfl rfl) <| hTake 8 rfl (by kernel_rfl) (by kernel_rfl) (by kernel_rfl) (gd0 rfl) rfl rfl (U.add rfl rfl) <| hTake 9 rfl (by kernel_rfl) (by kernel_rfl) (by kernel_rfl) (gd0 rfl) rfl rfl (faB 2 rfl rfl Tryd.underlying24 rfl (by exact ti22)) <| hDoS 10 rfl (by kernel_rfl) (gd0 rfl) rfl rfl rfl rfl (sto 2 rfl rfl ((Foc.here).part (pt_api_Value_Bits _)) rfl ti22) <| hDone (by kernel_rfl) <| eBlk <| eThen <| gReg <| R rfl (mv rfl) <| R rfl (I.add rfl rfl) <| R rfl (asg rfl) <| lName 8 rfl fun y21 => gNil <| eNext (fun aa ww h => h.sub [1, 2] (sS rfl <| sS rfl <| sS rfl <| sS rfl <| sS rfl <| sN) (rR rfl rfl <| rR rfl rfl <| rN))
              · skip
                refine gKn 38 rfl h18 <| gExit <| eTexit <| eLeave <| eMid (fun aa ww h => h.sub [1, 2] (sS rfl <| sS rfl <| sS rfl <| sS rfl <| sN) (rR rfl rfl <| rR rfl rfl <| rN))
            · skip
              refine lKn 33 rfl h17 <| lSkip (gd rfl rfl rfl rfl) rfl rfl <| lSkip (gd rfl rfl rfl rfl) rfl rfl <| lSkip (gd rfl rfl rfl rfl) rfl rfl <| lSkip (gd rfl rfl rfl rfl) rfl rfl <| R rfl (pkF rfl rfl) <| gNil <| eThen <| gFalse rfl <| gExit <| eTexit <| eLeave <| eMid (fun aa ww h => h.sub [1, 2] (sS rfl <| sS rfl <| sS rfl <| sS rfl <| sN) (rR rfl rfl <| rR rfl rfl <| rN))
          · skip
            refine gReg <| R rfl (asg rfl) <| gNil <| eBlk <| eMid (fun aa ww h => h.sub [1, 2] (sS rfl <| sS rfl <| sS rfl <| sS rfl <| sS rfl <| sN) (rR rfl rfl <| rR rfl rfl <| rN))
        · skip
          refine gSeq <| gReg <| R rfl (B.eql rfl rfl) <| R rfl (asg rfl) <| lName 52 rfl fun y22 => gNil <| eThen <| gIf rfl rfl (fun h23 => ?_) (fun h23 => ?_)
          · skip
            refine gSeq <| gReg <| R rfl (asg rfl) <| gNil <| eThen <| gSeq <| gReg <| R rfl (mv rfl) <| lBind fun x24 h25 => R rfl (cut' rfl (.to rfl) .no h25 Tryd.underlying40 ti5) <| call [] [(100, 39)] rfl Tryd.func41 rfl rfl (braidref04_ReadBytes_ok _ _) (aQ rfl <| aQ rfl <| aN) rN fun r26 n27 => R rfl (mv rfl) <| R rfl (ext rfl rfl) <| R rfl (ext rfl rfl) <| R rfl (ext rfl rfl) <| R rfl (asg rfl) <| R rfl (asg rfl) <| R rfl (asg rfl) <| gNil <| eThen <| gReg <| R rfl (mv rfl) <| lFrz 39 [9, 58, 61] rfl (fS rfl <| fS rfl <| fS rfl <| fN) <| R rfl (cvBS rfl Tryd.underlying40 Tryd.underlying5 Tryd.underlying9) <| R rfl (faB 2 rfl rfl Tryd.underlying24 rfl (by exact ti9)) <| Es (sto 2 rfl rfl ((Foc.here).part (pt_api_Value_Text _)) rfl ti9) <| gNil <| eBlk <| eMid (fun aa ww h => h.sub [1, 2] (sS rfl <| sS rfl <| sS rfl <| sS rfl <| sS rfl <| sN) (rR rfl rfl <| rR rfl rfl <| rN))
          · skip
            refine gSkip <| eBlk <| eMid (fun aa ww h => h.sub [1, 2] (sS rfl <| sS rfl <| sS rfl <| sS rfl <| sS rfl <| sN) (rR rfl rfl <| rR rfl rfl <| rN))
    · skip
      refine gSeq <| gMid (fun (s28 : Bool) aa ww => Sta (ctx 82 H [] w) [(2, .val (ptrTo v1 0)), (5, .val (ptrTo v5 0)), (6, .rd i64R s6.2.1), (77, .rd boolR s28)] [(1, some (v1, .box 24 [.rd R_api_Value (⟨0, 0, 0, []⟩ : api_Value)])), (2, some (v5, .box 24 [.rd R_api_Value s6.1]))] aa ww) ?_ (fun s28 => ?_)
      · skip
        refine gReg <| R rfl (mv rfl) <| R rfl (I.neq rfl rfl) <| R rfl (mv rfl) <| lSplit 66 rfl (fun h29 => ?_) (fun h29 => ?_)
        · skip
          refine lKn 65 rfl h29 <| lSkip (gd rfl rfl rfl rfl) rfl rfl <| lSkip (gd rfl rfl rfl rfl) rfl rfl <| lSkip (gd rfl rfl rfl rfl) rfl rfl <| lSkip (gd rfl rfl rfl rfl) rfl rfl <| lSkip (gd rfl rfl rfl rfl) rfl rfl <| R rfl (pkT rfl rfl) <| R rfl (mv rfl) <| lSkip (gd rfl rfl rfl rfl) rfl rfl <| lSkip (gd rfl rfl rfl rfl) rfl rfl <| lSkip (gd rfl rfl rfl rfl) rfl rfl <| R rfl (pkT rfl rfl) <| gNil <| eMid (fun aa ww h => h.sub [1, 2] (sS rfl <| sS rfl <| sS rfl <| sS rfl <| sN) (rR rfl rfl <| rR rfl rfl <| rN))
        · skip
          refine lKn 65 rfl h29 <| lRun (gd rfl rfl rfl rfl) rfl rfl (mv rfl) <| lRun (gd rfl rfl rfl rfl) rfl rfl (len' rfl .rd rfl Tryd.underlying40) <| lRun (gd rfl rfl rfl rfl) rfl rfl (mv rfl) <| lRun (gd rfl rfl rfl rfl) rfl rfl (I.add rfl rfl) <| lRun (gd rfl rfl rfl rfl) rfl rfl (I.lss rfl rfl) <| R rfl (pkF rfl rfl) <| R rfl (mv rfl) <| lSplit 73 rfl (fun h30 => ?_) (fun h30 => ?_)
          · skip
            refine lKn 71 rfl h30 <| lKn 72 rfl h30 <| lSkip (gd rfl rfl rfl rfl) rfl rfl <| lSkip (gd rfl rfl rfl rfl) rfl rfl <| lSkip (gd rfl rfl rfl rfl) rfl rfl <| R rfl (pkT rfl rfl) <| gNil <| eMid (fun aa ww h => h.sub [1, 2] (sS rfl <| sS rfl <| sS rfl <| sS rfl <| sN) (rR rfl rfl <| rR rfl rfl <| rN))
          · skip
            refine lKn 71 rfl h30 <| lKn 72 rfl h30 <| lRun (gd rfl rfl rfl rfl) rfl rfl (ld 2 rfl rfl Foc.here ty24 rfl) <| callg [] [] (gd rfl rfl rfl rfl) rfl Tryd.func26 rfl rfl (braidref05_Check_ok _) (aQ rfl <| aN) rN fun r31 n32 => lRun (gd rfl rfl rfl rfl) rfl rfl (I.neq rfl rfl) <| R rfl (pkF rfl rfl) <| gNil <| eMid (fun aa ww h => h.sub [1, 2] (sS rfl <| sS rfl <| sS rfl <| sS rfl <| sN) (rR rfl rfl <| rR rfl rfl <| rN))
      · skip
        refine gIf rfl rfl (fun h33 => ?_) (fun h33 => ?_)
        · skip
          refine gSeq <| gReg <| R rfl (bld (x' := (⟨0, 0, 0, []⟩ : api_Value)) [(0, 1), (1, 1), (2, 1), (3, 1)] Tryd.underlying24 ti24 rfl zr24 rfl (Bld.done rfl)) <| Es (sto 1 rfl rfl Foc.here rfl ti24) <| R rfl (asg rfl) <| R rfl (asg rfl) <| gNil <| eThen <| gRet <| eTret <| eRet [] [] rfl (eC 1 rfl rfl ty24 <| eE rfl <| eE rfl <| eN) (rN)
        · skip
          refine gSkip <| eThen <| gSeq <| gReg <| R rfl (ld 2 rfl rfl Foc.here ty24 rfl) <| R rfl (mv rfl) <| R rfl (I.add rfl rfl) <| Es (sto 1 rfl rfl Foc.here rfl ti24) <| R rfl (asg rfl) <| lName 3 rfl fun y34 => R rfl (asg rfl) <| gNil <| eThen <| gRet <| eRet [] [] rfl (eC 1 rfl rfl ty24 <| eE rfl <| eE rfl <| eN) (rN)


def braidlaw05_ValueCompares (a0 : api_Value) (a1 : api_Value) (a2 : List UInt8) : Option (Bool) :=
  (if decide (100 < (a0.Text.length : Int)) then
    some true
  else
    if decide (100 < (a1.Text.length : Int)) then
      some true
    else
      some (decide (100 < (a2.length : Int)))) >>= fun s3 =>
  if s3 then
    some true
  else
    value_Cmp a0 a1 >>= fun r7 =>
    braidref05_Cmp a0 a1 >>= fun r9 =>
    value_Encode a0 >>= fun r11 =>
    braidref05_Encode a0 >>= fun r13 =>
    value_Decode a2 >>= fun r15 =>
    braidref05_Decode a2 >>= fun r18 =>
    if r7.1 == r9.1 then
      if r7.2 == r9.2 then
        braidref01_SameBytes r11.1 r13.1 >>= fun r23 =>
        if r23 then
          if r11.2 == r13.2 then
            if decide (r15.1 = r18.1) then
              if r15.2.1 == r18.2.1 then
                some (r15.2.2 == r18.2.2) >>= fun y29 =>
                some y29
              else
                some false
            else
              some false
          else
            some false
        else
          some false
      else
        some false
    else
      some false
set_option maxRecDepth 100000 in
theorem braidlaw05_ValueCompares_ok (a0 : api_Value) (a1 : api_Value) (a2 : List UInt8) : Spec Tryd.prog 6 [.rd R_api_Value a0, .rd R_api_Value a1, .rd (sliceR u8R) a2] [(1001, some ((.bool true), .glob 1 (arrR 64 u8R) gtab1))] (braidlaw05_ValueCompares a0 a1 a2) (fun r nv => ⟨[.rd boolR r], [(1001, some (.bool true, .glob 1 (arrR 64 u8R) gtab1))]⟩) := by
  refine spec 103 Tryd.func6 rfl rfl rfl fun H w => ?_
  refine gSeq <| gReg <| Eb rfl (bx 1 rfl) fun v1 => Eb rfl (bx 2 rfl) fun v2 => R rfl (asg rfl) <| gNil <| eThen <| gSeq <| gMid (fun (s3 : Bool) aa ww => Sta (ctx 103 H [(1001, some ((.bool true), .glob 1 (arrR 64 u8R) gtab1))] w) [(2, .rd (sliceR u8R) a2), (3, .val (ptrTo v1 0)), (4, .val (ptrTo v2 0)), (35, .rd boolR s3)] [(1, some (v1, .box 24 [.rd R_api_Value a0])), (2, some (v2, .box 24 [.rd R_api_Value a1])), (1001, some ((.bool true), .glob 1 (arrR 64 u8R) gtab1))] aa ww) ?_ (fun s3 => ?_)
  · skip
    refine gReg <| R rfl (faB 1 rfl rfl Tryd.underlying24 rfl (by exact ti9)) <| R rfl (ld 1 rfl rfl ((Foc.here).part (pt_api_Value_Text _)) ty9 rfl) <| R rfl (lenT rfl rfl Tryd.underlying9) <| R rfl (I.gtr rfl rfl) <| R rfl (mv rfl) <| lSplit 25 rfl (fun h4 => ?_) (fun h4 => ?_)
    · skip
      refine lKn 24 rfl h4 <| lSkip (gd rfl rfl rfl rfl) rfl rfl <| lSkip (gd rfl rfl rfl rfl) rfl rfl <| lSkip (gd rfl rfl rfl rfl) rfl rfl <| lSkip (gd rfl rfl rfl rfl) rfl rfl <| R rfl (pkT rfl rfl) <| R rfl (mv rfl) <| lSkip (gd rfl rfl rfl rfl) rfl rfl <| lSkip (gd rfl rfl rfl rfl) rfl rfl <| lSkip (gd rfl rfl rfl rfl) rfl rfl <| R rfl (pkT rfl rfl) <| gNil <| eMid (fun aa ww h => h.sub [1, 2, 1001] (sS rfl <| sS rfl <| sS rfl <| sS rfl <| sN) (rR rfl rfl <| rR rfl rfl <| rR rfl rfl <| rN))
    · skip
      refine lKn 24 rfl h4 <| lRun (gd rfl rfl rfl rfl) rfl rfl (faB 2 rfl rfl Tryd.underlying24 rfl (by exact ti9)) <| lRun (gd rfl rfl rfl rfl) rfl rfl (ld 2 rfl rfl ((Foc.here).part (pt_api_Value_Text _)) ty9 rfl) <| lRun (gd rfl rfl rfl rfl) rfl rfl (lenT rfl rfl Tryd.underlying9) <| lRun (gd rfl rfl rfl rfl) rfl rfl (I.gtr rfl rfl) <| R rfl (pkF rfl rfl) <| R rfl (mv rfl) <| lSplit 31 rfl (fun h5 => ?_) (fun h5 => ?_)
      · skip
        refine lKn 29 rfl h5 <| lKn 30 rfl h5 <| lSkip (gd rfl rfl rfl rfl) rfl rfl <| lSkip (gd rfl rfl rfl rfl) rfl rfl <| lSkip (gd rfl rfl rfl rfl) rfl rfl <| R rfl (pkT rfl rfl) <| gNil <| eMid (fun aa ww h => h.sub [1, 2, 1001] (sS rfl <| sS rfl <| sS rfl <| sS rfl <| sN) (rR rfl rfl <| rR rfl rfl <| rR rfl rfl <| rN))
      · skip
        refine lKn 29 rfl h5 <| lKn 30 rfl h5 <| lRun (gd rfl rfl rfl rfl) rfl rfl (mv rfl) <| lRun (gd rfl rfl rfl rfl) rfl rfl (len' rfl .rd rfl Tryd.underlying40) <| lRun (gd rfl rfl rfl rfl) rfl rfl (I.gtr rfl rfl) <| R rfl (pkF rfl rfl) <| gNil <| eMid (fun aa ww h => h.sub [1, 2, 1001] (sS rfl <| sS rfl <| sS rfl <| sS rfl <| sN) (rR rfl rfl <| rR rfl rfl <| rR rfl rfl <| rN))
  · skip
    refine gIf rfl rfl (fun h6 => ?_) (fun h6 => ?_)
    · skip
      refine gSeq <| gReg <| R rfl (asg rfl) <| gNil <| eThen <| gRet <| eTret <| eRet [] [1001] rfl (eE rfl <| eN) (rR rfl rfl <| rN)
    · skip
      refine gSkip <| eThen <| gSeq <| gReg <| R rfl (ld 1 rfl rfl Foc.here ty24 rfl) <| R rfl (ld 2 rfl rfl Foc.here ty24 rfl) <| call [1001] [] rfl Tryd.func10 rfl rfl (value_Cmp_ok _ _) (aQ rfl <| aQ rfl <| aN) (rR rfl rfl <| rN) fun r7 n8 => R rfl (mv rfl) <| R rfl (ext rfl rfl) <| R rfl (ext rfl rfl) <| R rfl (asg rfl) <| R rfl (asg rfl) <| gNil <| eThen <| gSeq <| gReg <| R rfl (ld 1 rfl rfl Foc.here ty24 rfl) <| R rfl (ld 2 rfl rfl Foc.here ty24 rfl) <| call [] [] rfl Tryd.func22 rfl rfl (braidref05_Cmp_ok _ _) (aQ rfl <| aQ rfl <| aN) rN fun r9 n10 => R rfl (mv rfl) <| R rfl (ext rfl rfl) <| R rfl (ext rfl rfl) <| R rfl (asg rfl) <| R rfl (asg rfl) <| gNil <| eThen <| gSeq <| gReg <| R rfl (ld 1 rfl rfl Foc.here ty24 rfl) <| call [] [(100, 1002)] rfl Tryd.func17 rfl rfl (value_Encode_ok _) (aQ rfl <| aN) rN fun r11 n12 => R rfl (mv rfl) <| R rfl (ext rfl rfl) <| R rfl (ext rfl rfl) <| R rfl (asg rfl) <| R rfl (asg rfl) <| gNil <| eThen <| gSeq <| gReg <| R rfl (ld 1 rfl rfl Foc.here ty24 rfl) <| call [] [(100, 1003)] rfl Tryd.func23 rfl rfl (braidref05_Encode_ok _) (aQ rfl <| aN) rN fun r13 n14 => R rfl (mv rfl) <| R rfl (ext rfl rfl) <| R rfl (ext rfl rfl) <| R rfl (asg rfl) <| R rfl (asg rfl) <| gNil <| eThen <| gSeq <| gReg <| R rfl (mv rfl) <| call [] [] rfl Tryd.func20 rfl rfl (value_Decode_ok _) (aQ rfl <| aN) rN fun r15 n16 => R rfl (mv rfl) <| R rfl (ext rfl rfl) <| R rfl (ext rfl rfl) <| R rfl (ext rfl rfl) <| Eb rfl (allc 1004 ti24 (.zr zr24)) fun v17 => Es (sto 1004 rfl rfl Foc.here rfl ti24) <| R rfl (asg rfl) <| R rfl (asg rfl) <| gNil <| eThen <| gSeq <| gReg <| R rfl (mv rfl) <| call [] [] rfl Tryd.func24 rfl rfl (braidref05_Decode_ok _) (aQ rfl <| aN) rN fun r18 n19 => R rfl (mv rfl) <| R rfl (ext rfl rfl) <| R rfl (ext rfl rfl) <| R rfl (ext rfl rfl) <| Eb rfl (allc 1005 ti24 (.zr zr24)) fun v20 => Es (sto 1005 rfl rfl Foc.here rfl ti24) <| R rfl (asg rfl) <| R rfl (asg rfl) <| gNil <| eThen <| gSeq <| gReg <| R rfl (mv rfl) <| R rfl (mv rfl) <| R rfl (I.eql rfl rfl) <| R rfl (mv rfl) <| lSplit 73 rfl (fun h21 => ?_) (fun h21 => ?_)
      · skip
        refine lKn 72 rfl h21 <| lRun (gd rfl rfl rfl rfl) rfl rfl (mv rfl) <| lRun (gd rfl rfl rfl rfl) rfl rfl (mv rfl) <| lRun (gd rfl rfl rfl rfl) rfl rfl (I.eql rfl rfl) <| R rfl (pkT rfl rfl) <| R rfl (mv rfl) <| lSplit 78 rfl (fun h22 => ?_) (fun h22 => ?_)
        · skip
          refine lKn 76 rfl h22 <| lKn 77 rfl h22 <| lRun (gd rfl rfl rfl rfl) rfl rfl (mv rfl) <| lRun (gd rfl rfl rfl rfl) rfl rfl (mv rfl) <| lFrz 1002 [51, 11, 79] rfl (fS rfl <| fS rfl <| fS rfl <| fN) <| lFrz 1003 [56, 13, 80] rfl (fS rfl <| fS rfl <| fS rfl <| fN) <| callg [] [] (gd rfl rfl rfl rfl) rfl Tryd.func25 rfl rfl (braidref01_SameBytes_ok _ _) (aQ rfl <| aQ rfl <| aN) rN fun r23 n24 => R rfl (pkT rfl rfl) <| R rfl (mv rfl) <| lSplit 83 rfl (fun h25 => ?_) (fun h25 => ?_)
          · skip
            refine lKn 81 rfl h25 <| lKn 82 rfl h25 <| lRun (gd rfl rfl rfl rfl) rfl rfl (mv rfl) <| lRun (gd rfl rfl rfl rfl) rfl rfl (mv rfl) <| lRun (gd rfl rfl rfl rfl) rfl rfl (I.eql rfl rfl) <| R rfl (pkT rfl rfl) <| R rfl (mv rfl) <| lSplit 88 rfl (fun h26 => ?_) (fun h26 => ?_)
            · skip
              refine lKn 86 rfl h26 <| lKn 87 rfl h26 <| lRun (gd rfl rfl rfl rfl) rfl rfl (ld 1004 rfl rfl Foc.here ty24 rfl) <| lRun (gd rfl rfl rfl rfl) rfl rfl (ld 1005 rfl rfl Foc.here ty24 rfl) <| lRun (gd rfl rfl rfl rfl) rfl rfl (eqA rfl rfl eq24 rfl rfl gq24) <| R rfl (pkT rfl rfl) <| R rfl (mv rfl) <| lSplit 93 rfl (fun h27 => ?_) (fun h27 => ?_)
              · skip
                refine lKn 91 rfl h27 <| lKn 92 rfl h27 <| lRun (gd rfl rfl rfl rfl) rfl rfl (mv rfl) <| lRun (gd rfl rfl rfl rfl) rfl rfl (mv rfl) <| lRun (gd rfl rfl rfl rfl) rfl rfl (I.eql rfl rfl) <| R rfl (pkT rfl rfl) <| R rfl (mv rfl) <| lSplit 98 rfl (fun h28 => ?_) (fun h28 => ?_)
                · skip
                  refine lKn 96 rfl h28 <| lKn 97 rfl h28 <| lRun (gd rfl rfl rfl rfl) rfl rfl (mv rfl) <| lRun (gd rfl rfl rfl rfl) rfl rfl (mv rfl) <| lRun (gd rfl rfl rfl rfl) rfl rfl (I.eql rfl rfl) <| R rfl (pkT rfl rfl) <| R rfl (asg rfl) <| lName 6 rfl fun y29 => gNil <| eThen <| gRet <| eRet [] [1001] rfl (eE rfl <| eN) (rR rfl rfl <| rN)
                · skip
                  refine lKn 96 rfl h28 <| lKn 97 rfl h28 <| lSkip (gd rfl rfl rfl rfl) rfl rfl <| lSkip (gd rfl rfl rfl rfl) rfl rfl <| lSkip (gd rfl rfl rfl rfl) rfl rfl <| R rfl (pkF rfl rfl) <| R rfl (asg rfl) <| gNil <| eThen <| gRet <| eRet [] [1001] rfl (eE rfl <| eN) (rR rfl rfl <| rN)
              · skip
                refine lKn 91 rfl h27 <| lKn 92 rfl h27 <| lSkip (gd rfl rfl rfl rfl) rfl rfl <| lSkip (gd rfl rfl rfl rfl) rfl rfl <| lSkip (gd rfl rfl rfl rfl) rfl rfl <| R rfl (pkF rfl rfl) <| R rfl (mv rfl) <| lSkip (gd rfl rfl rfl rfl) rfl rfl <| lSkip (gd rfl rfl rfl rfl) rfl rfl <| lSkip (gd rfl rfl rfl rfl) rfl rfl <| R rfl (pkF rfl rfl) <| R rfl (asg rfl) <| gNil <| eThen <| gRet <| eRet [] [1001] rfl (eE rfl <| eN) (rR rfl rfl <| rN)
            · skip
              refine lKn 86 rfl h26 <| lKn 87 rfl h26 <| lSkip (gd rfl rfl rfl rfl) rfl rfl <| lSkip (gd rfl rfl rfl rfl) rfl rfl <| lSkip (gd rfl rfl rfl rfl) rfl rfl <| R rfl (pkF rfl rfl) <| R rfl (mv rfl) <| lSkip (gd rfl rfl rfl rfl) rfl rfl <| lSkip (gd rfl rfl rfl rfl) rfl rfl <| lSkip (gd rfl rfl rfl rfl) rfl rfl <| R rfl (pkF rfl rfl) <| R rfl (mv rfl) <| lSkip (gd rfl rfl rfl rfl) rfl rfl <| lSkip (gd rfl rfl rfl rfl) rfl rfl <| lSkip (gd rfl rfl rfl rfl) rfl rfl <| R rfl (pkF rfl rfl) <| R rfl (asg rfl) <| gNil <| eThen <| gRet <| eRet [] [1001] rfl (eE rfl <| eN) (rR rfl rfl <| rN)
          · skip
            refine lKn 81 rfl h25 <| lKn 82 rfl h25 <| lSkip (gd rfl rfl rfl rfl) rfl rfl <| lSkip (gd rfl rfl rfl rfl) rfl rfl <| lSkip (gd rfl rfl rfl rfl) rfl rfl <| R rfl (pkF rfl rfl) <| R rfl (mv rfl) <| lSkip (gd rfl rfl rfl rfl) rfl rfl <| lSkip (gd rfl rfl rfl rfl) rfl rfl <| lSkip (gd rfl rfl rfl rfl) rfl rfl <| R rfl (pkF rfl rfl) <| R rfl (mv rfl) <| lSkip (gd rfl rfl rfl rfl) rfl rfl <| lSkip (gd rfl rfl rfl rfl) rfl rfl <| lSkip (gd rfl rfl rfl rfl) rfl rfl <| R rfl (pkF rfl rfl) <| R rfl (mv rfl) <| lSkip (gd rfl rfl rfl rfl) rfl rfl <| lSkip (gd rfl rfl rfl rfl) rfl rfl <| lSkip (gd rfl rfl rfl rfl) rfl rfl <| R rfl (pkF rfl rfl) <| R rfl (asg rfl) <| gNil <| eThen <| gRet <| eRet [] [1001] rfl (eE rfl <| eN) (rR rfl rfl <| rN)
        · skip
          refine lKn 76 rfl h22 <| lKn 77 rfl h22 <| lSkip (gd rfl rfl rfl rfl) rfl rfl <| lSkip (gd rfl rfl rfl rfl) rfl rfl <| lSkip (gd rfl rfl rfl rfl) rfl rfl <| R rfl (pkF rfl rfl) <| R rfl (mv rfl) <| lSkip (gd rfl rfl rfl rfl) rfl rfl <| lSkip (gd rfl rfl rfl rfl) rfl rfl <| lSkip (gd rfl rfl rfl rfl) rfl rfl <| R rfl (pkF rfl rfl) <| R rfl (mv rfl) <| lSkip (gd rfl rfl rfl rfl) rfl rfl <| lSkip (gd rfl rfl rfl rfl) rfl rfl <| lSkip (gd rfl rfl rfl rfl) rfl rfl <| R rfl (pkF rfl rfl) <| R rfl (mv rfl) <| lSkip (gd rfl rfl rfl rfl) rfl rfl <| lSkip (gd rfl rfl rfl rfl) rfl rfl <| lSkip (gd rfl rfl rfl rfl) rfl rfl <| R rfl (pkF rfl rfl) <| R rfl (mv rfl) <| lSkip (gd rfl rfl rfl rfl) rfl rfl <| lSkip (gd rfl rfl rfl rfl) rfl rfl <| lSkip (gd rfl rfl rfl rfl) rfl rfl <| R rfl (pkF rfl rfl) <| R rfl (asg rfl) <| gNil <| eThen <| gRet <| eRet [] [1001] rfl (eE rfl <| eN) (rR rfl rfl <| rN)
      · skip
        refine lKn 72 rfl h21 <| lSkip (gd rfl rfl rfl rfl) rfl rfl <| lSkip (gd rfl rfl rfl rfl) rfl rfl <| lSkip (gd rfl rfl rfl rfl) rfl rfl <| R rfl (pkF rfl rfl) <| R rfl (mv rfl) <| lSkip (gd rfl rfl rfl rfl) rfl rfl <| lSkip (gd rfl rfl rfl rfl) rfl rfl <| lSkip (gd rfl rfl rfl rfl) rfl rfl <| R rfl (pkF rfl rfl) <| R rfl (mv rfl) <| lSkip (gd rfl rfl rfl rfl) rfl rfl <| lSkip (gd rfl rfl rfl rfl) rfl rfl <| lSkip (gd rfl rfl rfl rfl) rfl rfl <| R rfl (pkF rfl rfl) <| R rfl (mv rfl) <| lSkip (gd rfl rfl rfl rfl) rfl rfl <| lSkip (gd rfl rfl rfl rfl) rfl rfl <| lSkip (gd rfl rfl rfl rfl) rfl rfl <| R rfl (pkF rfl rfl) <| R rfl (mv rfl) <| lSkip (gd rfl rfl rfl rfl) rfl rfl <| lSkip (gd rfl rfl rfl rfl) rfl rfl <| lSkip (gd rfl rfl rfl rfl) rfl rfl <| R rfl (pkF rfl rfl) <| R rfl (mv rfl) <| lSkip (gd rfl rfl rfl rfl) rfl rfl <| lSkip (gd rfl rfl rfl rfl) rfl rfl <| lSkip (gd rfl rfl rfl rfl) rfl rfl <| R rfl (pkF rfl rfl) <| R rfl (asg rfl) <| gNil <| eThen <| gRet <| eRet [] [1001] rfl (eE rfl <| eN) (rR rfl rfl <| rN)

end Go.Proofs.YtklfgpdfongaeaaDoor
