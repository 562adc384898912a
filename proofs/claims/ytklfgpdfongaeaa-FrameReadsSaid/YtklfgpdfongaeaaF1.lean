/- Functions and what the code of each does. -/
import Derived.Test.YtklfgpdfongaeaaE6
import Derived.Test.YtklfgpdfongaeaaKV
namespace Go.Proofs.Ytklfgpdfongaeaa
open Go Go.RowKit
set_option linter.unusedSimpArgs false
set_option linter.unusedVariables false
def wire_ReadNumber_L0 (x20 : List UInt8) (s22 : UInt64 × Int) : Option (Sum UInt64 (UInt64 × Int)) :=
  if decide (s22.2 < (x20.length : Int)) then
    idx x20 s22.2 >>= fun x24 =>
    some ((shl64 s22.1 8) ||| x24.toUInt64) >>= fun y26 =>
    some (.inr (y26, w64 (s22.2 + 1)))
  else
    some (.inl s22.1)
def wire_ReadNumber (a0 : List UInt8) : Option (UInt64 × Int × Int) :=
  if (a0.length : Int) == 0 then
    some (0, 0, 12)
  else
    idx a0 0 >>= fun x2 =>
    if decide (x2 ≤ 247) then
      idx a0 0 >>= fun x5 =>
      some (x5.toUInt64, 1, 0)
    else
      idx a0 0 >>= fun x7 =>
      some (w64 ((x7.toNat : Int) - 247)) >>= fun y9 =>
      orRet (if decide ((a0.length : Int) ≤ y9) then
        some (.inl (0, 0, 12))
      else
        idx a0 1 >>= fun x12 =>
        if x12 == 0 then
          some (.inl (0, 0, 12))
        else
          if y9 == 1 then
            idx a0 1 >>= fun x16 =>
            if decide (x16 ≤ 247) then
              some (.inl (0, 0, 12))
            else
              some (.inr ())
          else
            some (.inr ())) fun s10 =>
      (cut a0 1 (w64 (y9 + 1)) >>= fun x20 =>
      iter (wire_ReadNumber_L0 x20) (0, 0)) >>= fun s19 =>
      some (s19, w64 (y9 + 1), 0)
set_option maxRecDepth 100000 in
theorem wire_ReadNumber_ok (a0 : List UInt8) : Spec Try.prog 26 [.rd (sliceR u8R) a0] [] (wire_ReadNumber a0) (fun r nv => ⟨[.rd u64R r.1, .rd i64R r.2.1, .rd i64R r.2.2], []⟩) := by
  refine spec 63 Try.func26 rfl rfl rfl fun H w => ?_
  refine gSeq <| gReg <| R rfl (asg rfl) <| R rfl (asg rfl) <| R rfl (asg rfl) <| gNil <| eThen <| gSeq <| gSeq <| gReg <| R rfl (mv rfl) <| R rfl (len' rfl .rd rfl Try.underlying32) <| R rfl (I.eql rfl rfl) <| gNil <| eThen <| gIf rfl rfl (fun h1 => ?_) (fun h1 => ?_)
  · skip
    refine gSeq <| gReg <| R rfl (asg rfl) <| R rfl (asg rfl) <| R rfl (asg rfl) <| gNil <| eThen <| gRet <| eTret <| eRet [] [] rfl (eE rfl <| eE rfl <| eE rfl <| eN) (rN)
  · skip
    refine gSkip <| eThen <| gSeq <| gSeq <| gReg <| R rfl (mv rfl) <| lBind fun x2 h3 => R rfl (ixR rfl rfl h3 Try.underlying32 ti5 rfl) <| R rfl (ldR rfl ty5) <| R rfl (B.leq rfl rfl) <| gNil <| eThen <| gIf rfl rfl (fun h4 => ?_) (fun h4 => ?_)
    · skip
      refine gSeq <| gReg <| R rfl (mv rfl) <| lBind fun x5 h6 => R rfl (ixR rfl rfl h6 Try.underlying32 ti5 rfl) <| R rfl (ldR rfl ty5) <| R rfl (B.toU rfl Try.underlying5 Try.underlying31) <| R rfl (asg rfl) <| R rfl (asg rfl) <| R rfl (asg rfl) <| gNil <| eThen <| gRet <| eTret <| eRet [] [] rfl (eE rfl <| eE rfl <| eE rfl <| eN) (rN)
    · skip
      refine gSkip <| eThen <| gSeq <| gReg <| R rfl (mv rfl) <| lBind fun x7 h8 => R rfl (ixR rfl rfl h8 Try.underlying32 ti5 rfl) <| R rfl (ldR rfl ty5) <| R rfl (B.toI rfl Try.underlying5 Try.underlying3) <| R rfl (I.sub rfl rfl) <| R rfl (asg rfl) <| lName 5 rfl fun y9 => gNil <| eThen <| gMidR (fun (s10 : Unit) aa ww => Sta (ctx 63 H [] w) [(0, .rd (sliceR u8R) a0), (5, .rd i64R y9)] [] aa ww) ?_ (fun s10 => ?_)
      · skip
        refine gSeq <| gReg <| R rfl (mv rfl) <| R rfl (len' rfl .rd rfl Try.underlying32) <| R rfl (mv rfl) <| R rfl (I.leq rfl rfl) <| R rfl (mv rfl) <| lSplit 29 rfl (fun h11 => ?_) (fun h11 => ?_)
        · skip
          refine lKn 28 rfl h11 <| lSkip (gd rfl rfl rfl rfl) rfl rfl <| lSkip (gd rfl rfl rfl rfl) rfl rfl <| lSkip (gd rfl rfl rfl rfl) rfl rfl <| lSkip (gd rfl rfl rfl rfl) rfl rfl <| R rfl (pkT rfl rfl) <| R rfl (mv rfl) <| lSkip (gd rfl rfl rfl rfl) rfl rfl <| lSkip (gd rfl rfl rfl rfl) rfl rfl <| lSkip (gd rfl rfl rfl rfl) rfl rfl <| lSkip (gdU rfl rfl rfl) rfl rfl <| lSkip (gdU rfl rfl rfl) rfl rfl <| lSkip (gdU rfl rfl rfl) rfl rfl <| lSkip (gdU rfl rfl rfl) rfl rfl <| lSkip (gd rfl rfl rfl rfl) rfl rfl <| R rfl (pkT rfl rfl) <| gNil <| eThen <| gTrue rfl <| gSeq <| gReg <| R rfl (asg rfl) <| R rfl (asg rfl) <| R rfl (asg rfl) <| gNil <| eThen <| gRet <| eMret <| eRet [] [] rfl (eE rfl <| eE rfl <| eE rfl <| eN) (rN)
        · skip
          refine lKn 28 rfl h11 <| lRun (gd rfl rfl rfl rfl) rfl rfl (mv rfl) <| lBind fun x12 h13 => lRun (gd rfl rfl rfl rfl) rfl rfl (ixR rfl rfl h13 Try.underlying32 ti5 rfl) <| lRun (gd rfl rfl rfl rfl) rfl rfl (ldR rfl ty5) <| lRun (gd rfl rfl rfl rfl) rfl rfl (B.eql rfl rfl) <| R rfl (pkF rfl rfl) <| R rfl (mv rfl) <| lSplit 35 rfl (fun h14 => ?_) (fun h14 => ?_)
          · skip
            refine lKn 33 rfl h14 <| lKn 34 rfl h14 <| lSkip (gd rfl rfl rfl rfl) rfl rfl <| lSkip (gd rfl rfl rfl rfl) rfl rfl <| lSkip (gd rfl rfl rfl rfl) rfl rfl <| lSkip (gdU rfl rfl rfl) rfl rfl <| lSkip (gdU rfl rfl rfl) rfl rfl <| lSkip (gdU rfl rfl rfl) rfl rfl <| lSkip (gdU rfl rfl rfl) rfl rfl <| lSkip (gd rfl rfl rfl rfl) rfl rfl <| R rfl (pkT rfl rfl) <| gNil <| eThen <| gTrue rfl <| gSeq <| gReg <| R rfl (asg rfl) <| R rfl (asg rfl) <| R rfl (asg rfl) <| gNil <| eThen <| gRet <| eMret <| eRet [] [] rfl (eE rfl <| eE rfl <| eE rfl <| eN) (rN)
          · skip
            refine lKn 33 rfl h14 <| lKn 34 rfl h14 <| lRun (gd rfl rfl rfl rfl) rfl rfl (mv rfl) <| lRun (gd rfl rfl rfl rfl) rfl rfl (I.eql rfl rfl) <| lRun (gd rfl rfl rfl rfl) rfl rfl (mv rfl) <| lSplit 38 rfl (fun h15 => ?_) (fun h15 => ?_)
            · skip
              refine lKn 37 rfl h15 <| lRun (gd rfl rfl rfl rfl) rfl rfl (mv rfl) <| lBind fun x16 h17 => lRun (gd rfl rfl rfl rfl) rfl rfl (ixR rfl rfl h17 Try.underlying32 ti5 rfl) <| lRun (gd rfl rfl rfl rfl) rfl rfl (ldR rfl ty5) <| lRun (gd rfl rfl rfl rfl) rfl rfl (B.leq rfl rfl) <| lRun (gd rfl rfl rfl rfl) rfl rfl (pkT rfl rfl) <| R rfl (pkF rfl rfl) <| gNil <| eThen <| gIf rfl rfl (fun h18 => ?_) (fun h18 => ?_)
              · skip
                refine gKn 42 rfl h18 <| gKn 43 rfl h18 <| gSeq <| gReg <| R rfl (asg rfl) <| R rfl (asg rfl) <| R rfl (asg rfl) <| gNil <| eThen <| gRet <| eMret <| eRet [] [] rfl (eE rfl <| eE rfl <| eE rfl <| eN) (rN)
              · skip
                refine gKn 42 rfl h18 <| gKn 43 rfl h18 <| gSkip <| eMidR (fun aa ww h => h.sub [] (sS rfl <| sS rfl <| sN) (rN))
            · skip
              refine lKn 37 rfl h15 <| lSkip (gd rfl rfl rfl rfl) rfl rfl <| lSkip (gd rfl rfl rfl rfl) rfl rfl <| lSkip (gd rfl rfl rfl rfl) rfl rfl <| lSkip (gd rfl rfl rfl rfl) rfl rfl <| lRun (gd rfl rfl rfl rfl) rfl rfl (pkF rfl rfl) <| R rfl (pkF rfl rfl) <| gNil <| eThen <| gFalse rfl <| gSkip <| eMidR (fun aa ww h => h.sub [] (sS rfl <| sS rfl <| sN) (rN))
      · skip
        refine gSeq <| gReg <| R rfl (asg rfl) <| gNil <| eThen <| gMid (fun (s19 : UInt64) aa ww => Sta (ctx 63 H [] w) [(5, .rd i64R y9), (6, .rd u64R s19)] [] aa ww) ?_ (fun s19 => ?_)
        · skip
          refine gSeq <| gReg <| R rfl (mv rfl) <| R rfl (mv rfl) <| R rfl (I.add rfl rfl) <| lBind fun x20 h21 => R rfl (cut' rfl (.to rfl) (.to rfl) h21 Try.underlying32 ti5) <| R rfl (len' rfl .rd rfl Try.underlying32) <| R rfl (mv rfl) <| gNil <| eThen <| gLoop (fun (s22 : UInt64 × Int) aa ww => Sta (ctx 63 H [] w) [(5, .rd i64R y9), (6, .rd u64R s22.1), (48, .rd (sliceR u8R) x20), (49, .rd i64R (x20.length : Int)), (50, .rd i64R s22.2)] [] aa ww) (fun aa ww h => h.sub [] (sS rfl <| sS rfl <| sS rfl <| sS rfl <| sS rfl <| sN) (rN)) (fun s22 => ?_)
          refine gSeq <| gReg <| R rfl (I.lss rfl rfl) <| gNil <| eThen <| gSeq <| gIf rfl rfl (fun h23 => ?_) (fun h23 => ?_)
          · skip
            refine gSkip <| eThen <| gSeq <| gBlk <| gSeq <| gReg <| lBind fun x24 h25 => R rfl (ixR rfl rfl h25 Try.underlying32 ti5 rfl) <| R rfl (ldR rfl ty5) <| R rfl (asg rfl) <| gNil <| eThen <| gReg <| R rfl (mv rfl) <| R rfl (U.shl rfl rfl (Int.natCast_nonneg _)) <| R rfl (mv rfl) <| R rfl (B.toU rfl Try.underlying5 Try.underlying31) <| R rfl (U.or rfl rfl) <| R rfl (asg rfl) <| lName 6 rfl fun y26 => gNil <| eBlk <| eThen <| gReg <| R rfl (I.add rfl rfl) <| R rfl (mv rfl) <| gNil <| eNext (fun aa ww h => h.sub [] (sS rfl <| sS rfl <| sS rfl <| sS rfl <| sS rfl <| sN) (rN))
          · skip
            refine gExit <| eTexit <| eLeave <| eMid (fun aa ww h => h.sub [] (sS rfl <| sS rfl <| sN) (rN))
        · skip
          refine gSeq <| gReg <| R rfl (mv rfl) <| R rfl (mv rfl) <| R rfl (I.add rfl rfl) <| R rfl (asg rfl) <| R rfl (asg rfl) <| R rfl (asg rfl) <| gNil <| eThen <| gRet <| eRet [] [] rfl (eE rfl <| eE rfl <| eE rfl <| eN) (rN)


def wire_part (a0 : List UInt8) (a1 : Int) (a2 : Int) : Option ((List UInt8) × Int × Int) :=
  if decide (a1 < 0) then
    some ([], 0, 2)
  else
    wire_ReadNumber a0 >>= fun r2 =>
    (if r2.2.2 != 0 then
      some true
    else
      if decide ((UInt64.ofInt a1) < r2.1) then
        some true
      else
        chk (a2 ≠ 0) >>= fun u7 =>
        some (decide ((UInt64.ofInt (w64 (Int.tdiv (w64 ((a0.length : Int) - r2.2.1)) a2))) < r2.1))) >>= fun s4 =>
    if s4 then
      some ([], 0, 12)
    else
      some (w64 (r2.2.1 + (w64 (a2 * (w64 (r2.1.toNat : Int)))))) >>= fun y10 =>
      cut a0 r2.2.1 y10 >>= fun x11 =>
      some (x11, y10, 0)
set_option maxRecDepth 100000 in
theorem wire_part_ok (a0 : List UInt8) (a1 : Int) (a2 : Int) : Spec Try.prog 107 [.rd (sliceR u8R) a0, .rd i64R a1, .rd i64R a2] [] (wire_part a0 a1 a2) (fun r nv => ⟨[.rd (sliceR u8R) r.1, .rd i64R r.2.1, .rd i64R r.2.2], []⟩) := by
  refine spec 51 Try.func107 rfl rfl rfl fun H w => ?_
  refine gSeq <| gReg <| R rfl (asg rfl) <| R rfl (asg rfl) <| R rfl (asg rfl) <| gNil <| eThen <| gSeq <| gSeq <| gReg <| R rfl (mv rfl) <| R rfl (I.lss rfl rfl) <| gNil <| eThen <| gIf rfl rfl (fun h1 => ?_) (fun h1 => ?_)
  · skip
    refine gSeq <| gReg <| R rfl (asg rfl) <| R rfl (asg rfl) <| R rfl (asg rfl) <| gNil <| eThen <| gRet <| eTret <| eRdNil u8R 6 rfl <| eRet [] [] rfl (eE rfl <| eE rfl <| eE rfl <| eN) (rN)
  · skip
    refine gSkip <| eThen <| gSeq <| gReg <| R rfl (mv rfl) <| call [] [] rfl Try.func26 rfl rfl (wire_ReadNumber_ok _) (aQ rfl <| aN) rN fun r2 n3 => R rfl (mv rfl) <| R rfl (ext rfl rfl) <| R rfl (ext rfl rfl) <| R rfl (ext rfl rfl) <| R rfl (asg rfl) <| R rfl (asg rfl) <| R rfl (asg rfl) <| gNil <| eThen <| gSeq <| gMid (fun (s4 : Bool) aa ww => Sta (ctx 51 H [] w) [(0, .rd (sliceR u8R) a0), (2, .rd i64R a2), (9, .rd u64R r2.1), (10, .rd i64R r2.2.1), (39, .rd boolR s4)] [] aa ww) ?_ (fun s4 => ?_)
    · skip
      refine gReg <| R rfl (mv rfl) <| R rfl (I.neq rfl rfl) <| R rfl (mv rfl) <| lSplit 23 rfl (fun h5 => ?_) (fun h5 => ?_)
      · skip
        refine lKn 22 rfl h5 <| lSkip (gd rfl rfl rfl rfl) rfl rfl <| lSkip (gd rfl rfl rfl rfl) rfl rfl <| lSkip (gd rfl rfl rfl rfl) rfl rfl <| lSkip (gd rfl rfl rfl rfl) rfl rfl <| R rfl (pkT rfl rfl) <| R rfl (mv rfl) <| lSkip (gd rfl rfl rfl rfl) rfl rfl <| lSkip (gd rfl rfl rfl rfl) rfl rfl <| lSkip (gd rfl rfl rfl rfl) rfl rfl <| lSkip (gd rfl rfl rfl rfl) rfl rfl <| lSkip (gd rfl rfl rfl rfl) rfl rfl <| lSkip (gd rfl rfl rfl rfl) rfl rfl <| lSkip (gd rfl rfl rfl rfl) rfl rfl <| lSkip (gd rfl rfl rfl rfl) rfl rfl <| lSkip (gd rfl rfl rfl rfl) rfl rfl <| R rfl (pkT rfl rfl) <| gNil <| eMid (fun aa ww h => h.sub [] (sS rfl <| sS rfl <| sS rfl <| sS rfl <| sS rfl <| sN) (rN))
      · skip
        refine lKn 22 rfl h5 <| lRun (gd rfl rfl rfl rfl) rfl rfl (mv rfl) <| lRun (gd rfl rfl rfl rfl) rfl rfl (mv rfl) <| lRun (gd rfl rfl rfl rfl) rfl rfl (I.toU rfl Try.underlying3 Try.underlying31) <| lRun (gd rfl rfl rfl rfl) rfl rfl (U.gtr rfl rfl) <| R rfl (pkF rfl rfl) <| R rfl (mv rfl) <| lSplit 29 rfl (fun h6 => ?_) (fun h6 => ?_)
        · skip
          refine lKn 27 rfl h6 <| lKn 28 rfl h6 <| lSkip (gd rfl rfl rfl rfl) rfl rfl <| lSkip (gd rfl rfl rfl rfl) rfl rfl <| lSkip (gd rfl rfl rfl rfl) rfl rfl <| lSkip (gd rfl rfl rfl rfl) rfl rfl <| lSkip (gd rfl rfl rfl rfl) rfl rfl <| lSkip (gd rfl rfl rfl rfl) rfl rfl <| lSkip (gd rfl rfl rfl rfl) rfl rfl <| lSkip (gd rfl rfl rfl rfl) rfl rfl <| lSkip (gd rfl rfl rfl rfl) rfl rfl <| R rfl (pkT rfl rfl) <| gNil <| eMid (fun aa ww h => h.sub [] (sS rfl <| sS rfl <| sS rfl <| sS rfl <| sS rfl <| sN) (rN))
        · skip
          refine lKn 27 rfl h6 <| lKn 28 rfl h6 <| lRun (gd rfl rfl rfl rfl) rfl rfl (mv rfl) <| lRun (gd rfl rfl rfl rfl) rfl rfl (mv rfl) <| lRun (gd rfl rfl rfl rfl) rfl rfl (len' rfl .rd rfl Try.underlying32) <| lRun (gd rfl rfl rfl rfl) rfl rfl (mv rfl) <| lRun (gd rfl rfl rfl rfl) rfl rfl (I.sub rfl rfl) <| lRun (gd rfl rfl rfl rfl) rfl rfl (mv rfl) <| lBind fun u7 h8 => lRun (gd rfl rfl rfl rfl) rfl rfl (I.quo rfl rfl (chk_some h8)) <| lRun (gd rfl rfl rfl rfl) rfl rfl (I.toU rfl Try.underlying3 Try.underlying31) <| lRun (gd rfl rfl rfl rfl) rfl rfl (U.gtr rfl rfl) <| R rfl (pkF rfl rfl) <| gNil <| eMid (fun aa ww h => h.sub [] (sS rfl <| sS rfl <| sS rfl <| sS rfl <| sS rfl <| sN) (rN))
    · skip
      refine gIf rfl rfl (fun h9 => ?_) (fun h9 => ?_)
      · skip
        refine gSeq <| gReg <| R rfl (asg rfl) <| R rfl (asg rfl) <| R rfl (asg rfl) <| gNil <| eThen <| gRet <| eTret <| eRdNil u8R 6 rfl <| eRet [] [] rfl (eE rfl <| eE rfl <| eE rfl <| eN) (rN)
      · skip
        refine gSkip <| eThen <| gSeq <| gReg <| R rfl (mv rfl) <| R rfl (mv rfl) <| R rfl (mv rfl) <| R rfl (U.toI rfl Try.underlying31 Try.underlying3) <| R rfl (I.mul rfl rfl) <| R rfl (I.add rfl rfl) <| R rfl (asg rfl) <| lName 12 rfl fun y10 => gNil <| eThen <| gSeq <| gReg <| R rfl (mv rfl) <| R rfl (mv rfl) <| R rfl (mv rfl) <| lBind fun x11 h12 => R rfl (cut' rfl (.to rfl) (.to rfl) h12 Try.underlying32 ti5) <| R rfl (mv rfl) <| R rfl (asg rfl) <| R rfl (asg rfl) <| R rfl (asg rfl) <| gNil <| eThen <| gRet <| eRet [] [] rfl (eE rfl <| eE rfl <| eE rfl <| eN) (rN)

def wire_ReadIDs_L0 (x4 : List (Vector UInt8 32)) (s8 : (List UInt8) × (List (Vector UInt8 32)) × Int) : Option (Sum ((List (Vector UInt8 32))) ((List UInt8) × (List (Vector UInt8 32)) × Int)) :=
  if decide (s8.2.2 < (x4.length : Int)) then
    idx s8.2.1 s8.2.2 >>= fun x10 =>
    cut s8.1 ((min s8.1.length 32 : Nat) : Int) (s8.1.length : Int) >>= fun x12 =>
    some (.inr (x12, s8.2.1.set (s8.2.2 : Int).toNat (vcopy x10 s8.1), w64 (s8.2.2 + 1)))
  else
    some (.inl s8.2.1)
def wire_ReadIDs (a0 : List UInt8) (a1 : Int) : Option ((List (Vector UInt8 32)) × Int × Int) :=
  wire_part a0 a1 32 >>= fun r1 =>
  if r1.2.2 != 0 then
    some ([], 0, r1.2.2)
  else
    mkn 32 (Vector.replicate 32 0) (w64 (Int.tdiv (r1.1.length : Int) 32)) >>= fun x4 =>
    (iter (wire_ReadIDs_L0 x4) (r1.1, x4, 0)) >>= fun s7 =>
    wire_rising s7 >>= fun r14 =>
    if !r14 then
      some ([], 0, 12)
    else
      some (s7, r1.2.1, 0)
set_option maxRecDepth 100000 in
theorem wire_ReadIDs_ok (a0 : List UInt8) (a1 : Int) : Spec Try.prog 61 [.rd (sliceR u8R) a0, .rd i64R a1] [] (wire_ReadIDs a0 a1) (fun r nv => ⟨[.rd (sliceR (arrR 32 u8R)) r.1, .rd i64R r.2.1, .rd i64R r.2.2], []⟩) := by
  refine spec 45 Try.func61 rfl rfl rfl fun H w => ?_
  refine gSeq <| gReg <| R rfl (asg rfl) <| R rfl (asg rfl) <| R rfl (asg rfl) <| gNil <| eThen <| gSeq <| gReg <| R rfl (mv rfl) <| R rfl (mv rfl) <| call [] [] rfl Try.func107 rfl rfl (wire_part_ok _ _ _) (aQ rfl <| aQ rfl <| aQ rfl <| aN) rN fun r1 n2 => R rfl (mv rfl) <| R rfl (ext rfl rfl) <| R rfl (ext rfl rfl) <| R rfl (ext rfl rfl) <| R rfl (asg rfl) <| R rfl (asg rfl) <| R rfl (asg rfl) <| gNil <| eThen <| gSeq <| gSeq <| gReg <| R rfl (mv rfl) <| R rfl (I.neq rfl rfl) <| gNil <| eThen <| gIf rfl rfl (fun h3 => ?_) (fun h3 => ?_)
  · skip
    refine gSeq <| gReg <| R rfl (mv rfl) <| R rfl (asg rfl) <| R rfl (asg rfl) <| R rfl (asg rfl) <| gNil <| eThen <| gRet <| eTret <| eRdNil (arrR 32 u8R) 4 rfl <| eRet [] [] rfl (eE rfl <| eE rfl <| eE rfl <| eN) (rN)
  · skip
    refine gSkip <| eThen <| gSeq <| gReg <| R rfl (mv rfl) <| R rfl (len' rfl .rd rfl Try.underlying32) <| R rfl (I.quo rfl rfl (by decide)) <| lBind fun x4 h5 => Ef rfl (mks 1 rfl rfl h5 Try.underlying83 ti102 zr101 rfl) fun v6 => R rfl (asg rfl) <| gNil <| eThen <| gMid (fun (s7 : (List (Vector UInt8 32))) aa ww => Sta (ctx 45 H [] w) [(8, .rd i64R r1.2.1), (10, .val v6)] [(1, some (v6, .list (arrR 32 u8R) 102 s7))] aa ww) ?_ (fun s7 => ?_)
    · skip
      refine gSeq <| gReg <| R rfl (mv rfl) <| R rfl (len' rfl (.own 1 rfl) rfl Try.underlying83) <| R rfl (mv rfl) <| gNil <| eThen <| gLoop (fun (s8 : (List UInt8) × (List (Vector UInt8 32)) × Int) aa ww => Sta (ctx 45 H [] w) [(7, .rd (sliceR u8R) s8.1), (8, .rd i64R r1.2.1), (10, .val v6), (27, .rd i64R (x4.length : Int)), (28, .rd i64R s8.2.2)] [(1, some (v6, .list (arrR 32 u8R) 102 s8.2.1))] aa ww) (fun aa ww h => h.sub [1] (sS rfl <| sS rfl <| sS rfl <| sS rfl <| sS rfl <| sN) (rR rfl rfl <| rN)) (fun s8 => ?_)
      refine gSeq <| gReg <| R rfl (I.lss rfl rfl) <| gNil <| eThen <| gSeq <| gIf rfl rfl (fun h9 => ?_) (fun h9 => ?_)
      · skip
        refine gSkip <| eThen <| gSeq <| gBlk <| gSeq <| gReg <| R rfl (mv rfl) <| R rfl (asg rfl) <| gNil <| eThen <| gReg <| R rfl (mv rfl) <| R rfl (mv rfl) <| R rfl (mv rfl) <| lBind fun x10 h11 => R rfl (ixO 1 rfl rfl rfl h11 Try.underlying83 ti102) <| R rfl (cutW 1 rfl rfl (Foc.el h11) Try.underlying102 ti5 rfl) <| R rfl (mv rfl) <| lCpy 1 rfl rfl rfl (Foc.el h11) rfl .rd rfl Try.underlying32 ti5 <| lBind fun x12 h13 => R rfl (cut' rfl (.to rfl) .no h13 Try.underlying32 ti5) <| R rfl (asg rfl) <| gNil <| eBlk <| eThen <| gReg <| R rfl (I.add rfl rfl) <| R rfl (mv rfl) <| gNil <| eNext (fun aa ww h => h.sub [1] (sS rfl <| sS rfl <| sS rfl <| sS rfl <| sS rfl <| sN) (rR rfl rfl <| rN))
      · skip
        refine gExit <| eTexit <| eLeave <| eMid (fun aa ww h => h.sub [1] (sS rfl <| sS rfl <| sN) (rR rfl rfl <| rN))
    · skip
      refine gSeq <| gSeq <| gReg <| R rfl (mv rfl) <| lFrz 1 [10, 40] rfl (fS rfl <| fS rfl <| fN) <| call [] [] rfl Try.func115 rfl rfl (wire_rising_ok _) (aQ rfl <| aN) rN fun r14 n15 => R rfl (not' rfl) <| gNil <| eThen <| gIf rfl rfl (fun h16 => ?_) (fun h16 => ?_)
      · skip
        refine gSeq <| gReg <| R rfl (asg rfl) <| R rfl (asg rfl) <| R rfl (asg rfl) <| gNil <| eThen <| gRet <| eTret <| eRdNil (arrR 32 u8R) 4 rfl <| eRet [] [] rfl (eE rfl <| eE rfl <| eE rfl <| eN) (rN)
      · skip
        refine gSkip <| eThen <| gSeq <| gReg <| R rfl (mv rfl) <| R rfl (mv rfl) <| R rfl (asg rfl) <| R rfl (asg rfl) <| R rfl (asg rfl) <| gNil <| eThen <| gRet <| eRet [] [] rfl (eE rfl <| eE rfl <| eE rfl <| eN) (rN)


def wire_ReadBytes (a0 : List UInt8) (a1 : Int) : Option ((List UInt8) × Int × Int) :=
  wire_part a0 a1 1 >>= fun r1 =>
  bytes_Clone r1.1 >>= fun r3 =>
  some (r3, r1.2.1, r1.2.2)
set_option maxRecDepth 100000 in
theorem wire_ReadBytes_ok (a0 : List UInt8) (a1 : Int) : Spec Try.prog 48 [.rd (sliceR u8R) a0, .rd i64R a1] [] (wire_ReadBytes a0 a1) (fun r nv => ⟨[.val (nv 0), .rd i64R r.2.1, .rd i64R r.2.2], [(100, some (nv 0, .list u8R 5 r.1))]⟩) := by
  refine spec 21 Try.func48 rfl rfl rfl fun H w => ?_
  refine gSeq <| gReg <| R rfl (asg rfl) <| R rfl (asg rfl) <| R rfl (asg rfl) <| gNil <| eThen <| gSeq <| gReg <| R rfl (mv rfl) <| R rfl (mv rfl) <| call [] [] rfl Try.func107 rfl rfl (wire_part_ok _ _ _) (aQ rfl <| aQ rfl <| aQ rfl <| aN) rN fun r1 n2 => R rfl (mv rfl) <| R rfl (ext rfl rfl) <| R rfl (ext rfl rfl) <| R rfl (ext rfl rfl) <| R rfl (asg rfl) <| R rfl (asg rfl) <| R rfl (asg rfl) <| gNil <| eThen <| gSeq <| gReg <| R rfl (mv rfl) <| call [] [(100, 1)] rfl Try.func108 rfl rfl (bytes_Clone_ok _) (aQ rfl <| aN) rN fun r3 n4 => R rfl (mv rfl) <| R rfl (mv rfl) <| R rfl (asg rfl) <| R rfl (asg rfl) <| R rfl (asg rfl) <| gNil <| eThen <| gRet <| eRet [(n4 0)] [1] rfl (eE rfl <| eE rfl <| eE rfl <| eN) (rR rfl rfl <| rN)

def frame_read_L1 (a0 : UInt8) (s16 : (List UInt8) × (List (List UInt8)) × UInt64) : Option (Sum (Sum (api_Frame × Int) (UInt64 × (List (Vector UInt8 32)) × (List (List UInt8)) × Int)) ((List UInt8) × (List (List UInt8)) × UInt64)) :=
  if decide (0 < s16.2.2) then
    wire_ReadBytes s16.1 400 >>= fun r19 =>
    if r19.2.2 != 0 then
      some (.inl (.inl ((⟨a0, 0, [], s16.2.1⟩ : api_Frame), r19.2.2)))
    else
      cut s16.1 r19.2.1 (s16.1.length : Int) >>= fun x22 =>
      app 24 s16.2.1 [r19.1] >>= fun x25 =>
      some (.inr (x22, x25, s16.2.2 - 1))
  else
    some (.inl (.inr (0, [], s16.2.1, 0)))
def frame_read (a0 : UInt8) (a1 : List UInt8) : Option (api_Frame × Int) :=
  orRet (frame_listed a0 >>= fun r3 =>
  if r3 then
    wire_ReadIDs a1 40 >>= fun r6 =>
    some (.inr (0, r6.1, [], r6.2.2))
  else
    if a0 == 5 then
      wire_ReadNumber a1 >>= fun r9 =>
      (if r9.2.2 != 0 then
        some true
      else
        some (decide (8 < r9.1))) >>= fun s11 =>
      if s11 then
        some (.inl ((⟨a0, 0, [], []⟩ : api_Frame), 12))
      else
        cut a1 r9.2.1 (a1.length : Int) >>= fun x14 =>
        iter (frame_read_L1 a0) (x14, [], r9.1)
    else
      wire_ReadNumber a1 >>= fun r32 =>
      some (.inr (r32.1, [], [], r32.2.2))) fun s2 =>
  some ((⟨a0, s2.1, s2.2.1, s2.2.2.1⟩ : api_Frame), s2.2.2.2)
set_option maxRecDepth 100000 in
theorem frame_read_ok (a0 : UInt8) (a1 : List UInt8) : Spec Try.prog 125 [.rd u8R a0, .rd (sliceR u8R) a1] [] (frame_read a0 a1) (fun r nv => ⟨[.rd R_api_Frame r.1, .rd i64R r.2], []⟩) := by
  refine spec 75 Try.func125 rfl rfl rfl fun H w => ?_
  refine gSeq <| gReg <| Eb rfl (allc 1 ti105 (ZrE.rd (R := u8R) (x := 0) (Zr.num rfl) (ZrE.rd (R := u64R) (x := 0) (Zr.num rfl) (ZrE.nilS (ZrE.nilS ZrE.nil)) rfl) rfl)) fun v1 => R rfl (asg rfl) <| gNil <| eThen <| gSeq <| gReg <| R rfl (mv rfl) <| R rfl (faB 1 rfl rfl Try.underlying105 rfl (by exact ti5)) <| Es (sto 1 rfl rfl (Foc.cast Foc.here rfl) rfl ti5) <| gNil <| eThen <| gMidR (fun (s2 : UInt64 × (List (Vector UInt8 32)) × (List (List UInt8)) × Int) aa ww => ∃ nv : Nat → Value, Sta (ctx 75 H [] w) [(4, .val (ptrTo v1 0)), (5, .rd i64R s2.2.2.2)] [(15, some ((nv 0), .list (sliceR u8R) 32 s2.2.2.1)), (1, some (v1, .box 105 [.rd u8R a0, .rd u64R s2.1, .rd (sliceR (arrR 32 u8R)) s2.2.1, .val (nv 0)]))] aa ww) ?_ (fun s2 => ?_)
  · skip
    refine gBlk <| gSeq <| gReg <| R rfl (mv rfl) <| call [] [] rfl Try.func121 rfl rfl (frame_listed_ok _) (aQ rfl <| aN) rN fun r3 n4 => R rfl (asg rfl) <| gNil <| eThen <| gIf rfl rfl (fun h5 => ?_) (fun h5 => ?_)
    · skip
      refine gKn 23 rfl h5 <| gReg <| R rfl (mv rfl) <| call [] [] rfl Try.func61 rfl rfl (wire_ReadIDs_ok _ _) (aQ rfl <| aQ rfl <| aN) rN fun r6 n7 => R rfl (mv rfl) <| R rfl (ext rfl rfl) <| R rfl (ext rfl rfl) <| R rfl (ext rfl rfl) <| R rfl (faB 1 rfl rfl Try.underlying105 rfl (by exact ti83)) <| Es (stoE 1 rfl rfl (Swap.cast (Swap.next fills_rd (Swap.next fills_rd (Swap.here fills_val))) rfl) rfl ones_rd fills_rd ti83) <| R rfl (asg rfl) <| gNil <| eBlk <| eNew (sliceR u8R) 32 16 <| eMidR (fun aa ww h => ⟨nvl [(.slice none 0 0)], h.sub [16, 1] (sS rfl <| sS rfl <| sN) (rR rfl rfl <| rR rfl rfl <| rN)⟩)
    · skip
      refine gKn 23 rfl h5 <| gSeq <| gReg <| R rfl (mv rfl) <| R rfl (B.eql rfl rfl) <| R rfl (asg rfl) <| gNil <| eThen <| gIf rfl rfl (fun h8 => ?_) (fun h8 => ?_)
      · skip
        refine gKn 33 rfl h8 <| gSeq <| gReg <| R rfl (mv rfl) <| call [] [] rfl Try.func26 rfl rfl (wire_ReadNumber_ok _) (aQ rfl <| aN) rN fun r9 n10 => R rfl (mv rfl) <| R rfl (ext rfl rfl) <| R rfl (ext rfl rfl) <| R rfl (ext rfl rfl) <| R rfl (asg rfl) <| R rfl (asg rfl) <| R rfl (asg rfl) <| gNil <| eThen <| gSeq <| gMid (fun (s11 : Bool) aa ww => Sta (ctx 75 H [] w) [(1, .rd (sliceR u8R) a1), (4, .val (ptrTo v1 0)), (5, .rd i64R 0), (6, .rd u64R r9.1), (7, .rd i64R r9.2.1), (45, .rd boolR s11)] [(1, some (v1, .box 105 [.rd u8R a0, .rd u64R 0, .val (.slice none 0 0), .val (.slice none 0 0)]))] aa ww) ?_ (fun s11 => ?_)
        · skip
          refine gReg <| R rfl (mv rfl) <| R rfl (I.neq rfl rfl) <| R rfl (mv rfl) <| lSplit 42 rfl (fun h12 => ?_) (fun h12 => ?_)
          · skip
            refine lKn 41 rfl h12 <| lSkip (gd rfl rfl rfl rfl) rfl rfl <| lSkip (gd rfl rfl rfl rfl) rfl rfl <| R rfl (pkT rfl rfl) <| gNil <| eMid (fun aa ww h => h.sub [1] (sS rfl <| sS rfl <| sS rfl <| sS rfl <| sS rfl <| sS rfl <| sN) (rR rfl rfl <| rN))
          · skip
            refine lKn 41 rfl h12 <| lRun (gd rfl rfl rfl rfl) rfl rfl (mv rfl) <| lRun (gd rfl rfl rfl rfl) rfl rfl (U.gtr rfl rfl) <| R rfl (pkF rfl rfl) <| gNil <| eMid (fun aa ww h => h.sub [1] (sS rfl <| sS rfl <| sS rfl <| sS rfl <| sS rfl <| sS rfl <| sN) (rR rfl rfl <| rN))
        · skip
          refine gIf rfl rfl (fun h13 => ?_) (fun h13 => ?_)
          · skip
            refine gSeq <| gReg <| lPnl (arrR 32 u8R) [.rd u8R a0, .rd u64R 0, .rd (sliceR (arrR 32 u8R)) [], .val (.slice none 0 0)] 1 [.rd u8R a0, .rd u64R 0] [.val (.slice none 0 0)] rfl rfl rfl <| lPnl (sliceR u8R) [.rd u8R a0, .rd u64R 0, .rd (sliceR (arrR 32 u8R)) [], .rd (sliceR (sliceR u8R)) []] 1 [.rd u8R a0, .rd u64R 0, .rd (sliceR (arrR 32 u8R)) []] [] rfl rfl rfl <| lJoi (R := R_api_Frame) (⟨a0, 0, [], []⟩ : api_Frame) 1 rfl (Sp.via (Sp.prod (Sp.prod (Sp.prod (Sp.prod Sp.unit))))) <| R rfl (ld 1 rfl rfl Foc.here ty105 rfl) <| Es (sto 1 rfl rfl Foc.here rfl ti105) <| R rfl (asg rfl) <| gNil <| eThen <| gRet <| eTret <| eBret <| eMret <| eRet [] [] rfl (eC 1 rfl rfl ty105 <| eE rfl <| eN) (rN)
          · skip
            refine gSkip <| eThen <| gSeq <| gReg <| R rfl (mv rfl) <| R rfl (mv rfl) <| lBind fun x14 h15 => R rfl (cut' rfl (.to rfl) .no h15 Try.underlying32 ti5) <| R rfl (asg rfl) <| gNil <| eThen <| gNew (sliceR u8R) 32 31 <| gLoop (fun (s16 : (List UInt8) × (List (List UInt8)) × UInt64) aa ww => ∃ nv : Nat → Value, Sta (ctx 75 H [] w) [(1, .rd (sliceR u8R) s16.1), (4, .val (ptrTo v1 0)), (5, .rd i64R 0), (6, .rd u64R s16.2.2)] [(30, some ((nv 0), .list (sliceR u8R) 32 s16.2.1)), (1, some (v1, .box 105 [.rd u8R a0, .rd u64R 0, .val (.slice none 0 0), .val (nv 0)]))] aa ww) (fun aa ww h => ⟨nvl [(.slice none 0 0)], h.sub [31, 1] (sS rfl <| sS rfl <| sS rfl <| sS rfl <| sN) (rR rfl rfl <| rR rfl rfl <| rN)⟩) (fun s16 => ?_)
            refine gEx fun n17 => gSeq <| gSeq <| gReg <| R rfl (mv rfl) <| R rfl (U.gtr rfl rfl) <| gNil <| eThen <| gIf rfl rfl (fun h18 => ?_) (fun h18 => ?_)
            · skip
              refine gSkip <| eThen <| gSeq <| gBlk <| gSeq <| gReg <| R rfl (mv rfl) <| call [] [(100, 32)] rfl Try.func48 rfl rfl (wire_ReadBytes_ok _ _) (aQ rfl <| aQ rfl <| aN) rN fun r19 n20 => R rfl (mv rfl) <| R rfl (ext rfl rfl) <| R rfl (ext rfl rfl) <| R rfl (ext rfl rfl) <| R rfl (asg rfl) <| R rfl (asg rfl) <| R rfl (asg rfl) <| gNil <| eThen <| gSeq <| gSeq <| gReg <| R rfl (mv rfl) <| R rfl (I.neq rfl rfl) <| gNil <| eThen <| gIf rfl rfl (fun h21 => ?_) (fun h21 => ?_)
              · skip
                refine gSeq <| gReg <| lPnl (arrR 32 u8R) [.rd u8R a0, .rd u64R 0, .rd (sliceR (arrR 32 u8R)) [], .val (n17 0)] 1 [.rd u8R a0, .rd u64R 0] [.val (n17 0)] rfl rfl rfl <| lPow [.rd u8R a0, .rd u64R 0, .rd (sliceR (arrR 32 u8R)) [], .rd (sliceR (sliceR u8R)) s16.2.1] 1 30 [.rd u8R a0, .rd u64R 0, .rd (sliceR (arrR 32 u8R)) []] [] rfl rfl rfl rfl rfl <| lJoi (R := R_api_Frame) (⟨a0, 0, [], s16.2.1⟩ : api_Frame) 1 rfl (Sp.via (Sp.prod (Sp.prod (Sp.prod (Sp.prod Sp.unit))))) <| R rfl (ld 1 rfl rfl Foc.here ty105 rfl) <| R rfl (mv rfl) <| Es (sto 1 rfl rfl Foc.here rfl ti105) <| R rfl (asg rfl) <| gNil <| eThen <| gRet <| eTret <| eBret <| eTret <| eLret <| eBret <| eMret <| eRet [] [] rfl (eC 1 rfl rfl ty105 <| eE rfl <| eN) (rN)
              · skip
                refine gSkip <| eThen <| gRegH [1, 30, 42] mixed rfl rfl <| hTake 0 rfl (by kernel_rfl) (by kernel_rfl) (by kernel_rfl) (gd0 rfl) rfl rfl (faB 1 rfl rfl Try.underlying105 rfl (by exact ti103)) <| hTake 2 rfl (by kernel_rfl) (by kernel_rfl) (by kernel_rfl) (gd0 rfl) rfl rfl (mv rfl) <| hTake 5 rfl (by kernel_rfl) (by kernel_rfl) (by kernel_rfl) (gd0 rfl) rfl rfl (mv rfl) <| hTake 6 rfl (by kernel_rfl) (by kernel_rfl) (by kernel_rfl) (gd0 rfl) rfl rfl (mv rfl) <| hBind fun x22 h23 => hTake 7 rfl (by kernel_rfl) (by kernel_rfl) (by kernel_rfl) (gd0 rfl) rfl rfl (cut' rfl (.to rfl) .no h23 Try.underlying32 ti5) <| hAlt [1, 3] (by kernel_rfl) rfl ⟨?_, ?_, trivial⟩
                · skip
                  refine oRun 1 rfl (gd0 rfl) rfl rfl flat_val (ldV 1 rfl rfl (At.cast (At.next fills_rd (At.next fills_rd (At.next fills_val At.here))) rfl) sc103 rfl) <| hFrz 32 [57, 9, 66] rfl (fS rfl <| fS rfl <| fS rfl <| fN) <| hDo 3 rfl (by kernel_rfl) (gd0 rfl) rfl rfl rfl (lit (R := (sliceR u8R)) ([r19.1] : List (List UInt8)) 42 (pP rfl rfl <| pN) rfl Try.underlying103 ti32 rfl rfl) (fun _ => rfl) fun v24 => hFrz 42 [67] rfl (fS rfl <| fN) <| hBind fun x25 h26 => hDo 4 rfl (by kernel_rfl) (gd0 rfl) rfl rfl rfl (apn 30 rfl rfl rfl .rd h26 Try.underlying103 ti32 rfl rfl rfl) (fun _ => rfl) fun v27 => hTake 8 rfl (by kernel_rfl) (by kernel_rfl) (by kernel_rfl) (gd0 rfl) rfl rfl (faB 1 rfl rfl Try.underlying105 rfl (by exact ti103)) <| hDoS 9 rfl (by kernel_rfl) (gd0 rfl) rfl rfl rfl rfl (stoE 1 rfl rfl (Swap.cast (Swap.next fills_rd (Swap.next fills_rd (Swap.next fills_val (Swap.here fills_val)))) rfl) rfl ones_val fills_val ti103) <| hTake 10 rfl (by kernel_rfl) (by kernel_rfl) (by kernel_rfl) (gd0 rfl) rfl rfl (asg rfl) <| hDone (by kernel_rfl) <| eBlk <| eThen <| gReg <| R rfl (mv rfl) <| R rfl (U.sub rfl rfl) <| R rfl (asg rfl) <| gNil <| eNext (fun aa ww h => ⟨nvl [v27], h.sub [30, 1] (sS rfl <| sS rfl <| sS rfl <| sS rfl <| sN) (rR rfl rfl <| rR rfl rfl <| rN)⟩)
                · skip
                  refine oFrz 32 [57, 9, 66] rfl (fS rfl <| fS rfl <| fS rfl <| fN) <| oDo 3 rfl (gd0 rfl) rfl rfl rfl (lit (R := (sliceR u8R)) ([r19.1] : List (List UInt8)) 42 (pP rfl rfl <| pN) rfl Try.underlying103 ti32 rfl rfl) (fun _ => rfl) fun v28 => hRun 1 rfl (by kernel_rfl) (gd0 rfl) rfl rfl flat_val (ldV 1 rfl rfl (At.cast (At.next fills_rd (At.next fills_rd (At.next fills_val At.here))) rfl) sc103 rfl) <| hFrz 42 [67] rfl (fS rfl <| fN) <| hBind fun x29 h30 => hDo 4 rfl (by kernel_rfl) (gd0 rfl) rfl rfl rfl (apn 30 rfl rfl rfl .rd h30 Try.underlying103 ti32 rfl rfl rfl) (fun _ => rfl) fun v31 => hTake 8 rfl (by kernel_rfl) (by kernel_rfl) (by kernel_rfl) (gd0 rfl) rfl rfl (faB 1 rfl rfl Try.underlying105 rfl (by exact ti103)) <| hDoS 9 rfl (by kernel_rfl) (gd0 rfl) rfl rfl rfl rfl (stoE 1 rfl rfl (Swap.cast (Swap.next fills_rd (Swap.next fills_rd (Swap.next fills_val (Swap.here fills_val)))) rfl) rfl ones_val fills_val ti103) <| hTake 10 rfl (by kernel_rfl) (by kernel_rfl) (by kernel_rfl) (gd0 rfl) rfl rfl (asg rfl) <| hDone (by kernel_rfl) <| eBlk <| eThen <| gReg <| R rfl (mv rfl) <| R rfl (U.sub rfl rfl) <| R rfl (asg rfl) <| gNil <| eNext (fun aa ww h => ⟨nvl [v31], h.sub [30, 1] (sS rfl <| sS rfl <| sS rfl <| sS rfl <| sN) (rR rfl rfl <| rR rfl rfl <| rN)⟩)
            · skip
              refine gExit <| eTexit <| eLeave <| eBlk <| ePnl (arrR 32 u8R) [.rd u8R a0, .rd u64R 0, .rd (sliceR (arrR 32 u8R)) [], .val (n17 0)] 1 [.rd u8R a0, .rd u64R 0] [.val (n17 0)] rfl rfl rfl <| eMidR (fun aa ww h => ⟨nvl [(n17 0)], h.sub [30, 1] (sS rfl <| sS rfl <| sN) (rR rfl rfl <| rR rfl rfl <| rN)⟩)
      · skip
        refine gKn 33 rfl h8 <| gReg <| R rfl (mv rfl) <| call [] [] rfl Try.func26 rfl rfl (wire_ReadNumber_ok _) (aQ rfl <| aN) rN fun r32 n33 => R rfl (mv rfl) <| R rfl (ext rfl rfl) <| R rfl (ext rfl rfl) <| R rfl (ext rfl rfl) <| R rfl (faB 1 rfl rfl Try.underlying105 rfl (by exact ti31)) <| Es (sto 1 rfl rfl (Foc.cast (Foc.next fills_rd Foc.here) rfl) rfl ti31) <| R rfl (asg rfl) <| gNil <| eBlk <| ePnl (arrR 32 u8R) [.rd u8R a0, .rd u64R r32.1, .rd (sliceR (arrR 32 u8R)) [], .val (.slice none 0 0)] 1 [.rd u8R a0, .rd u64R r32.1] [.val (.slice none 0 0)] rfl rfl rfl <| eNew (sliceR u8R) 32 69 <| eMidR (fun aa ww h => ⟨nvl [(.slice none 0 0)], h.sub [69, 1] (sS rfl <| sS rfl <| sN) (rR rfl rfl <| rR rfl rfl <| rN)⟩)
  · skip
    refine gEx fun n34 => gSeq <| gReg <| lPow [.rd u8R a0, .rd u64R s2.1, .rd (sliceR (arrR 32 u8R)) s2.2.1, .rd (sliceR (sliceR u8R)) s2.2.2.1] 1 15 [.rd u8R a0, .rd u64R s2.1, .rd (sliceR (arrR 32 u8R)) s2.2.1] [] rfl rfl rfl rfl rfl <| lJoi (R := R_api_Frame) (⟨a0, s2.1, s2.2.1, s2.2.2.1⟩ : api_Frame) 1 rfl (Sp.via (Sp.prod (Sp.prod (Sp.prod (Sp.prod Sp.unit))))) <| R rfl (ld 1 rfl rfl Foc.here ty105 rfl) <| R rfl (mv rfl) <| Es (sto 1 rfl rfl Foc.here rfl ti105) <| R rfl (asg rfl) <| gNil <| eThen <| gRet <| eRet [] [] rfl (eC 1 rfl rfl ty105 <| eE rfl <| eN) (rN)


def bytes_Equal (a0 : List UInt8) (a1 : List UInt8) : Option (Bool) :=
  some (a0 == a1)
set_option maxRecDepth 100000 in
theorem bytes_Equal_ok (a0 : List UInt8) (a1 : List UInt8) : Spec Try.prog 126 [.rd (sliceR u8R) a0, .rd (sliceR u8R) a1] [] (bytes_Equal a0 a1) (fun r nv => ⟨[.rd boolR r], []⟩) := by
  refine spec 10 Try.func126 rfl rfl rfl fun H w => ?_
  refine gSeq <| gReg <| R rfl (asg rfl) <| gNil <| eThen <| gSeq <| gReg <| R rfl (mv rfl) <| R rfl (cvBS rfl Try.underlying32 Try.underlying5 Try.underlying9) <| R rfl (mv rfl) <| R rfl (cvBS rfl Try.underlying32 Try.underlying5 Try.underlying9) <| R rfl (eqS rfl rfl) <| R rfl (asg rfl) <| gNil <| eThen <| gRet <| eRet [] [] rfl (eE rfl <| eN) (rN)


def frame_Parse (a0 : List UInt8) : Option (api_Frame × Int) :=
  (if (a0.length : Int) == 0 then
    some true
  else
    some (decide (2000 < (a0.length : Int)))) >>= fun s2 =>
  if s2 then
    some ((⟨0, 0, [], []⟩ : api_Frame), 12)
  else
    (idx a0 0 >>= fun x6 =>
    cut a0 1 (a0.length : Int) >>= fun x8 =>
    frame_read x6 x8 >>= fun r10 =>
    some (r10.1, r10.2)) >>= fun s5 =>
    if s5.2 != 0 then
      some ((⟨0, 0, [], []⟩ : api_Frame), 12)
    else
      frame_write s5.1 >>= fun r18 =>
      (if !r18.2 then
        some true
      else
        bytes_Equal r18.1 a0 >>= fun r22 =>
        some (!r22)) >>= fun s20 =>
      if s20 then
        some ((⟨0, 0, [], []⟩ : api_Frame), 12)
      else
        some (s5.1, 0)
set_option maxRecDepth 100000 in
theorem frame_Parse_ok (a0 : List UInt8) : Spec Try.prog 79 [.rd (sliceR u8R) a0] [] (frame_Parse a0) (fun r nv => ⟨[.rd R_api_Frame r.1, .rd i64R r.2], []⟩) := by
  refine spec 44 Try.func79 rfl rfl rfl fun H w => ?_
  refine gSeq <| gReg <| Eb rfl (allc 1 ti105 (ZrE.rd (R := u8R) (x := 0) (Zr.num rfl) (ZrE.rd (R := u64R) (x := 0) (Zr.num rfl) (ZrE.nilS (ZrE.nilS ZrE.nil)) rfl) rfl)) fun v1 => R rfl (asg rfl) <| gNil <| eThen <| gSeq <| gMid (fun (s2 : Bool) aa ww => Sta (ctx 44 H [] w) [(0, .rd (sliceR u8R) a0), (2, .val (ptrTo v1 0)), (15, .rd boolR s2)] [(1, some (v1, .box 105 [.rd u8R 0, .rd u64R 0, .val (.slice none 0 0), .val (.slice none 0 0)]))] aa ww) ?_ (fun s2 => ?_)
  · skip
    refine gReg <| R rfl (mv rfl) <| R rfl (len' rfl .rd rfl Try.underlying32) <| R rfl (I.eql rfl rfl) <| R rfl (mv rfl) <| lSplit 11 rfl (fun h3 => ?_) (fun h3 => ?_)
    · skip
      refine lKn 10 rfl h3 <| lSkip (gd rfl rfl rfl rfl) rfl rfl <| lSkip (gd rfl rfl rfl rfl) rfl rfl <| lSkip (gd rfl rfl rfl rfl) rfl rfl <| R rfl (pkT rfl rfl) <| gNil <| eMid (fun aa ww h => h.sub [1] (sS rfl <| sS rfl <| sS rfl <| sN) (rR rfl rfl <| rN))
    · skip
      refine lKn 10 rfl h3 <| lRun (gd rfl rfl rfl rfl) rfl rfl (mv rfl) <| lRun (gd rfl rfl rfl rfl) rfl rfl (len' rfl .rd rfl Try.underlying32) <| lRun (gd rfl rfl rfl rfl) rfl rfl (I.gtr rfl rfl) <| R rfl (pkF rfl rfl) <| gNil <| eMid (fun aa ww h => h.sub [1] (sS rfl <| sS rfl <| sS rfl <| sN) (rR rfl rfl <| rN))
  · skip
    refine gIf rfl rfl (fun h4 => ?_) (fun h4 => ?_)
    · skip
      refine gSeq <| gReg <| R rfl (bldE [(0, 1), (1, 1), (2, 1), (3, 1)] Try.underlying105 ti105 (ZrE.rd (R := u8R) (x := 0) (Zr.num rfl) (ZrE.rd (R := u64R) (x := 0) (Zr.num rfl) (ZrE.nilS (ZrE.nilS ZrE.nil)) rfl) rfl) rfl (BldE.done rfl)) <| Es (stoG 1 rfl rfl (fillsL.cast (fillsL.cons fills_rd (fillsL.cons fills_rd (fillsL.cons fills_val (fillsL.cons fills_val fillsL.nil)))) rfl) rfl (onesL.cons ones_rd (onesL.cons ones_rd (onesL.cons ones_val (onesL.cons ones_val onesL.nil)))) (fillsL.cast (fillsL.cons fills_rd (fillsL.cons fills_rd (fillsL.cons fills_val (fillsL.cons fills_val fillsL.nil)))) rfl) ti105) <| R rfl (asg rfl) <| gNil <| eThen <| gRet <| eTret <| ePnl (arrR 32 u8R) [.rd u8R 0, .rd u64R 0, .rd (sliceR (arrR 32 u8R)) [], .val (.slice none 0 0)] 1 [.rd u8R 0, .rd u64R 0] [.val (.slice none 0 0)] rfl rfl rfl <| ePnl (sliceR u8R) [.rd u8R 0, .rd u64R 0, .rd (sliceR (arrR 32 u8R)) [], .rd (sliceR (sliceR u8R)) []] 1 [.rd u8R 0, .rd u64R 0, .rd (sliceR (arrR 32 u8R)) []] [] rfl rfl rfl <| eJoi (R := R_api_Frame) (⟨0, 0, [], []⟩ : api_Frame) 1 rfl (Sp.via (Sp.prod (Sp.prod (Sp.prod (Sp.prod Sp.unit))))) <| eRet [] [] rfl (eC 1 rfl rfl ty105 <| eE rfl <| eN) (rN)
    · skip
      refine gSkip <| eThen <| gMid (fun (s5 : api_Frame × Int) aa ww => ∃ nv : Nat → Value, Sta (ctx 44 H [] w) [(0, .rd (sliceR u8R) a0), (2, .val (ptrTo v1 0)), (4, .val (ptrTo (nv 0) 0)), (5, .rd i64R s5.2)] [(1, some (v1, .box 105 [.rd u8R 0, .rd u64R 0, .val (.slice none 0 0), .val (.slice none 0 0)])), (29, some ((nv 0), .box 105 [.rd R_api_Frame s5.1]))] aa ww) ?_ (fun s5 => ?_)
      · skip
        refine gRegH [57] mixed rfl rfl <| hTake 0 rfl (by kernel_rfl) (by kernel_rfl) (by kernel_rfl) (gd0 rfl) rfl rfl (mv rfl) <| hBind fun x6 h7 => hTake 1 rfl (by kernel_rfl) (by kernel_rfl) (by kernel_rfl) (gd0 rfl) rfl rfl (ixR rfl rfl h7 Try.underlying32 ti5 rfl) <| hTake 2 rfl (by kernel_rfl) (by kernel_rfl) (by kernel_rfl) (gd0 rfl) rfl rfl (ldR rfl ty5) <| hTake 3 rfl (by kernel_rfl) (by kernel_rfl) (by kernel_rfl) (gd0 rfl) rfl rfl (mv rfl) <| hBind fun x8 h9 => hTake 4 rfl (by kernel_rfl) (by kernel_rfl) (by kernel_rfl) (gd0 rfl) rfl rfl (cut' rfl (.to rfl) .no h9 Try.underlying32 ti5) <| hAlt [5, 9] (by kernel_rfl) rfl ⟨?_, ?_, trivial⟩
        · skip
          refine oCallJ 5 [] [] rfl rfl (gd0 rfl) rfl Try.func125 rfl rfl (frame_read_ok _ _) (aQ rfl <| aQ rfl <| aN) rN rfl fun r10 n11 => hTakeP 6 rfl (by kernel_rfl) (by kernel_rfl) (by kernel_rfl) (gd0 rfl) rfl rfl (mv rfl) <| hTakeP 7 rfl (by kernel_rfl) (by kernel_rfl) (by kernel_rfl) (gd0 rfl) rfl rfl (ext rfl rfl) <| hTakeF 8 rfl (by kernel_rfl) (by kernel_rfl) (by kernel_rfl) (gd0 rfl) rfl rfl flat_num (ext rfl rfl) <| hDoB 9 rfl (by kernel_rfl) (gd0 rfl) rfl rfl rfl (allc 57 ti105 (ZrE.rd (R := u8R) (x := 0) (Zr.num rfl) (ZrE.rd (R := u64R) (x := 0) (Zr.num rfl) (ZrE.nilS (ZrE.nilS ZrE.nil)) rfl) rfl)) fun v12 => hPnl (arrR 32 u8R) [.rd u8R 0, .rd u64R 0, .rd (sliceR (arrR 32 u8R)) [], .val (.slice none 0 0)] 57 [.rd u8R 0, .rd u64R 0] [.val (.slice none 0 0)] rfl rfl rfl <| hPnl (sliceR u8R) [.rd u8R 0, .rd u64R 0, .rd (sliceR (arrR 32 u8R)) [], .rd (sliceR (sliceR u8R)) []] 57 [.rd u8R 0, .rd u64R 0, .rd (sliceR (arrR 32 u8R)) []] [] rfl rfl rfl <| hJoi (R := R_api_Frame) (⟨0, 0, [], []⟩ : api_Frame) 57 rfl (Sp.via (Sp.prod (Sp.prod (Sp.prod (Sp.prod Sp.unit))))) <| hDoS 10 rfl (by kernel_rfl) (gd0 rfl) rfl rfl rfl rfl (sto 57 rfl rfl Foc.here rfl ti105) <| hTake 11 rfl (by kernel_rfl) (by kernel_rfl) (by kernel_rfl) (gd0 rfl) rfl rfl (asg rfl) <| hDone (by kernel_rfl) <| eMid (fun aa ww h => ⟨nvl [v12], h.sub [1, 57] (sS rfl <| sS rfl <| sS rfl <| sS rfl <| sN) (rR rfl rfl <| rR rfl rfl <| rN)⟩)
        · skip
          refine oDoB 9 rfl (gd0 rfl) rfl rfl rfl (allc 57 ti105 (ZrE.rd (R := u8R) (x := 0) (Zr.num rfl) (ZrE.rd (R := u64R) (x := 0) (Zr.num rfl) (ZrE.nilS (ZrE.nilS ZrE.nil)) rfl) rfl)) fun v13 => hCallJ 5 [] [] rfl (by kernel_rfl) rfl (gd0 rfl) rfl Try.func125 rfl rfl (frame_read_ok _ _) (aQ rfl <| aQ rfl <| aN) rN rfl fun r14 n15 => hTakeP 6 rfl (by kernel_rfl) (by kernel_rfl) (by kernel_rfl) (gd0 rfl) rfl rfl (mv rfl) <| hTakeP 7 rfl (by kernel_rfl) (by kernel_rfl) (by kernel_rfl) (gd0 rfl) rfl rfl (ext rfl rfl) <| hTakeF 8 rfl (by kernel_rfl) (by kernel_rfl) (by kernel_rfl) (gd0 rfl) rfl rfl flat_num (ext rfl rfl) <| hPnl (arrR 32 u8R) [.rd u8R 0, .rd u64R 0, .rd (sliceR (arrR 32 u8R)) [], .val (.slice none 0 0)] 57 [.rd u8R 0, .rd u64R 0] [.val (.slice none 0 0)] rfl rfl rfl <| hPnl (sliceR u8R) [.rd u8R 0, .rd u64R 0, .rd (sliceR (arrR 32 u8R)) [], .rd (sliceR (sliceR u8R)) []] 57 [.rd u8R 0, .rd u64R 0, .rd (sliceR (arrR 32 u8R)) []] [] rfl rfl rfl <| hJoi (R := R_api_Frame) (⟨0, 0, [], []⟩ : api_Frame) 57 rfl (Sp.via (Sp.prod (Sp.prod (Sp.prod (Sp.prod Sp.unit))))) <| hDoS 10 rfl (by kernel_rfl) (gd0 rfl) rfl rfl rfl rfl (sto 57 rfl rfl Foc.here rfl ti105) <| hTake 11 rfl (by kernel_rfl) (by kernel_rfl) (by kernel_rfl) (gd0 rfl) rfl rfl (asg rfl) <| hDone (by kernel_rfl) <| eMid (fun aa ww h => ⟨nvl [v13], h.sub [1, 57] (sS rfl <| sS rfl <| sS rfl <| sS rfl <| sN) (rR rfl rfl <| rR rfl rfl <| rN)⟩)
      · skip
        refine gEx fun n16 => gSeq <| gSeq <| gReg <| R rfl (mv rfl) <| R rfl (I.neq rfl rfl) <| gNil <| eThen <| gIf rfl rfl (fun h17 => ?_) (fun h17 => ?_)
        · skip
          refine gSeq <| gReg <| R rfl (bldE [(0, 1), (1, 1), (2, 1), (3, 1)] Try.underlying105 ti105 (ZrE.rd (R := u8R) (x := 0) (Zr.num rfl) (ZrE.rd (R := u64R) (x := 0) (Zr.num rfl) (ZrE.nilS (ZrE.nilS ZrE.nil)) rfl) rfl) rfl (BldE.done rfl)) <| Es (stoG 1 rfl rfl (fillsL.cast (fillsL.cons fills_rd (fillsL.cons fills_rd (fillsL.cons fills_val (fillsL.cons fills_val fillsL.nil)))) rfl) rfl (onesL.cons ones_rd (onesL.cons ones_rd (onesL.cons ones_val (onesL.cons ones_val onesL.nil)))) (fillsL.cast (fillsL.cons fills_rd (fillsL.cons fills_rd (fillsL.cons fills_val (fillsL.cons fills_val fillsL.nil)))) rfl) ti105) <| R rfl (asg rfl) <| gNil <| eThen <| gRet <| eTret <| ePnl (arrR 32 u8R) [.rd u8R 0, .rd u64R 0, .rd (sliceR (arrR 32 u8R)) [], .val (.slice none 0 0)] 1 [.rd u8R 0, .rd u64R 0] [.val (.slice none 0 0)] rfl rfl rfl <| ePnl (sliceR u8R) [.rd u8R 0, .rd u64R 0, .rd (sliceR (arrR 32 u8R)) [], .rd (sliceR (sliceR u8R)) []] 1 [.rd u8R 0, .rd u64R 0, .rd (sliceR (arrR 32 u8R)) []] [] rfl rfl rfl <| eJoi (R := R_api_Frame) (⟨0, 0, [], []⟩ : api_Frame) 1 rfl (Sp.via (Sp.prod (Sp.prod (Sp.prod (Sp.prod Sp.unit))))) <| eRet [] [] rfl (eC 1 rfl rfl ty105 <| eE rfl <| eN) (rN)
        · skip
          refine gSkip <| eThen <| gSeq <| gSeq <| gReg <| R rfl (ld 29 rfl rfl Foc.here ty105 rfl) <| call [] [(100, 69)] rfl Try.func119 rfl rfl (frame_write_ok _) (aQ rfl <| aN) rN fun r18 n19 => R rfl (mv rfl) <| R rfl (ext rfl rfl) <| R rfl (ext rfl rfl) <| R rfl (asg rfl) <| R rfl (asg rfl) <| gNil <| eThen <| gMid (fun (s20 : Bool) aa ww => Sta (ctx 44 H [] w) [(2, .val (ptrTo v1 0)), (4, .val (ptrTo (n16 0) 0)), (41, .rd boolR s20)] [(1, some (v1, .box 105 [.rd u8R 0, .rd u64R 0, .val (.slice none 0 0), .val (.slice none 0 0)])), (29, some ((n16 0), .box 105 [.rd R_api_Frame s5.1]))] aa ww) ?_ (fun s20 => ?_)
          · skip
            refine gReg <| R rfl (mv rfl) <| R rfl (not' rfl) <| R rfl (mv rfl) <| lSplit 36 rfl (fun h21 => ?_) (fun h21 => ?_)
            · skip
              refine lKn 35 rfl h21 <| lSkip (gd rfl rfl rfl rfl) rfl rfl <| lSkip (gd rfl rfl rfl rfl) rfl rfl <| lSkip (gd rfl rfl rfl rfl) rfl rfl <| lSkip (gd rfl rfl rfl rfl) rfl rfl <| R rfl (pkT rfl rfl) <| gNil <| eMid (fun aa ww h => h.sub [1, 29] (sS rfl <| sS rfl <| sS rfl <| sN) (rR rfl rfl <| rR rfl rfl <| rN))
            · skip
              refine lKn 35 rfl h21 <| lRun (gd rfl rfl rfl rfl) rfl rfl (mv rfl) <| lRun (gd rfl rfl rfl rfl) rfl rfl (mv rfl) <| lFrz 69 [32, 6, 37] rfl (fS rfl <| fS rfl <| fS rfl <| fN) <| callg [] [] (gd rfl rfl rfl rfl) rfl Try.func126 rfl rfl (bytes_Equal_ok _ _) (aQ rfl <| aQ rfl <| aN) rN fun r22 n23 => lRun (gd rfl rfl rfl rfl) rfl rfl (not' rfl) <| R rfl (pkF rfl rfl) <| gNil <| eMid (fun aa ww h => h.sub [1, 29] (sS rfl <| sS rfl <| sS rfl <| sN) (rR rfl rfl <| rR rfl rfl <| rN))
          · skip
            refine gIf rfl rfl (fun h24 => ?_) (fun h24 => ?_)
            · skip
              refine gSeq <| gReg <| R rfl (bldE [(0, 1), (1, 1), (2, 1), (3, 1)] Try.underlying105 ti105 (ZrE.rd (R := u8R) (x := 0) (Zr.num rfl) (ZrE.rd (R := u64R) (x := 0) (Zr.num rfl) (ZrE.nilS (ZrE.nilS ZrE.nil)) rfl) rfl) rfl (BldE.done rfl)) <| Es (stoG 1 rfl rfl (fillsL.cast (fillsL.cons fills_rd (fillsL.cons fills_rd (fillsL.cons fills_val (fillsL.cons fills_val fillsL.nil)))) rfl) rfl (onesL.cons ones_rd (onesL.cons ones_rd (onesL.cons ones_val (onesL.cons ones_val onesL.nil)))) (fillsL.cast (fillsL.cons fills_rd (fillsL.cons fills_rd (fillsL.cons fills_val (fillsL.cons fills_val fillsL.nil)))) rfl) ti105) <| R rfl (asg rfl) <| gNil <| eThen <| gRet <| eTret <| ePnl (arrR 32 u8R) [.rd u8R 0, .rd u64R 0, .rd (sliceR (arrR 32 u8R)) [], .val (.slice none 0 0)] 1 [.rd u8R 0, .rd u64R 0] [.val (.slice none 0 0)] rfl rfl rfl <| ePnl (sliceR u8R) [.rd u8R 0, .rd u64R 0, .rd (sliceR (arrR 32 u8R)) [], .rd (sliceR (sliceR u8R)) []] 1 [.rd u8R 0, .rd u64R 0, .rd (sliceR (arrR 32 u8R)) []] [] rfl rfl rfl <| eJoi (R := R_api_Frame) (⟨0, 0, [], []⟩ : api_Frame) 1 rfl (Sp.via (Sp.prod (Sp.prod (Sp.prod (Sp.prod Sp.unit))))) <| eRet [] [] rfl (eC 1 rfl rfl ty105 <| eE rfl <| eN) (rN)
            · skip
              refine gSkip <| eThen <| gSeq <| gReg <| R rfl (ld 29 rfl rfl Foc.here ty105 rfl) <| lPnl (arrR 32 u8R) [.rd u8R 0, .rd u64R 0, .rd (sliceR (arrR 32 u8R)) [], .val (.slice none 0 0)] 1 [.rd u8R 0, .rd u64R 0] [.val (.slice none 0 0)] rfl rfl rfl <| lPnl (sliceR u8R) [.rd u8R 0, .rd u64R 0, .rd (sliceR (arrR 32 u8R)) [], .rd (sliceR (sliceR u8R)) []] 1 [.rd u8R 0, .rd u64R 0, .rd (sliceR (arrR 32 u8R)) []] [] rfl rfl rfl <| lJoi (R := R_api_Frame) (⟨0, 0, [], []⟩ : api_Frame) 1 rfl (Sp.via (Sp.prod (Sp.prod (Sp.prod (Sp.prod Sp.unit))))) <| Es (sto 1 rfl rfl Foc.here rfl ti105) <| R rfl (asg rfl) <| gNil <| eThen <| gRet <| eRet [] [] rfl (eC 1 rfl rfl ty105 <| eE rfl <| eN) (rN)

def braidref01_SameBytes_L0 (a0 : List UInt8) (a1 : List UInt8) (s3 : Int) : Option (Sum (Sum Bool Unit) Int) :=
  if decide (s3 < (a0.length : Int)) then
    idx a0 s3 >>= fun x5 =>
    idx a1 s3 >>= fun x7 =>
    if x5 != x7 then
      some (.inl (.inl false))
    else
      some (.inr (w64 (s3 + 1)))
  else
    some (.inl (.inr ()))
def braidref01_SameBytes (a0 : List UInt8) (a1 : List UInt8) : Option (Bool) :=
  if (a0.length : Int) != (a1.length : Int) then
    some false
  else
    orRet (iter (braidref01_SameBytes_L0 a0 a1) 0) fun s2 =>
    some true
set_option maxRecDepth 100000 in
theorem braidref01_SameBytes_ok (a0 : List UInt8) (a1 : List UInt8) : Spec Try.prog 30 [.rd (sliceR u8R) a0, .rd (sliceR u8R) a1] [] (braidref01_SameBytes a0 a1) (fun r nv => ⟨[.rd boolR r], []⟩) := by
  refine spec 26 Try.func30 rfl rfl rfl fun H w => ?_
  refine gSeq <| gReg <| R rfl (asg rfl) <| gNil <| eThen <| gSeq <| gSeq <| gReg <| R rfl (mv rfl) <| R rfl (len' rfl .rd rfl Try.underlying32) <| R rfl (mv rfl) <| R rfl (len' rfl .rd rfl Try.underlying32) <| R rfl (I.neq rfl rfl) <| gNil <| eThen <| gIf rfl rfl (fun h1 => ?_) (fun h1 => ?_)
  · skip
    refine gSeq <| gReg <| R rfl (asg rfl) <| gNil <| eThen <| gRet <| eTret <| eRet [] [] rfl (eE rfl <| eN) (rN)
  · skip
    refine gSkip <| eThen <| gMidR (fun (s2 : Unit) aa ww => Sta (ctx 26 H [] w) [] [] aa ww) ?_ (fun s2 => ?_)
    · skip
      refine gSeq <| gReg <| R rfl (asg rfl) <| gNil <| eThen <| gLoop (fun (s3 : Int) aa ww => Sta (ctx 26 H [] w) [(0, .rd (sliceR u8R) a0), (1, .rd (sliceR u8R) a1), (5, .rd i64R s3)] [] aa ww) (fun aa ww h => h.sub [] (sS rfl <| sS rfl <| sS rfl <| sN) (rN)) (fun s3 => ?_)
      refine gSeq <| gSeq <| gReg <| R rfl (mv rfl) <| R rfl (mv rfl) <| R rfl (len' rfl .rd rfl Try.underlying32) <| R rfl (I.lss rfl rfl) <| gNil <| eThen <| gIf rfl rfl (fun h4 => ?_) (fun h4 => ?_)
      · skip
        refine gSkip <| eThen <| gSeq <| gBlk <| gSeq <| gRegQ mixed (by kernel_rfl) <| Rq rfl (mv rfl) <| Rq rfl (mv rfl) <| qBind fun x5 h6 => Rq rfl (ixR rfl rfl h6 Try.underlying32 ti5 rfl) <| Rq rfl (ldR rfl ty5) <| Rq rfl (mv rfl) <| Rq rfl (mv rfl) <| qBind fun x7 h8 => Rq rfl (ixR rfl rfl h8 Try.underlying32 ti5 rfl) <| Rq rfl (ldR rfl ty5) <| Rq rfl (B.neq rfl rfl) <| qNil <| eThen <| gIf rfl rfl (fun h9 => ?_) (fun h9 => ?_)
        · skip
          refine gSeq <| gReg <| R rfl (asg rfl) <| gNil <| eThen <| gRet <| eBret <| eTret <| eLret <| eMret <| eRet [] [] rfl (eE rfl <| eN) (rN)
        · skip
          refine gSkip <| eBlk <| eThen <| gReg <| R rfl (mv rfl) <| R rfl (I.add rfl rfl) <| R rfl (asg rfl) <| gNil <| eNext (fun aa ww h => h.sub [] (sS rfl <| sS rfl <| sS rfl <| sN) (rN))
      · skip
        refine gExit <| eTexit <| eLeave <| eMidR (fun aa ww h => h.sub [] (sN) (rN))
    · skip
      refine gSeq <| gReg <| R rfl (asg rfl) <| gNil <| eThen <| gRet <| eRet [] [] rfl (eE rfl <| eN) (rN)


def braidref04_starts (a0 : List UInt8) (a1 : List UInt8) : Option (Bool) :=
  if decide ((a1.length : Int) ≤ (a0.length : Int)) then
    cut a0 0 (a1.length : Int) >>= fun x2 =>
    braidref01_SameBytes x2 a1 >>= fun r4 =>
    some r4
  else
    some false
set_option maxRecDepth 100000 in
theorem braidref04_starts_ok (a0 : List UInt8) (a1 : List UInt8) : Spec Try.prog 99 [.rd (sliceR u8R) a0, .rd (sliceR u8R) a1] [] (braidref04_starts a0 a1) (fun r nv => ⟨[.rd boolR r], []⟩) := by
  refine spec 18 Try.func99 rfl rfl rfl fun H w => ?_
  refine gSeq <| gReg <| R rfl (asg rfl) <| gNil <| eThen <| gSeq <| gReg <| R rfl (mv rfl) <| R rfl (len' rfl .rd rfl Try.underlying32) <| R rfl (mv rfl) <| R rfl (len' rfl .rd rfl Try.underlying32) <| R rfl (I.geq rfl rfl) <| R rfl (mv rfl) <| lSplit 10 rfl (fun h1 => ?_) (fun h1 => ?_)
  · skip
    refine lKn 9 rfl h1 <| lRun (gd rfl rfl rfl rfl) rfl rfl (mv rfl) <| lRun (gd rfl rfl rfl rfl) rfl rfl (mv rfl) <| lRun (gd rfl rfl rfl rfl) rfl rfl (len' rfl .rd rfl Try.underlying32) <| lBind fun x2 h3 => lRun (gd rfl rfl rfl rfl) rfl rfl (cut' rfl .no (.to rfl) h3 Try.underlying32 ti5) <| lRun (gd rfl rfl rfl rfl) rfl rfl (mv rfl) <| callg [] [] (gd rfl rfl rfl rfl) rfl Try.func30 rfl rfl (braidref01_SameBytes_ok _ _) (aQ rfl <| aQ rfl <| aN) rN fun r4 n5 => R rfl (pkT rfl rfl) <| R rfl (asg rfl) <| gNil <| eThen <| gRet <| eRet [] [] rfl (eE rfl <| eN) (rN)
  · skip
    refine lKn 9 rfl h1 <| lSkip (gd rfl rfl rfl rfl) rfl rfl <| lSkip (gd rfl rfl rfl rfl) rfl rfl <| lSkip (gd rfl rfl rfl rfl) rfl rfl <| lSkip (gd rfl rfl rfl rfl) rfl rfl <| lSkip (gd rfl rfl rfl rfl) rfl rfl <| lSkip (gd rfl rfl rfl rfl) rfl rfl <| R rfl (pkF rfl rfl) <| R rfl (asg rfl) <| gNil <| eThen <| gRet <| eRet [] [] rfl (eE rfl <| eN) (rN)

def braidref04_ReadNumber_L0 (a0 : List UInt8) (y6 : Int) (s7 : UInt64 × Int) : Option (Sum UInt64 (UInt64 × Int)) :=
  if decide (s7.2 ≤ y6) then
    if decide (s7.2 < (a0.length : Int)) then
      idx a0 s7.2 >>= fun x10 =>
      some ((256 * s7.1) + x10.toUInt64) >>= fun y12 =>
      some (w64 (s7.2 + 1)) >>= fun y13 =>
      some (.inr (y12, y13))
    else
      some (.inl s7.1)
  else
    some (.inl s7.1)
def braidref04_ReadNumber (a0 : List UInt8) : Option (UInt64 × Int × Int) :=
  if (a0.length : Int) == 0 then
    some (0, 0, 12)
  else
    idx a0 0 >>= fun x2 =>
    (if decide (247 < x2.toUInt64) then
      some (w64 ((w64 (x2.toUInt64.toNat : Int)) - 247)) >>= fun y6 =>
      iter (braidref04_ReadNumber_L0 a0 y6) (0, 1)
    else
      some x2.toUInt64) >>= fun s4 =>
    braidref04_Number s4 >>= fun r14 =>
    braidref04_starts a0 r14 >>= fun r16 =>
    if !r16 then
      some (0, 0, 12)
    else
      some (r14.length : Int) >>= fun y19 =>
      some (s4, y19, 0)
set_option maxRecDepth 100000 in
theorem braidref04_ReadNumber_ok (a0 : List UInt8) : Spec Try.prog 27 [.rd (sliceR u8R) a0] [] (braidref04_ReadNumber a0) (fun r nv => ⟨[.rd u64R r.1, .rd i64R r.2.1, .rd i64R r.2.2], []⟩) := by
  refine spec 49 Try.func27 rfl rfl rfl fun H w => ?_
  refine gSeq <| gReg <| R rfl (asg rfl) <| R rfl (asg rfl) <| R rfl (asg rfl) <| gNil <| eThen <| gSeq <| gSeq <| gReg <| R rfl (mv rfl) <| R rfl (len' rfl .rd rfl Try.underlying32) <| R rfl (I.eql rfl rfl) <| gNil <| eThen <| gIf rfl rfl (fun h1 => ?_) (fun h1 => ?_)
  · skip
    refine gSeq <| gReg <| R rfl (asg rfl) <| R rfl (asg rfl) <| R rfl (asg rfl) <| gNil <| eThen <| gRet <| eTret <| eRet [] [] rfl (eE rfl <| eE rfl <| eE rfl <| eN) (rN)
  · skip
    refine gSkip <| eThen <| gSeq <| gReg <| R rfl (mv rfl) <| lBind fun x2 h3 => R rfl (ixR rfl rfl h3 Try.underlying32 ti5 rfl) <| R rfl (ldR rfl ty5) <| R rfl (B.toU rfl Try.underlying5 Try.underlying31) <| R rfl (asg rfl) <| gNil <| eThen <| gMid (fun (s4 : UInt64) aa ww => Sta (ctx 49 H [] w) [(0, .rd (sliceR u8R) a0), (5, .rd u64R s4)] [] aa ww) ?_ (fun s4 => ?_)
    · skip
      refine gSeq <| gReg <| R rfl (mv rfl) <| R rfl (U.gtr rfl rfl) <| gNil <| eThen <| gIf rfl rfl (fun h5 => ?_) (fun h5 => ?_)
      · skip
        refine gSeq <| gReg <| R rfl (mv rfl) <| R rfl (U.toI rfl Try.underlying31 Try.underlying3) <| R rfl (I.sub rfl rfl) <| R rfl (asg rfl) <| lName 6 rfl fun y6 => gNil <| eThen <| gSeq <| gReg <| R rfl (asg rfl) <| gNil <| eThen <| gSeq <| gReg <| R rfl (asg rfl) <| gNil <| eThen <| gLoop (fun (s7 : UInt64 × Int) aa ww => Sta (ctx 49 H [] w) [(0, .rd (sliceR u8R) a0), (5, .rd u64R s7.1), (6, .rd i64R y6), (7, .rd i64R s7.2)] [] aa ww) (fun aa ww h => h.sub [] (sS rfl <| sS rfl <| sS rfl <| sS rfl <| sN) (rN)) (fun s7 => ?_)
        refine gSeq <| gSeq <| gReg <| R rfl (mv rfl) <| R rfl (mv rfl) <| R rfl (I.leq rfl rfl) <| R rfl (mv rfl) <| lSplit 24 rfl (fun h8 => ?_) (fun h8 => ?_)
        · skip
          refine lKn 23 rfl h8 <| lRun (gd rfl rfl rfl rfl) rfl rfl (mv rfl) <| lRun (gd rfl rfl rfl rfl) rfl rfl (mv rfl) <| lRun (gd rfl rfl rfl rfl) rfl rfl (len' rfl .rd rfl Try.underlying32) <| lRun (gd rfl rfl rfl rfl) rfl rfl (I.lss rfl rfl) <| R rfl (pkT rfl rfl) <| gNil <| eThen <| gIf rfl rfl (fun h9 => ?_) (fun h9 => ?_)
          · skip
            refine gKn 28 rfl h9 <| gSkip <| eThen <| gSeq <| gBlk <| gReg <| R rfl (mv rfl) <| R rfl (U.mul rfl rfl) <| R rfl (mv rfl) <| R rfl (mv rfl) <| lBind fun x10 h11 => R rfl (ixR rfl rfl h11 Try.underlying32 ti5 rfl) <| R rfl (ldR rfl ty5) <| R rfl (B.toU rfl Try.underlying5 Try.underlying31) <| R rfl (U.add rfl rfl) <| R rfl (asg rfl) <| lName 5 rfl fun y12 => gNil <| eBlk <| eThen <| gReg <| R rfl (mv rfl) <| R rfl (I.add rfl rfl) <| R rfl (asg rfl) <| lName 7 rfl fun y13 => gNil <| eNext (fun aa ww h => h.sub [] (sS rfl <| sS rfl <| sS rfl <| sS rfl <| sN) (rN))
          · skip
            refine gKn 28 rfl h9 <| gExit <| eTexit <| eLeave <| eMid (fun aa ww h => h.sub [] (sS rfl <| sS rfl <| sN) (rN))
        · skip
          refine lKn 23 rfl h8 <| lSkip (gd rfl rfl rfl rfl) rfl rfl <| lSkip (gd rfl rfl rfl rfl) rfl rfl <| lSkip (gd rfl rfl rfl rfl) rfl rfl <| lSkip (gd rfl rfl rfl rfl) rfl rfl <| R rfl (pkF rfl rfl) <| gNil <| eThen <| gFalse rfl <| gExit <| eTexit <| eLeave <| eMid (fun aa ww h => h.sub [] (sS rfl <| sS rfl <| sN) (rN))
      · skip
        refine gSkip <| eMid (fun aa ww h => h.sub [] (sS rfl <| sS rfl <| sN) (rN))
    · skip
      refine gSeq <| gReg <| R rfl (mv rfl) <| call [] [(100, 1)] rfl Try.func32 rfl rfl (braidref04_Number_ok _) (aQ rfl <| aN) rN fun r14 n15 => R rfl (asg rfl) <| gNil <| eThen <| gSeq <| gSeq <| gReg <| R rfl (mv rfl) <| R rfl (mv rfl) <| lFrz 1 [41, 8, 43] rfl (fS rfl <| fS rfl <| fS rfl <| fN) <| call [] [] rfl Try.func99 rfl rfl (braidref04_starts_ok _ _) (aQ rfl <| aQ rfl <| aN) rN fun r16 n17 => R rfl (not' rfl) <| gNil <| eThen <| gIf rfl rfl (fun h18 => ?_) (fun h18 => ?_)
      · skip
        refine gSeq <| gReg <| R rfl (asg rfl) <| R rfl (asg rfl) <| R rfl (asg rfl) <| gNil <| eThen <| gRet <| eTret <| eRet [] [] rfl (eE rfl <| eE rfl <| eE rfl <| eN) (rN)
      · skip
        refine gSkip <| eThen <| gSeq <| gReg <| R rfl (mv rfl) <| R rfl (mv rfl) <| R rfl (len' rfl .rd rfl Try.underlying32) <| R rfl (asg rfl) <| R rfl (asg rfl) <| lName 3 rfl fun y19 => R rfl (asg rfl) <| gNil <| eThen <| gRet <| eRet [] [] rfl (eE rfl <| eE rfl <| eE rfl <| eN) (rN)

def braidref04_ReadIDs_L2 (a0 : List UInt8) (r2 : UInt64 × Int × Int) (s9 : (List (Vector UInt8 32)) × Int) (s14 : (Vector UInt8 32) × Int) : Option (Sum ((Vector UInt8 32)) ((Vector UInt8 32) × Int)) :=
  if decide (s14.2 < 32) then
    idx a0 (w64 ((w64 (r2.2.1 + (w64 (32 * s9.2)))) + s14.2)) >>= fun x16 =>
    vidx s14.1 s14.2 >>= fun x18 =>
    some (w64 (s14.2 + 1)) >>= fun y20 =>
    some (.inr (vset s14.1 s14.2 x16, y20))
  else
    some (.inl s14.1)
def braidref04_ReadIDs_L0 (a0 : List UInt8) (r2 : UInt64 × Int × Int) (s9 : (List (Vector UInt8 32)) × Int) : Option (Sum ((List (Vector UInt8 32))) ((List (Vector UInt8 32)) × Int)) :=
  if decide (s9.2 < (w64 (r2.1.toNat : Int))) then
    (iter (braidref04_ReadIDs_L2 a0 r2 s9) ((Vector.replicate 32 0), 0)) >>= fun s13 =>
    app 32 s9.1 [s13] >>= fun x22 =>
    some (w64 (s9.2 + 1)) >>= fun y25 =>
    some (.inr (x22, y25))
  else
    some (.inl s9.1)
def braidref04_ReadIDs (a0 : List UInt8) (a1 : Int) : Option ((List (Vector UInt8 32)) × Int × Int) :=
  if decide (a1 < 0) then
    some ([], 0, 2)
  else
    braidref04_ReadNumber a0 >>= fun r2 =>
    (if r2.2.2 != 0 then
      some true
    else
      if decide ((UInt64.ofInt a1) < r2.1) then
        some true
      else
        some (decide (((UInt64.ofInt (w64 ((a0.length : Int) - r2.2.1))) / 32) < r2.1))) >>= fun s4 =>
    if s4 then
      some ([], 0, 12)
    else
      (iter (braidref04_ReadIDs_L0 a0 r2) ([], 0)) >>= fun s8 =>
      braidref04_Rising s8 >>= fun r27 =>
      if !r27 then
        some ([], 0, 12)
      else
        some (w64 (r2.2.1 + (w64 (32 * (w64 (r2.1.toNat : Int)))))) >>= fun y30 =>
        some (s8, y30, 0)
set_option maxRecDepth 100000 in
theorem braidref04_ReadIDs_ok (a0 : List UInt8) (a1 : Int) : Spec Try.prog 66 [.rd (sliceR u8R) a0, .rd i64R a1] [] (braidref04_ReadIDs a0 a1) (fun r nv => ⟨[.rd (sliceR (arrR 32 u8R)) r.1, .rd i64R r.2.1, .rd i64R r.2.2], []⟩) := by
  refine spec 74 Try.func66 rfl rfl rfl fun H w => ?_
  refine gSeq <| gReg <| R rfl (asg rfl) <| R rfl (asg rfl) <| R rfl (asg rfl) <| gNil <| eThen <| gSeq <| gSeq <| gReg <| R rfl (mv rfl) <| R rfl (I.lss rfl rfl) <| gNil <| eThen <| gIf rfl rfl (fun h1 => ?_) (fun h1 => ?_)
  · skip
    refine gSeq <| gReg <| R rfl (asg rfl) <| R rfl (asg rfl) <| R rfl (asg rfl) <| gNil <| eThen <| gRet <| eTret <| eRdNil (arrR 32 u8R) 4 rfl <| eRet [] [] rfl (eE rfl <| eE rfl <| eE rfl <| eN) (rN)
  · skip
    refine gSkip <| eThen <| gSeq <| gReg <| R rfl (mv rfl) <| call [] [] rfl Try.func27 rfl rfl (braidref04_ReadNumber_ok _) (aQ rfl <| aN) rN fun r2 n3 => R rfl (mv rfl) <| R rfl (ext rfl rfl) <| R rfl (ext rfl rfl) <| R rfl (ext rfl rfl) <| R rfl (asg rfl) <| R rfl (asg rfl) <| R rfl (asg rfl) <| gNil <| eThen <| gSeq <| gMid (fun (s4 : Bool) aa ww => Sta (ctx 74 H [] w) [(0, .rd (sliceR u8R) a0), (7, .rd u64R r2.1), (8, .rd i64R r2.2.1), (39, .rd boolR s4)] [] aa ww) ?_ (fun s4 => ?_)
    · skip
      refine gReg <| R rfl (mv rfl) <| R rfl (I.neq rfl rfl) <| R rfl (mv rfl) <| lSplit 24 rfl (fun h5 => ?_) (fun h5 => ?_)
      · skip
        refine lKn 23 rfl h5 <| lSkip (gd rfl rfl rfl rfl) rfl rfl <| lSkip (gd rfl rfl rfl rfl) rfl rfl <| lSkip (gd rfl rfl rfl rfl) rfl rfl <| lSkip (gd rfl rfl rfl rfl) rfl rfl <| R rfl (pkT rfl rfl) <| R rfl (mv rfl) <| lSkip (gd rfl rfl rfl rfl) rfl rfl <| lSkip (gd rfl rfl rfl rfl) rfl rfl <| lSkip (gd rfl rfl rfl rfl) rfl rfl <| lSkip (gd rfl rfl rfl rfl) rfl rfl <| lSkip (gd rfl rfl rfl rfl) rfl rfl <| lSkip (gd rfl rfl rfl rfl) rfl rfl <| lSkip (gd rfl rfl rfl rfl) rfl rfl <| lSkip (gd rfl rfl rfl rfl) rfl rfl <| R rfl (pkT rfl rfl) <| gNil <| eMid (fun aa ww h => h.sub [] (sS rfl <| sS rfl <| sS rfl <| sS rfl <| sN) (rN))
      · skip
        refine lKn 23 rfl h5 <| lRun (gd rfl rfl rfl rfl) rfl rfl (mv rfl) <| lRun (gd rfl rfl rfl rfl) rfl rfl (mv rfl) <| lRun (gd rfl rfl rfl rfl) rfl rfl (I.toU rfl Try.underlying3 Try.underlying31) <| lRun (gd rfl rfl rfl rfl) rfl rfl (U.gtr rfl rfl) <| R rfl (pkF rfl rfl) <| R rfl (mv rfl) <| lSplit 30 rfl (fun h6 => ?_) (fun h6 => ?_)
        · skip
          refine lKn 28 rfl h6 <| lKn 29 rfl h6 <| lSkip (gd rfl rfl rfl rfl) rfl rfl <| lSkip (gd rfl rfl rfl rfl) rfl rfl <| lSkip (gd rfl rfl rfl rfl) rfl rfl <| lSkip (gd rfl rfl rfl rfl) rfl rfl <| lSkip (gd rfl rfl rfl rfl) rfl rfl <| lSkip (gd rfl rfl rfl rfl) rfl rfl <| lSkip (gd rfl rfl rfl rfl) rfl rfl <| lSkip (gd rfl rfl rfl rfl) rfl rfl <| R rfl (pkT rfl rfl) <| gNil <| eMid (fun aa ww h => h.sub [] (sS rfl <| sS rfl <| sS rfl <| sS rfl <| sN) (rN))
        · skip
          refine lKn 28 rfl h6 <| lKn 29 rfl h6 <| lRun (gd rfl rfl rfl rfl) rfl rfl (mv rfl) <| lRun (gd rfl rfl rfl rfl) rfl rfl (mv rfl) <| lRun (gd rfl rfl rfl rfl) rfl rfl (len' rfl .rd rfl Try.underlying32) <| lRun (gd rfl rfl rfl rfl) rfl rfl (mv rfl) <| lRun (gd rfl rfl rfl rfl) rfl rfl (I.sub rfl rfl) <| lRun (gd rfl rfl rfl rfl) rfl rfl (I.toU rfl Try.underlying3 Try.underlying31) <| lRun (gd rfl rfl rfl rfl) rfl rfl (U.quo rfl rfl (by decide)) <| lRun (gd rfl rfl rfl rfl) rfl rfl (U.gtr rfl rfl) <| R rfl (pkF rfl rfl) <| gNil <| eMid (fun aa ww h => h.sub [] (sS rfl <| sS rfl <| sS rfl <| sS rfl <| sN) (rN))
    · skip
      refine gIf rfl rfl (fun h7 => ?_) (fun h7 => ?_)
      · skip
        refine gSeq <| gReg <| R rfl (asg rfl) <| R rfl (asg rfl) <| R rfl (asg rfl) <| gNil <| eThen <| gRet <| eTret <| eRdNil (arrR 32 u8R) 4 rfl <| eRet [] [] rfl (eE rfl <| eE rfl <| eE rfl <| eN) (rN)
      · skip
        refine gSkip <| eThen <| gSeq <| gReg <| R rfl (asg rfl) <| gNil <| eThen <| gMid (fun (s8 : (List (Vector UInt8 32))) aa ww => ∃ nv : Nat → Value, Sta (ctx 74 H [] w) [(7, .rd u64R r2.1), (8, .rd i64R r2.2.1), (10, .val (nv 0))] [(3, some ((nv 0), .list (arrR 32 u8R) 102 s8))] aa ww) ?_ (fun s8 => ?_)
        · skip
          refine gSeq <| gReg <| R rfl (asg rfl) <| gNil <| eThen <| gNew (arrR 32 u8R) 102 7 <| gLoop (fun (s9 : (List (Vector UInt8 32)) × Int) aa ww => ∃ nv : Nat → Value, Sta (ctx 74 H [] w) [(0, .rd (sliceR u8R) a0), (7, .rd u64R r2.1), (8, .rd i64R r2.2.1), (10, .val (nv 0)), (11, .rd i64R s9.2)] [(6, some ((nv 0), .list (arrR 32 u8R) 102 s9.1))] aa ww) (fun aa ww h => ⟨nvl [(.slice none 0 0)], h.sub [7] (sS rfl <| sS rfl <| sS rfl <| sS rfl <| sS rfl <| sN) (rR rfl rfl <| rN)⟩) (fun s9 => ?_)
          refine gEx fun n10 => gSeq <| gSeq <| gReg <| R rfl (mv rfl) <| R rfl (mv rfl) <| R rfl (U.toI rfl Try.underlying31 Try.underlying3) <| R rfl (I.lss rfl rfl) <| gNil <| eThen <| gIf rfl rfl (fun h11 => ?_) (fun h11 => ?_)
          · skip
            refine gSkip <| eThen <| gSeq <| gBlk <| gSeq <| gReg <| Eb rfl (allc 8 ti102 (.zr zr101)) fun v12 => gNil <| eThen <| gMid (fun (s13 : (Vector UInt8 32)) aa ww => Sta (ctx 74 H [] w) [(0, .rd (sliceR u8R) a0), (7, .rd u64R r2.1), (8, .rd i64R r2.2.1), (10, .val (n10 0)), (11, .rd i64R s9.2), (12, .val (ptrTo v12 0))] [(6, some ((n10 0), .list (arrR 32 u8R) 102 s9.1)), (8, some (v12, .box 102 [.rd (arrR 32 u8R) s13]))] aa ww) ?_ (fun s13 => ?_)
            · skip
              refine gSeq <| gReg <| R rfl (asg rfl) <| gNil <| eThen <| gLoop (fun (s14 : (Vector UInt8 32) × Int) aa ww => Sta (ctx 74 H [] w) [(0, .rd (sliceR u8R) a0), (7, .rd u64R r2.1), (8, .rd i64R r2.2.1), (10, .val (n10 0)), (11, .rd i64R s9.2), (12, .val (ptrTo v12 0)), (13, .rd i64R s14.2)] [(6, some ((n10 0), .list (arrR 32 u8R) 102 s9.1)), (8, some (v12, .box 102 [.rd (arrR 32 u8R) s14.1]))] aa ww) (fun aa ww h => h.sub [6, 8] (sS rfl <| sS rfl <| sS rfl <| sS rfl <| sS rfl <| sS rfl <| sS rfl <| sN) (rR rfl rfl <| rR rfl rfl <| rN)) (fun s14 => ?_)
              refine gSeq <| gSeq <| gReg <| R rfl (mv rfl) <| R rfl (I.lss rfl rfl) <| gNil <| eThen <| gIf rfl rfl (fun h15 => ?_) (fun h15 => ?_)
              · skip
                refine gSkip <| eThen <| gSeq <| gBlk <| gReg <| R rfl (mv rfl) <| R rfl (mv rfl) <| R rfl (mv rfl) <| R rfl (mv rfl) <| R rfl (I.mul rfl rfl) <| R rfl (I.add rfl rfl) <| R rfl (mv rfl) <| R rfl (I.add rfl rfl) <| lBind fun x16 h17 => R rfl (ixR rfl rfl h17 Try.underlying32 ti5 rfl) <| R rfl (ldR rfl ty5) <| lBind fun x18 h19 => R rfl (ixB 8 rfl rfl rfl h19 Try.underlying102 ti5) <| Es (sto 8 rfl rfl ((Foc.here).part (.el h19)) rfl ti5) <| gNil <| eBlk <| eThen <| gReg <| R rfl (mv rfl) <| R rfl (I.add rfl rfl) <| R rfl (asg rfl) <| lName 13 rfl fun y20 => gNil <| eNext (fun aa ww h => h.sub [6, 8] (sS rfl <| sS rfl <| sS rfl <| sS rfl <| sS rfl <| sS rfl <| sS rfl <| sN) (rR rfl rfl <| rR rfl rfl <| rN))
              · skip
                refine gExit <| eTexit <| eLeave <| eMid (fun aa ww h => h.sub [6, 8] (sS rfl <| sS rfl <| sS rfl <| sS rfl <| sS rfl <| sS rfl <| sN) (rR rfl rfl <| rR rfl rfl <| rN))
            · skip
              refine gReg <| R rfl (mv rfl) <| R rfl (ld 8 rfl rfl Foc.here ty102 rfl) <| Ef rfl (lit (R := (arrR 32 u8R)) ([s13] : List (Vector UInt8 32)) 9 (pP rfl rfl <| pN) rfl Try.underlying83 ti102 rfl rfl) fun v21 => lFrz 9 [63] rfl (fS rfl <| fN) <| lBind fun x22 h23 => Ef rfl (apn 6 rfl rfl rfl .rd h23 Try.underlying83 ti102 rfl rfl rfl) fun v24 => R rfl (asg rfl) <| gNil <| eBlk <| eThen <| gReg <| R rfl (mv rfl) <| R rfl (I.add rfl rfl) <| R rfl (asg rfl) <| lName 11 rfl fun y25 => gNil <| eNext (fun aa ww h => ⟨nvl [v24], h.sub [6] (sS rfl <| sS rfl <| sS rfl <| sS rfl <| sS rfl <| sN) (rR rfl rfl <| rN)⟩)
          · skip
            refine gExit <| eTexit <| eLeave <| eMid (fun aa ww h => ⟨nvl [(n10 0)], h.sub [6] (sS rfl <| sS rfl <| sS rfl <| sN) (rR rfl rfl <| rN)⟩)
        · skip
          refine gEx fun n26 => gSeq <| gSeq <| gReg <| R rfl (mv rfl) <| lFrz 3 [10, 65] rfl (fS rfl <| fS rfl <| fN) <| call [] [] rfl Try.func60 rfl rfl (braidref04_Rising_ok _) (aQ rfl <| aN) rN fun r27 n28 => R rfl (not' rfl) <| gNil <| eThen <| gIf rfl rfl (fun h29 => ?_) (fun h29 => ?_)
          · skip
            refine gSeq <| gReg <| R rfl (asg rfl) <| R rfl (asg rfl) <| R rfl (asg rfl) <| gNil <| eThen <| gRet <| eTret <| eRdNil (arrR 32 u8R) 4 rfl <| eRet [] [] rfl (eE rfl <| eE rfl <| eE rfl <| eN) (rN)
          · skip
            refine gSkip <| eThen <| gSeq <| gReg <| R rfl (mv rfl) <| R rfl (mv rfl) <| R rfl (mv rfl) <| R rfl (U.toI rfl Try.underlying31 Try.underlying3) <| R rfl (I.mul rfl rfl) <| R rfl (I.add rfl rfl) <| R rfl (asg rfl) <| R rfl (asg rfl) <| lName 5 rfl fun y30 => R rfl (asg rfl) <| gNil <| eThen <| gRet <| eRet [] [] rfl (eE rfl <| eE rfl <| eE rfl <| eN) (rN)


def braidref04_ReadBytes (a0 : List UInt8) (a1 : Int) : Option ((List UInt8) × Int × Int) :=
  if decide (a1 < 0) then
    some ([], 0, 2)
  else
    braidref04_ReadNumber a0 >>= fun r2 =>
    (if r2.2.2 != 0 then
      some true
    else
      if decide ((UInt64.ofInt a1) < r2.1) then
        some true
      else
        some (decide ((UInt64.ofInt (w64 ((a0.length : Int) - r2.2.1))) < r2.1))) >>= fun s4 =>
    if s4 then
      some ([], 0, 12)
    else
      some (w64 (r2.2.1 + (w64 (r2.1.toNat : Int)))) >>= fun y8 =>
      cut a0 r2.2.1 y8 >>= fun x10 =>
      app 1 ([] : List UInt8) x10 >>= fun x12 =>
      some (x12, y8, 0)
set_option maxRecDepth 100000 in
theorem braidref04_ReadBytes_ok (a0 : List UInt8) (a1 : Int) : Spec Try.prog 64 [.rd (sliceR u8R) a0, .rd i64R a1] [] (braidref04_ReadBytes a0 a1) (fun r nv => ⟨[.val (nv 0), .rd i64R r.2.1, .rd i64R r.2.2], [(100, some (nv 0, .list u8R 5 r.1))]⟩) := by
  refine spec 47 Try.func64 rfl rfl rfl fun H w => ?_
  refine gSeq <| gReg <| R rfl (asg rfl) <| R rfl (asg rfl) <| R rfl (asg rfl) <| gNil <| eThen <| gSeq <| gSeq <| gReg <| R rfl (mv rfl) <| R rfl (I.lss rfl rfl) <| gNil <| eThen <| gIf rfl rfl (fun h1 => ?_) (fun h1 => ?_)
  · skip
    refine gSeq <| gReg <| R rfl (asg rfl) <| R rfl (asg rfl) <| R rfl (asg rfl) <| gNil <| eThen <| gRet <| eTret <| eNew u8R 5 1 <| eRet [(.slice none 0 0)] [1] rfl (eE rfl <| eE rfl <| eE rfl <| eN) (rR rfl rfl <| rN)
  · skip
    refine gSkip <| eThen <| gSeq <| gReg <| R rfl (mv rfl) <| call [] [] rfl Try.func27 rfl rfl (braidref04_ReadNumber_ok _) (aQ rfl <| aN) rN fun r2 n3 => R rfl (mv rfl) <| R rfl (ext rfl rfl) <| R rfl (ext rfl rfl) <| R rfl (ext rfl rfl) <| R rfl (asg rfl) <| R rfl (asg rfl) <| R rfl (asg rfl) <| gNil <| eThen <| gSeq <| gMid (fun (s4 : Bool) aa ww => Sta (ctx 47 H [] w) [(0, .rd (sliceR u8R) a0), (7, .rd u64R r2.1), (8, .rd i64R r2.2.1), (35, .rd boolR s4)] [] aa ww) ?_ (fun s4 => ?_)
    · skip
      refine gReg <| R rfl (mv rfl) <| R rfl (I.neq rfl rfl) <| R rfl (mv rfl) <| lSplit 21 rfl (fun h5 => ?_) (fun h5 => ?_)
      · skip
        refine lKn 20 rfl h5 <| lSkip (gd rfl rfl rfl rfl) rfl rfl <| lSkip (gd rfl rfl rfl rfl) rfl rfl <| lSkip (gd rfl rfl rfl rfl) rfl rfl <| lSkip (gd rfl rfl rfl rfl) rfl rfl <| R rfl (pkT rfl rfl) <| R rfl (mv rfl) <| lSkip (gd rfl rfl rfl rfl) rfl rfl <| lSkip (gd rfl rfl rfl rfl) rfl rfl <| lSkip (gd rfl rfl rfl rfl) rfl rfl <| lSkip (gd rfl rfl rfl rfl) rfl rfl <| lSkip (gd rfl rfl rfl rfl) rfl rfl <| lSkip (gd rfl rfl rfl rfl) rfl rfl <| lSkip (gd rfl rfl rfl rfl) rfl rfl <| R rfl (pkT rfl rfl) <| gNil <| eMid (fun aa ww h => h.sub [] (sS rfl <| sS rfl <| sS rfl <| sS rfl <| sN) (rN))
      · skip
        refine lKn 20 rfl h5 <| lRun (gd rfl rfl rfl rfl) rfl rfl (mv rfl) <| lRun (gd rfl rfl rfl rfl) rfl rfl (mv rfl) <| lRun (gd rfl rfl rfl rfl) rfl rfl (I.toU rfl Try.underlying3 Try.underlying31) <| lRun (gd rfl rfl rfl rfl) rfl rfl (U.gtr rfl rfl) <| R rfl (pkF rfl rfl) <| R rfl (mv rfl) <| lSplit 27 rfl (fun h6 => ?_) (fun h6 => ?_)
        · skip
          refine lKn 25 rfl h6 <| lKn 26 rfl h6 <| lSkip (gd rfl rfl rfl rfl) rfl rfl <| lSkip (gd rfl rfl rfl rfl) rfl rfl <| lSkip (gd rfl rfl rfl rfl) rfl rfl <| lSkip (gd rfl rfl rfl rfl) rfl rfl <| lSkip (gd rfl rfl rfl rfl) rfl rfl <| lSkip (gd rfl rfl rfl rfl) rfl rfl <| lSkip (gd rfl rfl rfl rfl) rfl rfl <| R rfl (pkT rfl rfl) <| gNil <| eMid (fun aa ww h => h.sub [] (sS rfl <| sS rfl <| sS rfl <| sS rfl <| sN) (rN))
        · skip
          refine lKn 25 rfl h6 <| lKn 26 rfl h6 <| lRun (gd rfl rfl rfl rfl) rfl rfl (mv rfl) <| lRun (gd rfl rfl rfl rfl) rfl rfl (mv rfl) <| lRun (gd rfl rfl rfl rfl) rfl rfl (len' rfl .rd rfl Try.underlying32) <| lRun (gd rfl rfl rfl rfl) rfl rfl (mv rfl) <| lRun (gd rfl rfl rfl rfl) rfl rfl (I.sub rfl rfl) <| lRun (gd rfl rfl rfl rfl) rfl rfl (I.toU rfl Try.underlying3 Try.underlying31) <| lRun (gd rfl rfl rfl rfl) rfl rfl (U.gtr rfl rfl) <| R rfl (pkF rfl rfl) <| gNil <| eMid (fun aa ww h => h.sub [] (sS rfl <| sS rfl <| sS rfl <| sS rfl <| sN) (rN))
    · skip
      refine gIf rfl rfl (fun h7 => ?_) (fun h7 => ?_)
      · skip
        refine gSeq <| gReg <| R rfl (asg rfl) <| R rfl (asg rfl) <| R rfl (asg rfl) <| gNil <| eThen <| gRet <| eTret <| eNew u8R 5 2 <| eRet [(.slice none 0 0)] [2] rfl (eE rfl <| eE rfl <| eE rfl <| eN) (rR rfl rfl <| rN)
      · skip
        refine gSkip <| eThen <| gSeq <| gReg <| R rfl (mv rfl) <| R rfl (mv rfl) <| R rfl (U.toI rfl Try.underlying31 Try.underlying3) <| R rfl (I.add rfl rfl) <| R rfl (asg rfl) <| lName 10 rfl fun y8 => gNil <| eThen <| gSeq <| gReg <| Ef rfl (lit (R := u8R) (([] : List UInt8) : List UInt8) 3 (pN) rfl Try.underlying32 ti5 rfl rfl) fun v9 => R rfl (mv rfl) <| R rfl (mv rfl) <| R rfl (mv rfl) <| lBind fun x10 h11 => R rfl (cut' rfl (.to rfl) (.to rfl) h11 Try.underlying32 ti5) <| lBind fun x12 h13 => Ef rfl (apn 3 rfl rfl rfl .rd h13 Try.underlying32 ti5 rfl rfl rfl) fun v14 => R rfl (mv rfl) <| R rfl (asg rfl) <| R rfl (asg rfl) <| R rfl (asg rfl) <| gNil <| eThen <| gRet <| eRet [v14] [3] rfl (eE rfl <| eE rfl <| eE rfl <| eN) (rR rfl rfl <| rN)

def braidref07_strings_L0 (r1 : UInt64 × Int × Int) (s8 : (List UInt8) × (List (List UInt8)) × UInt64) : Option (Sum (Sum ((List (List UInt8)) × Bool) ((List UInt8) × (List (List UInt8)))) ((List UInt8) × (List (List UInt8)) × UInt64)) :=
  if decide (s8.2.2 < r1.1) then
    braidref04_ReadBytes s8.1 400 >>= fun r11 =>
    if r11.2.2 != 0 then
      some (.inl (.inl ([], false)))
    else
      app 24 s8.2.1 [r11.1] >>= fun x15 =>
      cut s8.1 r11.2.1 (s8.1.length : Int) >>= fun x18 =>
      some (.inr (x18, x15, s8.2.2 + 1))
  else
    some (.inl (.inr (s8.1, s8.2.1)))
def braidref07_strings (a0 : List UInt8) : Option ((List (List UInt8)) × Bool) :=
  braidref04_ReadNumber a0 >>= fun r1 =>
  if r1.2.2 != 0 then
    some ([], false)
  else
    if decide (8 < r1.1) then
      some ([], false)
    else
      cut a0 r1.2.1 (a0.length : Int) >>= fun x5 =>
      orRet (iter (braidref07_strings_L0 r1) (x5, [], 0)) fun s7 =>
      some ((s7.1.length : Int) == 0) >>= fun y21 =>
      some (s7.2, y21)
set_option maxRecDepth 100000 in
theorem braidref07_strings_ok (a0 : List UInt8) : Spec Try.prog 127 [.rd (sliceR u8R) a0] [] (braidref07_strings a0) (fun r nv => ⟨[.val (nv 0), .rd boolR r.2], [(100, some (nv 0, .list (sliceR u8R) 32 r.1))]⟩) := by
  refine spec 51 Try.func127 rfl rfl rfl fun H w => ?_
  refine gSeq <| gReg <| R rfl (asg rfl) <| R rfl (asg rfl) <| gNil <| eThen <| gSeq <| gReg <| R rfl (mv rfl) <| call [] [] rfl Try.func27 rfl rfl (braidref04_ReadNumber_ok _) (aQ rfl <| aN) rN fun r1 n2 => R rfl (mv rfl) <| R rfl (ext rfl rfl) <| R rfl (ext rfl rfl) <| R rfl (ext rfl rfl) <| R rfl (asg rfl) <| R rfl (asg rfl) <| R rfl (asg rfl) <| gNil <| eThen <| gSeq <| gSeq <| gReg <| R rfl (mv rfl) <| R rfl (I.neq rfl rfl) <| R rfl (mv rfl) <| lSplit 20 rfl (fun h3 => ?_) (fun h3 => ?_)
  · skip
    refine lKn 19 rfl h3 <| lSkip (gd rfl rfl rfl rfl) rfl rfl <| lSkip (gd rfl rfl rfl rfl) rfl rfl <| R rfl (pkT rfl rfl) <| gNil <| eThen <| gTrue rfl <| gSeq <| gReg <| R rfl (asg rfl) <| R rfl (asg rfl) <| gNil <| eThen <| gRet <| eTret <| eNew (sliceR u8R) 32 1 <| eRet [(.slice none 0 0)] [1] rfl (eE rfl <| eE rfl <| eN) (rR rfl rfl <| rN)
  · skip
    refine lKn 19 rfl h3 <| lRun (gd rfl rfl rfl rfl) rfl rfl (mv rfl) <| lRun (gd rfl rfl rfl rfl) rfl rfl (U.gtr rfl rfl) <| R rfl (pkF rfl rfl) <| gNil <| eThen <| gIf rfl rfl (fun h4 => ?_) (fun h4 => ?_)
    · skip
      refine gKn 22 rfl h4 <| gSeq <| gReg <| R rfl (asg rfl) <| R rfl (asg rfl) <| gNil <| eThen <| gRet <| eTret <| eNew (sliceR u8R) 32 2 <| eRet [(.slice none 0 0)] [2] rfl (eE rfl <| eE rfl <| eN) (rR rfl rfl <| rN)
    · skip
      refine gKn 22 rfl h4 <| gSkip <| eThen <| gSeq <| gReg <| R rfl (mv rfl) <| R rfl (mv rfl) <| lBind fun x5 h6 => R rfl (cut' rfl (.to rfl) .no h6 Try.underlying32 ti5) <| R rfl (asg rfl) <| gNil <| eThen <| gSeq <| gReg <| R rfl (asg rfl) <| gNil <| eThen <| gMidR (fun (s7 : (List UInt8) × (List (List UInt8))) aa ww => ∃ nv : Nat → Value, Sta (ctx 51 H [] w) [(0, .rd (sliceR u8R) s7.1), (7, .val (nv 0))] [(5, some ((nv 0), .list (sliceR u8R) 32 s7.2))] aa ww) ?_ (fun s7 => ?_)
      · skip
        refine gSeq <| gReg <| R rfl (asg rfl) <| gNil <| eThen <| gNew (sliceR u8R) 32 10 <| gLoop (fun (s8 : (List UInt8) × (List (List UInt8)) × UInt64) aa ww => ∃ nv : Nat → Value, Sta (ctx 51 H [] w) [(0, .rd (sliceR u8R) s8.1), (4, .rd u64R r1.1), (7, .val (nv 0)), (8, .rd u64R s8.2.2)] [(9, some ((nv 0), .list (sliceR u8R) 32 s8.2.1))] aa ww) (fun aa ww h => ⟨nvl [(.slice none 0 0)], h.sub [10] (sS rfl <| sS rfl <| sS rfl <| sS rfl <| sN) (rR rfl rfl <| rN)⟩) (fun s8 => ?_)
        refine gEx fun n9 => gSeq <| gSeq <| gReg <| R rfl (mv rfl) <| R rfl (mv rfl) <| R rfl (U.lss rfl rfl) <| gNil <| eThen <| gIf rfl rfl (fun h10 => ?_) (fun h10 => ?_)
        · skip
          refine gSkip <| eThen <| gSeq <| gBlk <| gSeq <| gReg <| R rfl (mv rfl) <| call [] [(100, 11)] rfl Try.func64 rfl rfl (braidref04_ReadBytes_ok _ _) (aQ rfl <| aQ rfl <| aN) rN fun r11 n12 => R rfl (mv rfl) <| R rfl (ext rfl rfl) <| R rfl (ext rfl rfl) <| R rfl (ext rfl rfl) <| R rfl (asg rfl) <| R rfl (asg rfl) <| R rfl (asg rfl) <| gNil <| eThen <| gSeq <| gSeq <| gReg <| R rfl (mv rfl) <| R rfl (I.neq rfl rfl) <| gNil <| eThen <| gIf rfl rfl (fun h13 => ?_) (fun h13 => ?_)
          · skip
            refine gSeq <| gReg <| R rfl (asg rfl) <| R rfl (asg rfl) <| gNil <| eThen <| gRet <| eTret <| eBret <| eTret <| eLret <| eMret <| eNew (sliceR u8R) 32 12 <| eRet [(.slice none 0 0)] [12] rfl (eE rfl <| eE rfl <| eN) (rR rfl rfl <| rN)
          · skip
            refine gSkip <| eThen <| gSeq <| gReg <| R rfl (mv rfl) <| R rfl (mv rfl) <| lFrz 11 [35, 9, 41] rfl (fS rfl <| fS rfl <| fS rfl <| fN) <| Ef rfl (lit (R := (sliceR u8R)) ([r11.1] : List (List UInt8)) 13 (pP rfl rfl <| pN) rfl Try.underlying103 ti32 rfl rfl) fun v14 => lFrz 13 [42] rfl (fS rfl <| fN) <| lBind fun x15 h16 => Ef rfl (apn 9 rfl rfl rfl .rd h16 Try.underlying103 ti32 rfl rfl rfl) fun v17 => R rfl (asg rfl) <| gNil <| eThen <| gReg <| R rfl (mv rfl) <| R rfl (mv rfl) <| lBind fun x18 h19 => R rfl (cut' rfl (.to rfl) .no h19 Try.underlying32 ti5) <| R rfl (asg rfl) <| gNil <| eBlk <| eThen <| gReg <| R rfl (mv rfl) <| R rfl (U.add rfl rfl) <| R rfl (asg rfl) <| gNil <| eNext (fun aa ww h => ⟨nvl [v17], h.sub [9] (sS rfl <| sS rfl <| sS rfl <| sS rfl <| sN) (rR rfl rfl <| rN)⟩)
        · skip
          refine gExit <| eTexit <| eLeave <| eMidR (fun aa ww h => ⟨nvl [(n9 0)], h.sub [9] (sS rfl <| sS rfl <| sN) (rR rfl rfl <| rN)⟩)
      · skip
        refine gEx fun n20 => gSeq <| gReg <| R rfl (mv rfl) <| R rfl (mv rfl) <| R rfl (len' rfl .rd rfl Try.underlying32) <| R rfl (I.eql rfl rfl) <| R rfl (asg rfl) <| R rfl (asg rfl) <| lName 3 rfl fun y21 => gNil <| eThen <| gRet <| eRet [(n20 0)] [5] rfl (eE rfl <| eE rfl <| eN) (rR rfl rfl <| rN)


def braidref07_Parse (a0 : List UInt8) : Option (api_Frame × Int) :=
  if (a0.length : Int) == 0 then
    some ((⟨0, 0, [], []⟩ : api_Frame), 12)
  else
    idx a0 0 >>= fun x3 =>
    (braidref07_Listed x3 >>= fun r7 =>
    if r7 then
      cut a0 1 (a0.length : Int) >>= fun x10 =>
      braidref04_ReadIDs x10 40 >>= fun r12 =>
      some (0, r12.1, [], r12.2.2 == 0)
    else
      if x3 == 5 then
        cut a0 1 (a0.length : Int) >>= fun x15 =>
        braidref07_strings x15 >>= fun r17 =>
        some (0, [], r17.1, r17.2)
      else
        cut a0 1 (a0.length : Int) >>= fun x19 =>
        braidref04_ReadNumber x19 >>= fun r21 =>
        some (r21.1, [], [], r21.2.2 == 0)) >>= fun s6 =>
    (if !s6.2.2.2 then
      some (x3, s6.1, s6.2.1, s6.2.2.1, true)
    else
      braidref07_Check (⟨x3, s6.1, s6.2.1, s6.2.2.1⟩ : api_Frame) >>= fun r26 =>
      if r26 != 0 then
        some ((⟨x3, s6.1, s6.2.1, s6.2.2.1⟩ : api_Frame).Kind, (⟨x3, s6.1, s6.2.1, s6.2.2.1⟩ : api_Frame).N, (⟨x3, s6.1, s6.2.1, s6.2.2.1⟩ : api_Frame).IDs, (⟨x3, s6.1, s6.2.1, s6.2.2.1⟩ : api_Frame).Ops, true)
      else
        braidref07_Bytes (⟨x3, s6.1, s6.2.1, s6.2.2.1⟩ : api_Frame) >>= fun r29 =>
        braidref01_SameBytes r29 a0 >>= fun r31 =>
        some ((⟨x3, s6.1, s6.2.1, s6.2.2.1⟩ : api_Frame).Kind, (⟨x3, s6.1, s6.2.1, s6.2.2.1⟩ : api_Frame).N, (⟨x3, s6.1, s6.2.1, s6.2.2.1⟩ : api_Frame).IDs, (⟨x3, s6.1, s6.2.1, s6.2.2.1⟩ : api_Frame).Ops, !r31)) >>= fun s24 =>
    if s24.2.2.2.2 then
      some ((⟨0, 0, [], []⟩ : api_Frame), 12)
    else
      some ((⟨s24.1, s24.2.1, s24.2.2.1, s24.2.2.2.1⟩ : api_Frame), 0)
set_option maxRecDepth 100000 in
theorem braidref07_Parse_ok (a0 : List UInt8) : Spec Try.prog 80 [.rd (sliceR u8R) a0] [] (braidref07_Parse a0) (fun r nv => ⟨[.rd R_api_Frame r.1, .rd i64R r.2], []⟩) := by
  refine spec 73 Try.func80 rfl rfl rfl fun H w => ?_
  refine gSeq <| gReg <| Eb rfl (allc 1 ti105 (ZrE.rd (R := u8R) (x := 0) (Zr.num rfl) (ZrE.rd (R := u64R) (x := 0) (Zr.num rfl) (ZrE.nilS (ZrE.nilS ZrE.nil)) rfl) rfl)) fun v1 => R rfl (asg rfl) <| gNil <| eThen <| gSeq <| gSeq <| gReg <| R rfl (mv rfl) <| R rfl (len' rfl .rd rfl Try.underlying32) <| R rfl (I.eql rfl rfl) <| gNil <| eThen <| gIf rfl rfl (fun h2 => ?_) (fun h2 => ?_)
  · skip
    refine gSeq <| gReg <| R rfl (bldE [(0, 1), (1, 1), (2, 1), (3, 1)] Try.underlying105 ti105 (ZrE.rd (R := u8R) (x := 0) (Zr.num rfl) (ZrE.rd (R := u64R) (x := 0) (Zr.num rfl) (ZrE.nilS (ZrE.nilS ZrE.nil)) rfl) rfl) rfl (BldE.done rfl)) <| Es (stoG 1 rfl rfl (fillsL.cast (fillsL.cons fills_rd (fillsL.cons fills_rd (fillsL.cons fills_val (fillsL.cons fills_val fillsL.nil)))) rfl) rfl (onesL.cons ones_rd (onesL.cons ones_rd (onesL.cons ones_val (onesL.cons ones_val onesL.nil)))) (fillsL.cast (fillsL.cons fills_rd (fillsL.cons fills_rd (fillsL.cons fills_val (fillsL.cons fills_val fillsL.nil)))) rfl) ti105) <| R rfl (asg rfl) <| gNil <| eThen <| gRet <| eTret <| ePnl (arrR 32 u8R) [.rd u8R 0, .rd u64R 0, .rd (sliceR (arrR 32 u8R)) [], .val (.slice none 0 0)] 1 [.rd u8R 0, .rd u64R 0] [.val (.slice none 0 0)] rfl rfl rfl <| ePnl (sliceR u8R) [.rd u8R 0, .rd u64R 0, .rd (sliceR (arrR 32 u8R)) [], .rd (sliceR (sliceR u8R)) []] 1 [.rd u8R 0, .rd u64R 0, .rd (sliceR (arrR 32 u8R)) []] [] rfl rfl rfl <| eJoi (R := R_api_Frame) (⟨0, 0, [], []⟩ : api_Frame) 1 rfl (Sp.via (Sp.prod (Sp.prod (Sp.prod (Sp.prod Sp.unit))))) <| eRet [] [] rfl (eC 1 rfl rfl ty105 <| eE rfl <| eN) (rN)
  · skip
    refine gSkip <| eThen <| gSeq <| gReg <| R rfl (mv rfl) <| lBind fun x3 h4 => R rfl (ixR rfl rfl h4 Try.underlying32 ti5 rfl) <| R rfl (ldR rfl ty5) <| R rfl (bldE [(0, 1), (1, 1), (2, 1), (3, 1)] Try.underlying105 ti105 (ZrE.rd (R := u8R) (x := 0) (Zr.num rfl) (ZrE.rd (R := u64R) (x := 0) (Zr.num rfl) (ZrE.nilS (ZrE.nilS ZrE.nil)) rfl) rfl) rfl (BldE.cons rfl rfl fills_rd (Swap.cast (Swap.here fills_rd) rfl) <| BldE.done rfl)) <| Eb rfl (allc 2 ti105 (ZrE.rd (R := u8R) (x := 0) (Zr.num rfl) (ZrE.rd (R := u64R) (x := 0) (Zr.num rfl) (ZrE.nilS (ZrE.nilS ZrE.nil)) rfl) rfl)) fun v5 => Es (stoG 2 rfl rfl (fillsL.cast (fillsL.cons fills_rd (fillsL.cons fills_rd (fillsL.cons fills_val (fillsL.cons fills_val fillsL.nil)))) rfl) rfl (onesL.cons ones_rd (onesL.cons ones_rd (onesL.cons ones_val (onesL.cons ones_val onesL.nil)))) (fillsL.cast (fillsL.cons fills_rd (fillsL.cons fills_rd (fillsL.cons fills_val (fillsL.cons fills_val fillsL.nil)))) rfl) ti105) <| gNil <| eThen <| gSeq <| gReg <| R rfl (asg rfl) <| gNil <| eThen <| gMid (fun (s6 : UInt64 × (List (Vector UInt8 32)) × (List (List UInt8)) × Bool) aa ww => ∃ nv : Nat → Value, Sta (ctx 73 H [] w) [(0, .rd (sliceR u8R) a0), (2, .val (ptrTo v1 0)), (4, .val (ptrTo v5 0)), (5, .rd boolR s6.2.2.2)] [(1, some (v1, .box 105 [.rd u8R 0, .rd u64R 0, .val (.slice none 0 0), .val (.slice none 0 0)])), (3, some ((nv 0), .list (sliceR u8R) 32 s6.2.2.1)), (2, some (v5, .box 105 [.rd u8R x3, .rd u64R s6.1, .rd (sliceR (arrR 32 u8R)) s6.2.1, .val (nv 0)]))] aa ww) ?_ (fun s6 => ?_)
    · skip
      refine gBlk <| gSeq <| gReg <| R rfl (faB 2 rfl rfl Try.underlying105 rfl (by exact ti5)) <| R rfl (ld 2 rfl rfl (Foc.cast Foc.here rfl) ty5 rfl) <| call [] [] rfl Try.func93 rfl rfl (braidref07_Listed_ok _) (aQ rfl <| aN) rN fun r7 n8 => R rfl (asg rfl) <| gNil <| eThen <| gIf rfl rfl (fun h9 => ?_) (fun h9 => ?_)
      · skip
        refine gKn 34 rfl h9 <| gSeq <| gReg <| R rfl (mv rfl) <| lBind fun x10 h11 => R rfl (cut' rfl (.to rfl) .no h11 Try.underlying32 ti5) <| call [] [] rfl Try.func66 rfl rfl (braidref04_ReadIDs_ok _ _) (aQ rfl <| aQ rfl <| aN) rN fun r12 n13 => R rfl (mv rfl) <| R rfl (ext rfl rfl) <| R rfl (ext rfl rfl) <| R rfl (ext rfl rfl) <| R rfl (asg rfl) <| R rfl (asg rfl) <| R rfl (asg rfl) <| gNil <| eThen <| gSeq <| gReg <| R rfl (mv rfl) <| R rfl (faB 2 rfl rfl Try.underlying105 rfl (by exact ti83)) <| Es (stoE 2 rfl rfl (Swap.cast (Swap.next fills_rd (Swap.next fills_rd (Swap.here fills_val))) rfl) rfl ones_rd fills_rd ti83) <| gNil <| eThen <| gReg <| R rfl (mv rfl) <| R rfl (I.eql rfl rfl) <| R rfl (asg rfl) <| gNil <| eBlk <| eNew (sliceR u8R) 32 4 <| eMid (fun aa ww h => ⟨nvl [(.slice none 0 0)], h.sub [1, 4, 2] (sS rfl <| sS rfl <| sS rfl <| sS rfl <| sN) (rR rfl rfl <| rR rfl rfl <| rR rfl rfl <| rN)⟩)
      · skip
        refine gKn 34 rfl h9 <| gSeq <| gReg <| R rfl (faB 2 rfl rfl Try.underlying105 rfl (by exact ti5)) <| R rfl (ld 2 rfl rfl (Foc.cast Foc.here rfl) ty5 rfl) <| R rfl (B.eql rfl rfl) <| R rfl (asg rfl) <| gNil <| eThen <| gIf rfl rfl (fun h14 => ?_) (fun h14 => ?_)
        · skip
          refine gKn 49 rfl h14 <| gReg <| R rfl (mv rfl) <| lBind fun x15 h16 => R rfl (cut' rfl (.to rfl) .no h16 Try.underlying32 ti5) <| call [] [(100, 5)] rfl Try.func127 rfl rfl (braidref07_strings_ok _) (aQ rfl <| aN) rN fun r17 n18 => R rfl (mv rfl) <| R rfl (ext rfl rfl) <| R rfl (ext rfl rfl) <| R rfl (faB 2 rfl rfl Try.underlying105 rfl (by exact ti103)) <| Es (stoE 2 rfl rfl (Swap.cast (Swap.next fills_rd (Swap.next fills_rd (Swap.next fills_val (Swap.here fills_val)))) rfl) rfl ones_val fills_val ti103) <| R rfl (asg rfl) <| gNil <| eBlk <| ePnl (arrR 32 u8R) [.rd u8R x3, .rd u64R 0, .rd (sliceR (arrR 32 u8R)) [], .val (n18 0)] 2 [.rd u8R x3, .rd u64R 0] [.val (n18 0)] rfl rfl rfl <| eMid (fun aa ww h => ⟨nvl [(n18 0)], h.sub [1, 5, 2] (sS rfl <| sS rfl <| sS rfl <| sS rfl <| sN) (rR rfl rfl <| rR rfl rfl <| rR rfl rfl <| rN)⟩)
        · skip
          refine gKn 49 rfl h14 <| gSeq <| gReg <| R rfl (mv rfl) <| lBind fun x19 h20 => R rfl (cut' rfl (.to rfl) .no h20 Try.underlying32 ti5) <| call [] [] rfl Try.func27 rfl rfl (braidref04_ReadNumber_ok _) (aQ rfl <| aN) rN fun r21 n22 => R rfl (mv rfl) <| R rfl (ext rfl rfl) <| R rfl (ext rfl rfl) <| R rfl (ext rfl rfl) <| R rfl (asg rfl) <| R rfl (asg rfl) <| R rfl (asg rfl) <| gNil <| eThen <| gSeq <| gReg <| R rfl (mv rfl) <| R rfl (faB 2 rfl rfl Try.underlying105 rfl (by exact ti31)) <| Es (sto 2 rfl rfl (Foc.cast (Foc.next fills_rd Foc.here) rfl) rfl ti31) <| gNil <| eThen <| gReg <| R rfl (mv rfl) <| R rfl (I.eql rfl rfl) <| R rfl (asg rfl) <| gNil <| eBlk <| ePnl (arrR 32 u8R) [.rd u8R x3, .rd u64R r21.1, .rd (sliceR (arrR 32 u8R)) [], .val (.slice none 0 0)] 2 [.rd u8R x3, .rd u64R r21.1] [.val (.slice none 0 0)] rfl rfl rfl <| eNew (sliceR u8R) 32 6 <| eMid (fun aa ww h => ⟨nvl [(.slice none 0 0)], h.sub [1, 6, 2] (sS rfl <| sS rfl <| sS rfl <| sS rfl <| sN) (rR rfl rfl <| rR rfl rfl <| rR rfl rfl <| rN)⟩)
    · skip
      refine gEx fun n23 => gSeq <| gMid (fun (s24 : UInt8 × UInt64 × (List (Vector UInt8 32)) × (List (List UInt8)) × Bool) aa ww => Sta (ctx 73 H [] w) [(2, .val (ptrTo v1 0)), (4, .val (ptrTo v5 0)), (70, .rd boolR s24.2.2.2.2)] [(1, some (v1, .box 105 [.rd u8R 0, .rd u64R 0, .val (.slice none 0 0), .val (.slice none 0 0)])), (2, some (v5, .box 105 [.rd u8R s24.1, .rd u64R s24.2.1, .rd (sliceR (arrR 32 u8R)) s24.2.2.1, .rd (sliceR (sliceR u8R)) s24.2.2.2.1]))] aa ww) ?_ (fun s24 => ?_)
      · skip
        refine gReg <| R rfl (mv rfl) <| R rfl (not' rfl) <| R rfl (mv rfl) <| lSplit 59 rfl (fun h25 => ?_) (fun h25 => ?_)
        · skip
          refine lKn 58 rfl h25 <| lSkip (gd rfl rfl rfl rfl) rfl rfl <| lSkip (gd rfl rfl rfl rfl) rfl rfl <| lSkip (gd rfl rfl rfl rfl) rfl rfl <| R rfl (pkT rfl rfl) <| R rfl (mv rfl) <| lSkip (gd rfl rfl rfl rfl) rfl rfl <| lSkip (gd rfl rfl rfl rfl) rfl rfl <| lSkip (gd rfl rfl rfl rfl) rfl rfl <| lSkip (gd rfl rfl rfl rfl) rfl rfl <| lSkip (gd rfl rfl rfl rfl) rfl rfl <| R rfl (pkT rfl rfl) <| gNil <| ePow [.rd u8R x3, .rd u64R s6.1, .rd (sliceR (arrR 32 u8R)) s6.2.1, .rd (sliceR (sliceR u8R)) s6.2.2.1] 2 3 [.rd u8R x3, .rd u64R s6.1, .rd (sliceR (arrR 32 u8R)) s6.2.1] [] rfl rfl rfl rfl rfl <| eMid (fun aa ww h => h.sub [1, 2] (sS rfl <| sS rfl <| sS rfl <| sN) (rR rfl rfl <| rR rfl rfl <| rN))
        · skip
          refine lKn 58 rfl h25 <| lPow [.rd u8R x3, .rd u64R s6.1, .rd (sliceR (arrR 32 u8R)) s6.2.1, .rd (sliceR (sliceR u8R)) s6.2.2.1] 2 3 [.rd u8R x3, .rd u64R s6.1, .rd (sliceR (arrR 32 u8R)) s6.2.1] [] rfl rfl rfl rfl rfl <| lJoi (R := R_api_Frame) (⟨x3, s6.1, s6.2.1, s6.2.2.1⟩ : api_Frame) 2 rfl (Sp.via (Sp.prod (Sp.prod (Sp.prod (Sp.prod Sp.unit))))) <| lRun (gd rfl rfl rfl rfl) rfl rfl (ld 2 rfl rfl Foc.here ty105 rfl) <| callg [] [] (gd rfl rfl rfl rfl) rfl Try.func77 rfl rfl (braidref07_Check_ok _) (aQ rfl <| aN) rN fun r26 n27 => lRun (gd rfl rfl rfl rfl) rfl rfl (I.neq rfl rfl) <| R rfl (pkF rfl rfl) <| R rfl (mv rfl) <| lSplit 64 rfl (fun h28 => ?_) (fun h28 => ?_)
          · skip
            refine lKn 62 rfl h28 <| lKn 63 rfl h28 <| lSkip (gd rfl rfl rfl rfl) rfl rfl <| lSkip (gd rfl rfl rfl rfl) rfl rfl <| lSkip (gd rfl rfl rfl rfl) rfl rfl <| lSkip (gd rfl rfl rfl rfl) rfl rfl <| lSkip (gd rfl rfl rfl rfl) rfl rfl <| R rfl (pkT rfl rfl) <| gNil <| eSpl (R := R_api_Frame) 2 rfl (Sp.via (Sp.prod (Sp.prod (Sp.prod (Sp.prod Sp.unit))))) <| eMid (fun aa ww h => h.sub [1, 2] (sS rfl <| sS rfl <| sS rfl <| sN) (rR rfl rfl <| rR rfl rfl <| rN))
          · skip
            refine lKn 62 rfl h28 <| lKn 63 rfl h28 <| lRun (gd rfl rfl rfl rfl) rfl rfl (ld 2 rfl rfl Foc.here ty105 rfl) <| callg [] [(100, 7)] (gd rfl rfl rfl rfl) rfl Try.func120 rfl rfl (braidref07_Bytes_ok _) (aQ rfl <| aN) rN fun r29 n30 => lRun (gd rfl rfl rfl rfl) rfl rfl (mv rfl) <| lFrz 7 [66] rfl (fS rfl <| fN) <| callg [] [] (gd rfl rfl rfl rfl) rfl Try.func30 rfl rfl (braidref01_SameBytes_ok _ _) (aQ rfl <| aQ rfl <| aN) rN fun r31 n32 => lRun (gd rfl rfl rfl rfl) rfl rfl (not' rfl) <| R rfl (pkF rfl rfl) <| gNil <| eSpl (R := R_api_Frame) 2 rfl (Sp.via (Sp.prod (Sp.prod (Sp.prod (Sp.prod Sp.unit))))) <| eMid (fun aa ww h => h.sub [1, 2] (sS rfl <| sS rfl <| sS rfl <| sN) (rR rfl rfl <| rR rfl rfl <| rN))
      · skip
        refine gIf rfl rfl (fun h33 => ?_) (fun h33 => ?_)
        · skip
          refine gSeq <| gReg <| R rfl (bldE [(0, 1), (1, 1), (2, 1), (3, 1)] Try.underlying105 ti105 (ZrE.rd (R := u8R) (x := 0) (Zr.num rfl) (ZrE.rd (R := u64R) (x := 0) (Zr.num rfl) (ZrE.nilS (ZrE.nilS ZrE.nil)) rfl) rfl) rfl (BldE.done rfl)) <| Es (stoG 1 rfl rfl (fillsL.cast (fillsL.cons fills_rd (fillsL.cons fills_rd (fillsL.cons fills_val (fillsL.cons fills_val fillsL.nil)))) rfl) rfl (onesL.cons ones_rd (onesL.cons ones_rd (onesL.cons ones_val (onesL.cons ones_val onesL.nil)))) (fillsL.cast (fillsL.cons fills_rd (fillsL.cons fills_rd (fillsL.cons fills_val (fillsL.cons fills_val fillsL.nil)))) rfl) ti105) <| R rfl (asg rfl) <| gNil <| eThen <| gRet <| eTret <| ePnl (arrR 32 u8R) [.rd u8R 0, .rd u64R 0, .rd (sliceR (arrR 32 u8R)) [], .val (.slice none 0 0)] 1 [.rd u8R 0, .rd u64R 0] [.val (.slice none 0 0)] rfl rfl rfl <| ePnl (sliceR u8R) [.rd u8R 0, .rd u64R 0, .rd (sliceR (arrR 32 u8R)) [], .rd (sliceR (sliceR u8R)) []] 1 [.rd u8R 0, .rd u64R 0, .rd (sliceR (arrR 32 u8R)) []] [] rfl rfl rfl <| eJoi (R := R_api_Frame) (⟨0, 0, [], []⟩ : api_Frame) 1 rfl (Sp.via (Sp.prod (Sp.prod (Sp.prod (Sp.prod Sp.unit))))) <| eRet [] [] rfl (eC 1 rfl rfl ty105 <| eE rfl <| eN) (rN)
        · skip
          refine gSkip <| eThen <| gSeq <| gReg <| lJoi (R := R_api_Frame) (⟨s24.1, s24.2.1, s24.2.2.1, s24.2.2.2.1⟩ : api_Frame) 2 rfl (Sp.via (Sp.prod (Sp.prod (Sp.prod (Sp.prod Sp.unit))))) <| R rfl (ld 2 rfl rfl Foc.here ty105 rfl) <| lPnl (arrR 32 u8R) [.rd u8R 0, .rd u64R 0, .rd (sliceR (arrR 32 u8R)) [], .val (.slice none 0 0)] 1 [.rd u8R 0, .rd u64R 0] [.val (.slice none 0 0)] rfl rfl rfl <| lPnl (sliceR u8R) [.rd u8R 0, .rd u64R 0, .rd (sliceR (arrR 32 u8R)) [], .rd (sliceR (sliceR u8R)) []] 1 [.rd u8R 0, .rd u64R 0, .rd (sliceR (arrR 32 u8R)) []] [] rfl rfl rfl <| lJoi (R := R_api_Frame) (⟨0, 0, [], []⟩ : api_Frame) 1 rfl (Sp.via (Sp.prod (Sp.prod (Sp.prod (Sp.prod Sp.unit))))) <| Es (sto 1 rfl rfl Foc.here rfl ti105) <| R rfl (asg rfl) <| gNil <| eThen <| gRet <| eRet [] [] rfl (eC 1 rfl rfl ty105 <| eE rfl <| eN) (rN)

def braidref04_SameIDs_L0 (a0 : List (Vector UInt8 32)) (a1 : List (Vector UInt8 32)) (s3 : Int) : Option (Sum (Sum Bool Unit) Int) :=
  if decide (s3 < (a0.length : Int)) then
    idx a0 s3 >>= fun x5 =>
    idx a1 s3 >>= fun x7 =>
    if !decide (x5 = x7) then
      some (.inl (.inl false))
    else
      some (.inr (w64 (s3 + 1)))
  else
    some (.inl (.inr ()))
def braidref04_SameIDs (a0 : List (Vector UInt8 32)) (a1 : List (Vector UInt8 32)) : Option (Bool) :=
  if (a0.length : Int) != (a1.length : Int) then
    some false
  else
    orRet (iter (braidref04_SameIDs_L0 a0 a1) 0) fun s2 =>
    some true
set_option maxRecDepth 100000 in
theorem braidref04_SameIDs_ok (a0 : List (Vector UInt8 32)) (a1 : List (Vector UInt8 32)) : Spec Try.prog 62 [.rd (sliceR (arrR 32 u8R)) a0, .rd (sliceR (arrR 32 u8R)) a1] [] (braidref04_SameIDs a0 a1) (fun r nv => ⟨[.rd boolR r], []⟩) := by
  refine spec 26 Try.func62 rfl rfl rfl fun H w => ?_
  refine gSeq <| gReg <| R rfl (asg rfl) <| gNil <| eThen <| gSeq <| gSeq <| gReg <| R rfl (mv rfl) <| R rfl (len' rfl .rd rfl Try.underlying83) <| R rfl (mv rfl) <| R rfl (len' rfl .rd rfl Try.underlying83) <| R rfl (I.neq rfl rfl) <| gNil <| eThen <| gIf rfl rfl (fun h1 => ?_) (fun h1 => ?_)
  · skip
    refine gSeq <| gReg <| R rfl (asg rfl) <| gNil <| eThen <| gRet <| eTret <| eRet [] [] rfl (eE rfl <| eN) (rN)
  · skip
    refine gSkip <| eThen <| gMidR (fun (s2 : Unit) aa ww => Sta (ctx 26 H [] w) [] [] aa ww) ?_ (fun s2 => ?_)
    · skip
      refine gSeq <| gReg <| R rfl (asg rfl) <| gNil <| eThen <| gLoop (fun (s3 : Int) aa ww => Sta (ctx 26 H [] w) [(0, .rd (sliceR (arrR 32 u8R)) a0), (1, .rd (sliceR (arrR 32 u8R)) a1), (5, .rd i64R s3)] [] aa ww) (fun aa ww h => h.sub [] (sS rfl <| sS rfl <| sS rfl <| sN) (rN)) (fun s3 => ?_)
      refine gSeq <| gSeq <| gReg <| R rfl (mv rfl) <| R rfl (mv rfl) <| R rfl (len' rfl .rd rfl Try.underlying83) <| R rfl (I.lss rfl rfl) <| gNil <| eThen <| gIf rfl rfl (fun h4 => ?_) (fun h4 => ?_)
      · skip
        refine gSkip <| eThen <| gSeq <| gBlk <| gSeq <| gRegQ mixed (by kernel_rfl) <| Rq rfl (mv rfl) <| Rq rfl (mv rfl) <| qBind fun x5 h6 => Rq rfl (ixR rfl rfl h6 Try.underlying83 ti102 rfl) <| Rq rfl (ldR rfl ty102) <| Rq rfl (mv rfl) <| Rq rfl (mv rfl) <| qBind fun x7 h8 => Rq rfl (ixR rfl rfl h8 Try.underlying83 ti102 rfl) <| Rq rfl (ldR rfl ty102) <| Rq rfl (neA rfl rfl eq102 rfl rfl gq102) <| qNil <| eThen <| gIf rfl rfl (fun h9 => ?_) (fun h9 => ?_)
        · skip
          refine gSeq <| gReg <| R rfl (asg rfl) <| gNil <| eThen <| gRet <| eBret <| eTret <| eLret <| eMret <| eRet [] [] rfl (eE rfl <| eN) (rN)
        · skip
          refine gSkip <| eBlk <| eThen <| gReg <| R rfl (mv rfl) <| R rfl (I.add rfl rfl) <| R rfl (asg rfl) <| gNil <| eNext (fun aa ww h => h.sub [] (sS rfl <| sS rfl <| sS rfl <| sN) (rN))
      · skip
        refine gExit <| eTexit <| eLeave <| eMidR (fun aa ww h => h.sub [] (sN) (rN))
    · skip
      refine gSeq <| gReg <| R rfl (asg rfl) <| gNil <| eThen <| gRet <| eRet [] [] rfl (eE rfl <| eN) (rN)

def braidref07_Same_L0 (a0 : api_Frame) (a1 : api_Frame) (s11 : Int) : Option (Sum (Sum Bool Unit) Int) :=
  if decide (s11 < (a0.Ops.length : Int)) then
    idx a0.Ops s11 >>= fun x13 =>
    idx a1.Ops s11 >>= fun x15 =>
    braidref01_SameBytes x13 x15 >>= fun r17 =>
    if !r17 then
      some (.inl (.inl false))
    else
      some (w64 (s11 + 1)) >>= fun y20 =>
      some (.inr y20)
  else
    some (.inl (.inr ()))
def braidref07_Same (a0 : api_Frame) (a1 : api_Frame) : Option (Bool) :=
  (if a0.Kind != a1.Kind then
    some true
  else
    if a0.N != a1.N then
      some true
    else
      braidref04_SameIDs a0.IDs a1.IDs >>= fun r6 =>
      if !r6 then
        some true
      else
        some ((a0.Ops.length : Int) != (a1.Ops.length : Int))) >>= fun s3 =>
  if s3 then
    some false
  else
    orRet (iter (braidref07_Same_L0 a0 a1) 0) fun s10 =>
    some true
set_option maxRecDepth 100000 in
theorem braidref07_Same_ok (a0 : api_Frame) (a1 : api_Frame) : Spec Try.prog 78 [.rd R_api_Frame a0, .rd R_api_Frame a1] [] (braidref07_Same a0 a1) (fun r nv => ⟨[.rd boolR r], []⟩) := by
  refine spec 54 Try.func78 rfl rfl rfl fun H w => ?_
  refine gSeq <| gReg <| Eb rfl (bx 1 rfl) fun v1 => Eb rfl (bx 2 rfl) fun v2 => R rfl (asg rfl) <| gNil <| eThen <| gSeq <| gMid (fun (s3 : Bool) aa ww => Sta (ctx 54 H [] w) [(2, .val (ptrTo v1 0)), (3, .val (ptrTo v2 0)), (34, .rd boolR s3)] [(1, some (v1, .box 105 [.rd R_api_Frame a0])), (2, some (v2, .box 105 [.rd R_api_Frame a1]))] aa ww) ?_ (fun s3 => ?_)
  · skip
    refine gReg <| R rfl (faB 1 rfl rfl Try.underlying105 rfl (by exact ti5)) <| R rfl (ld 1 rfl rfl ((Foc.here).part (pt_api_Frame_Kind _)) ty5 rfl) <| R rfl (faB 2 rfl rfl Try.underlying105 rfl (by exact ti5)) <| R rfl (ld 2 rfl rfl ((Foc.here).part (pt_api_Frame_Kind _)) ty5 rfl) <| R rfl (B.neq rfl rfl) <| R rfl (mv rfl) <| lSplit 11 rfl (fun h4 => ?_) (fun h4 => ?_)
    · skip
      refine lKn 10 rfl h4 <| lSkip (gd rfl rfl rfl rfl) rfl rfl <| lSkip (gd rfl rfl rfl rfl) rfl rfl <| lSkip (gd rfl rfl rfl rfl) rfl rfl <| lSkip (gd rfl rfl rfl rfl) rfl rfl <| lSkip (gd rfl rfl rfl rfl) rfl rfl <| R rfl (pkT rfl rfl) <| R rfl (mv rfl) <| lSkip (gd rfl rfl rfl rfl) rfl rfl <| lSkip (gd rfl rfl rfl rfl) rfl rfl <| lSkip (gd rfl rfl rfl rfl) rfl rfl <| lSkip (gd rfl rfl rfl rfl) rfl rfl <| lSkip (gd rfl rfl rfl rfl) rfl rfl <| lSkip (gd rfl rfl rfl rfl) rfl rfl <| R rfl (pkT rfl rfl) <| R rfl (mv rfl) <| lSkip (gd rfl rfl rfl rfl) rfl rfl <| lSkip (gd rfl rfl rfl rfl) rfl rfl <| lSkip (gd rfl rfl rfl rfl) rfl rfl <| lSkip (gd rfl rfl rfl rfl) rfl rfl <| lSkip (gd rfl rfl rfl rfl) rfl rfl <| lSkip (gd rfl rfl rfl rfl) rfl rfl <| lSkip (gd rfl rfl rfl rfl) rfl rfl <| R rfl (pkT rfl rfl) <| gNil <| eMid (fun aa ww h => h.sub [1, 2] (sS rfl <| sS rfl <| sS rfl <| sN) (rR rfl rfl <| rR rfl rfl <| rN))
    · skip
      refine lKn 10 rfl h4 <| lRun (gd rfl rfl rfl rfl) rfl rfl (faB 1 rfl rfl Try.underlying105 rfl (by exact ti31)) <| lRun (gd rfl rfl rfl rfl) rfl rfl (ld 1 rfl rfl ((Foc.here).part (pt_api_Frame_N _)) ty31 rfl) <| lRun (gd rfl rfl rfl rfl) rfl rfl (faB 2 rfl rfl Try.underlying105 rfl (by exact ti31)) <| lRun (gd rfl rfl rfl rfl) rfl rfl (ld 2 rfl rfl ((Foc.here).part (pt_api_Frame_N _)) ty31 rfl) <| lRun (gd rfl rfl rfl rfl) rfl rfl (U.neq rfl rfl) <| R rfl (pkF rfl rfl) <| R rfl (mv rfl) <| lSplit 18 rfl (fun h5 => ?_) (fun h5 => ?_)
      · skip
        refine lKn 16 rfl h5 <| lKn 17 rfl h5 <| lSkip (gd rfl rfl rfl rfl) rfl rfl <| lSkip (gd rfl rfl rfl rfl) rfl rfl <| lSkip (gd rfl rfl rfl rfl) rfl rfl <| lSkip (gd rfl rfl rfl rfl) rfl rfl <| lSkip (gd rfl rfl rfl rfl) rfl rfl <| lSkip (gd rfl rfl rfl rfl) rfl rfl <| R rfl (pkT rfl rfl) <| R rfl (mv rfl) <| lSkip (gd rfl rfl rfl rfl) rfl rfl <| lSkip (gd rfl rfl rfl rfl) rfl rfl <| lSkip (gd rfl rfl rfl rfl) rfl rfl <| lSkip (gd rfl rfl rfl rfl) rfl rfl <| lSkip (gd rfl rfl rfl rfl) rfl rfl <| lSkip (gd rfl rfl rfl rfl) rfl rfl <| lSkip (gd rfl rfl rfl rfl) rfl rfl <| R rfl (pkT rfl rfl) <| gNil <| eMid (fun aa ww h => h.sub [1, 2] (sS rfl <| sS rfl <| sS rfl <| sN) (rR rfl rfl <| rR rfl rfl <| rN))
      · skip
        refine lKn 16 rfl h5 <| lKn 17 rfl h5 <| lRun (gd rfl rfl rfl rfl) rfl rfl (faB 1 rfl rfl Try.underlying105 rfl (by exact ti83)) <| lRun (gd rfl rfl rfl rfl) rfl rfl (ld 1 rfl rfl ((Foc.here).part (pt_api_Frame_IDs _)) ty83 rfl) <| lRun (gd rfl rfl rfl rfl) rfl rfl (faB 2 rfl rfl Try.underlying105 rfl (by exact ti83)) <| lRun (gd rfl rfl rfl rfl) rfl rfl (ld 2 rfl rfl ((Foc.here).part (pt_api_Frame_IDs _)) ty83 rfl) <| callg [] [] (gd rfl rfl rfl rfl) rfl Try.func62 rfl rfl (braidref04_SameIDs_ok _ _) (aQ rfl <| aQ rfl <| aN) rN fun r6 n7 => lRun (gd rfl rfl rfl rfl) rfl rfl (not' rfl) <| R rfl (pkF rfl rfl) <| R rfl (mv rfl) <| lSplit 26 rfl (fun h8 => ?_) (fun h8 => ?_)
        · skip
          refine lKn 24 rfl h8 <| lKn 25 rfl h8 <| lSkip (gd rfl rfl rfl rfl) rfl rfl <| lSkip (gd rfl rfl rfl rfl) rfl rfl <| lSkip (gd rfl rfl rfl rfl) rfl rfl <| lSkip (gd rfl rfl rfl rfl) rfl rfl <| lSkip (gd rfl rfl rfl rfl) rfl rfl <| lSkip (gd rfl rfl rfl rfl) rfl rfl <| lSkip (gd rfl rfl rfl rfl) rfl rfl <| R rfl (pkT rfl rfl) <| gNil <| eMid (fun aa ww h => h.sub [1, 2] (sS rfl <| sS rfl <| sS rfl <| sN) (rR rfl rfl <| rR rfl rfl <| rN))
        · skip
          refine lKn 24 rfl h8 <| lKn 25 rfl h8 <| lRun (gd rfl rfl rfl rfl) rfl rfl (faB 1 rfl rfl Try.underlying105 rfl (by exact ti103)) <| lRun (gd rfl rfl rfl rfl) rfl rfl (ld 1 rfl rfl ((Foc.here).part (pt_api_Frame_Ops _)) ty103 rfl) <| lRun (gd rfl rfl rfl rfl) rfl rfl (len' rfl .rd rfl Try.underlying103) <| lRun (gd rfl rfl rfl rfl) rfl rfl (faB 2 rfl rfl Try.underlying105 rfl (by exact ti103)) <| lRun (gd rfl rfl rfl rfl) rfl rfl (ld 2 rfl rfl ((Foc.here).part (pt_api_Frame_Ops _)) ty103 rfl) <| lRun (gd rfl rfl rfl rfl) rfl rfl (len' rfl .rd rfl Try.underlying103) <| lRun (gd rfl rfl rfl rfl) rfl rfl (I.neq rfl rfl) <| R rfl (pkF rfl rfl) <| gNil <| eMid (fun aa ww h => h.sub [1, 2] (sS rfl <| sS rfl <| sS rfl <| sN) (rR rfl rfl <| rR rfl rfl <| rN))
  · skip
    refine gIf rfl rfl (fun h9 => ?_) (fun h9 => ?_)
    · skip
      refine gSeq <| gReg <| R rfl (asg rfl) <| gNil <| eThen <| gRet <| eTret <| eRet [] [] rfl (eE rfl <| eN) (rN)
    · skip
      refine gSkip <| eThen <| gMidR (fun (s10 : Unit) aa ww => Sta (ctx 54 H [] w) [] [] aa ww) ?_ (fun s10 => ?_)
      · skip
        refine gSeq <| gReg <| R rfl (asg rfl) <| gNil <| eThen <| gLoop (fun (s11 : Int) aa ww => Sta (ctx 54 H [] w) [(2, .val (ptrTo v1 0)), (3, .val (ptrTo v2 0)), (5, .rd i64R s11)] [(1, some (v1, .box 105 [.rd R_api_Frame a0])), (2, some (v2, .box 105 [.rd R_api_Frame a1]))] aa ww) (fun aa ww h => h.sub [1, 2] (sS rfl <| sS rfl <| sS rfl <| sN) (rR rfl rfl <| rR rfl rfl <| rN)) (fun s11 => ?_)
        refine gSeq <| gSeq <| gReg <| R rfl (mv rfl) <| R rfl (faB 1 rfl rfl Try.underlying105 rfl (by exact ti103)) <| R rfl (ld 1 rfl rfl ((Foc.here).part (pt_api_Frame_Ops _)) ty103 rfl) <| R rfl (len' rfl .rd rfl Try.underlying103) <| R rfl (I.lss rfl rfl) <| gNil <| eThen <| gIf rfl rfl (fun h12 => ?_) (fun h12 => ?_)
        · skip
          refine gSkip <| eThen <| gSeq <| gBlk <| gSeq <| gRegH [] mixed rfl rfl <| hTake 0 rfl (by kernel_rfl) (by kernel_rfl) (by kernel_rfl) (gd0 rfl) rfl rfl (faB 1 rfl rfl Try.underlying105 rfl (by exact ti103)) <| hTake 1 rfl (by kernel_rfl) (by kernel_rfl) (by kernel_rfl) (gd0 rfl) rfl rfl (ld 1 rfl rfl ((Foc.here).part (pt_api_Frame_Ops _)) ty103 rfl) <| hTake 2 rfl (by kernel_rfl) (by kernel_rfl) (by kernel_rfl) (gd0 rfl) rfl rfl (mv rfl) <| hBind fun x13 h14 => hTake 3 rfl (by kernel_rfl) (by kernel_rfl) (by kernel_rfl) (gd0 rfl) rfl rfl (ixR rfl rfl h14 Try.underlying103 ti32 rfl) <| hTake 4 rfl (by kernel_rfl) (by kernel_rfl) (by kernel_rfl) (gd0 rfl) rfl rfl (ldR rfl ty32) <| hTake 5 rfl (by kernel_rfl) (by kernel_rfl) (by kernel_rfl) (gd0 rfl) rfl rfl (faB 2 rfl rfl Try.underlying105 rfl (by exact ti103)) <| hTake 6 rfl (by kernel_rfl) (by kernel_rfl) (by kernel_rfl) (gd0 rfl) rfl rfl (ld 2 rfl rfl ((Foc.here).part (pt_api_Frame_Ops _)) ty103 rfl) <| hTake 7 rfl (by kernel_rfl) (by kernel_rfl) (by kernel_rfl) (gd0 rfl) rfl rfl (mv rfl) <| hBind fun x15 h16 => hTake 8 rfl (by kernel_rfl) (by kernel_rfl) (by kernel_rfl) (gd0 rfl) rfl rfl (ixR rfl rfl h16 Try.underlying103 ti32 rfl) <| hTake 9 rfl (by kernel_rfl) (by kernel_rfl) (by kernel_rfl) (gd0 rfl) rfl rfl (ldR rfl ty32) <| hCallF 10 [] [] rfl (by kernel_rfl) rfl (gd0 rfl) rfl Try.func30 rfl rfl (braidref01_SameBytes_ok _ _) (aQ rfl <| aQ rfl <| aN) rN rfl (fun _ _ => flat_bool) fun r17 n18 => hTake 11 rfl (by kernel_rfl) (by kernel_rfl) (by kernel_rfl) (gd0 rfl) rfl rfl (not' rfl) <| hDone (by kernel_rfl) <| eThen <| gIf rfl rfl (fun h19 => ?_) (fun h19 => ?_)
          · skip
            refine gSeq <| gReg <| R rfl (asg rfl) <| gNil <| eThen <| gRet <| eBret <| eTret <| eLret <| eMret <| eRet [] [] rfl (eE rfl <| eN) (rN)
          · skip
            refine gSkip <| eBlk <| eThen <| gReg <| R rfl (mv rfl) <| R rfl (I.add rfl rfl) <| R rfl (asg rfl) <| lName 5 rfl fun y20 => gNil <| eNext (fun aa ww h => h.sub [1, 2] (sS rfl <| sS rfl <| sS rfl <| sN) (rR rfl rfl <| rR rfl rfl <| rN))
        · skip
          refine gExit <| eTexit <| eLeave <| eMidR (fun aa ww h => h.sub [] (sN) (rN))
      · skip
        refine gSeq <| gReg <| R rfl (asg rfl) <| gNil <| eThen <| gRet <| eRet [] [] rfl (eE rfl <| eN) (rN)

set_option maxRecDepth 100000 in
theorem wire_ReadNumber_q0_ok (a0 : List UInt8) (q0 : Value) (l0 : List UInt8) : Spec Try.prog 26 [.vw u8R q0 l0 a0] [(1, some (q0, .list u8R 5 l0))] (wire_ReadNumber a0) (fun r nv => ⟨[.rd u64R r.1, .rd i64R r.2.1, .rd i64R r.2.2], [(1, some (q0, .list u8R 5 l0))]⟩) := by
  refine spec 63 Try.func26 rfl rfl rfl fun H w => ?_
  refine gSeq <| gReg <| R rfl (asg rfl) <| R rfl (asg rfl) <| R rfl (asg rfl) <| gNil <| eThen <| gSeq <| gSeq <| gReg <| R rfl (mv rfl) <| R rfl (len' rfl (.vw 1 rfl) rfl Try.underlying32) <| R rfl (I.eql rfl rfl) <| gNil <| eThen <| gIf rfl rfl (fun h1 => ?_) (fun h1 => ?_)
  · skip
    refine gSeq <| gReg <| R rfl (asg rfl) <| R rfl (asg rfl) <| R rfl (asg rfl) <| gNil <| eThen <| gRet <| eTret <| eRet [] [1] rfl (eE rfl <| eE rfl <| eE rfl <| eN) (rR rfl rfl <| rN)
  · skip
    refine gSkip <| eThen <| gSeq <| gSeq <| gReg <| R rfl (mv rfl) <| lBind fun x2 h3 => R rfl (ixQ 1 rfl rfl rfl h3 Try.underlying32 ti5) <| R rfl (ldQ 1 rfl rfl ty5 rfl) <| R rfl (B.leq rfl rfl) <| gNil <| eThen <| gIf rfl rfl (fun h4 => ?_) (fun h4 => ?_)
    · skip
      refine gSeq <| gReg <| R rfl (mv rfl) <| lBind fun x5 h6 => R rfl (ixQ 1 rfl rfl rfl h6 Try.underlying32 ti5) <| R rfl (ldQ 1 rfl rfl ty5 rfl) <| R rfl (B.toU rfl Try.underlying5 Try.underlying31) <| R rfl (asg rfl) <| R rfl (asg rfl) <| R rfl (asg rfl) <| gNil <| eThen <| gRet <| eTret <| eRet [] [1] rfl (eE rfl <| eE rfl <| eE rfl <| eN) (rR rfl rfl <| rN)
    · skip
      refine gSkip <| eThen <| gSeq <| gReg <| R rfl (mv rfl) <| lBind fun x7 h8 => R rfl (ixQ 1 rfl rfl rfl h8 Try.underlying32 ti5) <| R rfl (ldQ 1 rfl rfl ty5 rfl) <| R rfl (B.toI rfl Try.underlying5 Try.underlying3) <| R rfl (I.sub rfl rfl) <| R rfl (asg rfl) <| lName 5 rfl fun y9 => gNil <| eThen <| gMidR (fun (s10 : Unit) aa ww => Sta (ctx 63 H [(1, some (q0, .list u8R 5 l0))] w) [(0, .vw u8R q0 l0 a0), (5, .rd i64R y9)] [(1, some (q0, .list u8R 5 l0))] aa ww) ?_ (fun s10 => ?_)
      · skip
        refine gSeq <| gReg <| R rfl (mv rfl) <| R rfl (len' rfl (.vw 1 rfl) rfl Try.underlying32) <| R rfl (mv rfl) <| R rfl (I.leq rfl rfl) <| R rfl (mv rfl) <| lSplit 29 rfl (fun h11 => ?_) (fun h11 => ?_)
        · skip
          refine lKn 28 rfl h11 <| lSkip (gd rfl rfl rfl rfl) rfl rfl <| lSkip (gd rfl rfl rfl rfl) rfl rfl <| lSkip (gd rfl rfl rfl rfl) rfl rfl <| lSkip (gd rfl rfl rfl rfl) rfl rfl <| R rfl (pkT rfl rfl) <| R rfl (mv rfl) <| lSkip (gd rfl rfl rfl rfl) rfl rfl <| lSkip (gd rfl rfl rfl rfl) rfl rfl <| lSkip (gd rfl rfl rfl rfl) rfl rfl <| lSkip (gdU rfl rfl rfl) rfl rfl <| lSkip (gdU rfl rfl rfl) rfl rfl <| lSkip (gdU rfl rfl rfl) rfl rfl <| lSkip (gdU rfl rfl rfl) rfl rfl <| lSkip (gd rfl rfl rfl rfl) rfl rfl <| R rfl (pkT rfl rfl) <| gNil <| eThen <| gTrue rfl <| gSeq <| gReg <| R rfl (asg rfl) <| R rfl (asg rfl) <| R rfl (asg rfl) <| gNil <| eThen <| gRet <| eMret <| eRet [] [1] rfl (eE rfl <| eE rfl <| eE rfl <| eN) (rR rfl rfl <| rN)
        · skip
          refine lKn 28 rfl h11 <| lRun (gd rfl rfl rfl rfl) rfl rfl (mv rfl) <| lBind fun x12 h13 => lRun (gd rfl rfl rfl rfl) rfl rfl (ixQ 1 rfl rfl rfl h13 Try.underlying32 ti5) <| lRun (gd rfl rfl rfl rfl) rfl rfl (ldQ 1 rfl rfl ty5 rfl) <| lRun (gd rfl rfl rfl rfl) rfl rfl (B.eql rfl rfl) <| R rfl (pkF rfl rfl) <| R rfl (mv rfl) <| lSplit 35 rfl (fun h14 => ?_) (fun h14 => ?_)
          · skip
            refine lKn 33 rfl h14 <| lKn 34 rfl h14 <| lSkip (gd rfl rfl rfl rfl) rfl rfl <| lSkip (gd rfl rfl rfl rfl) rfl rfl <| lSkip (gd rfl rfl rfl rfl) rfl rfl <| lSkip (gdU rfl rfl rfl) rfl rfl <| lSkip (gdU rfl rfl rfl) rfl rfl <| lSkip (gdU rfl rfl rfl) rfl rfl <| lSkip (gdU rfl rfl rfl) rfl rfl <| lSkip (gd rfl rfl rfl rfl) rfl rfl <| R rfl (pkT rfl rfl) <| gNil <| eThen <| gTrue rfl <| gSeq <| gReg <| R rfl (asg rfl) <| R rfl (asg rfl) <| R rfl (asg rfl) <| gNil <| eThen <| gRet <| eMret <| eRet [] [1] rfl (eE rfl <| eE rfl <| eE rfl <| eN) (rR rfl rfl <| rN)
          · skip
            refine lKn 33 rfl h14 <| lKn 34 rfl h14 <| lRun (gd rfl rfl rfl rfl) rfl rfl (mv rfl) <| lRun (gd rfl rfl rfl rfl) rfl rfl (I.eql rfl rfl) <| lRun (gd rfl rfl rfl rfl) rfl rfl (mv rfl) <| lSplit 38 rfl (fun h15 => ?_) (fun h15 => ?_)
            · skip
              refine lKn 37 rfl h15 <| lRun (gd rfl rfl rfl rfl) rfl rfl (mv rfl) <| lBind fun x16 h17 => lRun (gd rfl rfl rfl rfl) rfl rfl (ixQ 1 rfl rfl rfl h17 Try.underlying32 ti5) <| lRun (gd rfl rfl rfl rfl) rfl rfl (ldQ 1 rfl rfl ty5 rfl) <| lRun (gd rfl rfl rfl rfl) rfl rfl (B.leq rfl rfl) <| lRun (gd rfl rfl rfl rfl) rfl rfl (pkT rfl rfl) <| R rfl (pkF rfl rfl) <| gNil <| eThen <| gIf rfl rfl (fun h18 => ?_) (fun h18 => ?_)
              · skip
                refine gKn 42 rfl h18 <| gKn 43 rfl h18 <| gSeq <| gReg <| R rfl (asg rfl) <| R rfl (asg rfl) <| R rfl (asg rfl) <| gNil <| eThen <| gRet <| eMret <| eRet [] [1] rfl (eE rfl <| eE rfl <| eE rfl <| eN) (rR rfl rfl <| rN)
              · skip
                refine gKn 42 rfl h18 <| gKn 43 rfl h18 <| gSkip <| eMidR (fun aa ww h => h.sub [1] (sS rfl <| sS rfl <| sN) (rR rfl rfl <| rN))
            · skip
              refine lKn 37 rfl h15 <| lSkip (gd rfl rfl rfl rfl) rfl rfl <| lSkip (gd rfl rfl rfl rfl) rfl rfl <| lSkip (gd rfl rfl rfl rfl) rfl rfl <| lSkip (gd rfl rfl rfl rfl) rfl rfl <| lRun (gd rfl rfl rfl rfl) rfl rfl (pkF rfl rfl) <| R rfl (pkF rfl rfl) <| gNil <| eThen <| gFalse rfl <| gSkip <| eMidR (fun aa ww h => h.sub [1] (sS rfl <| sS rfl <| sN) (rR rfl rfl <| rN))
      · skip
        refine gSeq <| gReg <| R rfl (asg rfl) <| gNil <| eThen <| gMid (fun (s19 : UInt64) aa ww => Sta (ctx 63 H [(1, some (q0, .list u8R 5 l0))] w) [(5, .rd i64R y9), (6, .rd u64R s19)] [(1, some (q0, .list u8R 5 l0))] aa ww) ?_ (fun s19 => ?_)
        · skip
          refine gSeq <| gReg <| R rfl (mv rfl) <| R rfl (mv rfl) <| R rfl (I.add rfl rfl) <| lBind fun x20 h21 => R rfl (cutQ 1 rfl vwI rfl (.to rfl) (.to rfl) h21 Try.underlying32 ti5) <| R rfl (len' rfl (.vw 1 rfl) rfl Try.underlying32) <| R rfl (mv rfl) <| gNil <| eThen <| gLoop (fun (s22 : UInt64 × Int) aa ww => Sta (ctx 63 H [(1, some (q0, .list u8R 5 l0))] w) [(5, .rd i64R y9), (6, .rd u64R s22.1), (48, .vw u8R q0 l0 x20), (49, .rd i64R (x20.length : Int)), (50, .rd i64R s22.2)] [(1, some (q0, .list u8R 5 l0))] aa ww) (fun aa ww h => h.sub [1] (sS rfl <| sS rfl <| sS rfl <| sS rfl <| sS rfl <| sN) (rR rfl rfl <| rN)) (fun s22 => ?_)
          refine gSeq <| gReg <| R rfl (I.lss rfl rfl) <| gNil <| eThen <| gSeq <| gIf rfl rfl (fun h23 => ?_) (fun h23 => ?_)
          · skip
            refine gSkip <| eThen <| gSeq <| gBlk <| gSeq <| gReg <| lBind fun x24 h25 => R rfl (ixQ 1 rfl rfl rfl h25 Try.underlying32 ti5) <| R rfl (ldQ 1 rfl rfl ty5 rfl) <| R rfl (asg rfl) <| gNil <| eThen <| gReg <| R rfl (mv rfl) <| R rfl (U.shl rfl rfl (Int.natCast_nonneg _)) <| R rfl (mv rfl) <| R rfl (B.toU rfl Try.underlying5 Try.underlying31) <| R rfl (U.or rfl rfl) <| R rfl (asg rfl) <| lName 6 rfl fun y26 => gNil <| eBlk <| eThen <| gReg <| R rfl (I.add rfl rfl) <| R rfl (mv rfl) <| gNil <| eNext (fun aa ww h => h.sub [1] (sS rfl <| sS rfl <| sS rfl <| sS rfl <| sS rfl <| sN) (rR rfl rfl <| rN))
          · skip
            refine gExit <| eTexit <| eLeave <| eMid (fun aa ww h => h.sub [1] (sS rfl <| sS rfl <| sN) (rR rfl rfl <| rN))
        · skip
          refine gSeq <| gReg <| R rfl (mv rfl) <| R rfl (mv rfl) <| R rfl (I.add rfl rfl) <| R rfl (asg rfl) <| R rfl (asg rfl) <| R rfl (asg rfl) <| gNil <| eThen <| gRet <| eRet [] [1] rfl (eE rfl <| eE rfl <| eE rfl <| eN) (rR rfl rfl <| rN)

set_option maxRecDepth 100000 in
theorem wire_part_q0_ok (a0 : List UInt8) (q0 : Value) (l0 : List UInt8) (a1 : Int) (a2 : Int) : Spec Try.prog 107 [.vw u8R q0 l0 a0, .rd i64R a1, .rd i64R a2] [(1, some (q0, .list u8R 5 l0))] (wire_part a0 a1 a2) (fun r nv => ⟨[.vw u8R q0 l0 r.1, .rd i64R r.2.1, .rd i64R r.2.2], [(1, some (q0, .list u8R 5 l0))]⟩) := by
  refine spec 51 Try.func107 rfl rfl rfl fun H w => ?_
  refine gSeq <| gReg <| R rfl (asg rfl) <| R rfl (asg rfl) <| R rfl (asg rfl) <| gNil <| eThen <| gSeq <| gSeq <| gReg <| R rfl (mv rfl) <| R rfl (I.lss rfl rfl) <| gNil <| eThen <| gIf rfl rfl (fun h1 => ?_) (fun h1 => ?_)
  · skip
    refine gSeq <| gReg <| R rfl (asg rfl) <| R rfl (asg rfl) <| R rfl (asg rfl) <| gNil <| eThen <| gRet <| eTret <| eVwN u8R q0 l0 6 rfl <| eRet [] [1] rfl (eE rfl <| eE rfl <| eE rfl <| eN) (rR rfl rfl <| rN)
  · skip
    refine gSkip <| eThen <| gSeq <| gReg <| R rfl (mv rfl) <| call [1] [(1, 1)] rfl Try.func26 rfl rfl (wire_ReadNumber_q0_ok _ _ _) (aQ rfl <| aN) (rR rfl rfl <| rN) fun r2 n3 => R rfl (mv rfl) <| R rfl (ext rfl rfl) <| R rfl (ext rfl rfl) <| R rfl (ext rfl rfl) <| R rfl (asg rfl) <| R rfl (asg rfl) <| R rfl (asg rfl) <| gNil <| eThen <| gSeq <| gMid (fun (s4 : Bool) aa ww => Sta (ctx 51 H [(1, some (q0, .list u8R 5 l0))] w) [(0, .vw u8R q0 l0 a0), (2, .rd i64R a2), (9, .rd u64R r2.1), (10, .rd i64R r2.2.1), (39, .rd boolR s4)] [(1, some (q0, .list u8R 5 l0))] aa ww) ?_ (fun s4 => ?_)
    · skip
      refine gReg <| R rfl (mv rfl) <| R rfl (I.neq rfl rfl) <| R rfl (mv rfl) <| lSplit 23 rfl (fun h5 => ?_) (fun h5 => ?_)
      · skip
        refine lKn 22 rfl h5 <| lSkip (gd rfl rfl rfl rfl) rfl rfl <| lSkip (gd rfl rfl rfl rfl) rfl rfl <| lSkip (gd rfl rfl rfl rfl) rfl rfl <| lSkip (gd rfl rfl rfl rfl) rfl rfl <| R rfl (pkT rfl rfl) <| R rfl (mv rfl) <| lSkip (gd rfl rfl rfl rfl) rfl rfl <| lSkip (gd rfl rfl rfl rfl) rfl rfl <| lSkip (gd rfl rfl rfl rfl) rfl rfl <| lSkip (gd rfl rfl rfl rfl) rfl rfl <| lSkip (gd rfl rfl rfl rfl) rfl rfl <| lSkip (gd rfl rfl rfl rfl) rfl rfl <| lSkip (gd rfl rfl rfl rfl) rfl rfl <| lSkip (gd rfl rfl rfl rfl) rfl rfl <| lSkip (gd rfl rfl rfl rfl) rfl rfl <| R rfl (pkT rfl rfl) <| gNil <| eMid (fun aa ww h => h.sub [1] (sS rfl <| sS rfl <| sS rfl <| sS rfl <| sS rfl <| sN) (rR rfl rfl <| rN))
      · skip
        refine lKn 22 rfl h5 <| lRun (gd rfl rfl rfl rfl) rfl rfl (mv rfl) <| lRun (gd rfl rfl rfl rfl) rfl rfl (mv rfl) <| lRun (gd rfl rfl rfl rfl) rfl rfl (I.toU rfl Try.underlying3 Try.underlying31) <| lRun (gd rfl rfl rfl rfl) rfl rfl (U.gtr rfl rfl) <| R rfl (pkF rfl rfl) <| R rfl (mv rfl) <| lSplit 29 rfl (fun h6 => ?_) (fun h6 => ?_)
        · skip
          refine lKn 27 rfl h6 <| lKn 28 rfl h6 <| lSkip (gd rfl rfl rfl rfl) rfl rfl <| lSkip (gd rfl rfl rfl rfl) rfl rfl <| lSkip (gd rfl rfl rfl rfl) rfl rfl <| lSkip (gd rfl rfl rfl rfl) rfl rfl <| lSkip (gd rfl rfl rfl rfl) rfl rfl <| lSkip (gd rfl rfl rfl rfl) rfl rfl <| lSkip (gd rfl rfl rfl rfl) rfl rfl <| lSkip (gd rfl rfl rfl rfl) rfl rfl <| lSkip (gd rfl rfl rfl rfl) rfl rfl <| R rfl (pkT rfl rfl) <| gNil <| eMid (fun aa ww h => h.sub [1] (sS rfl <| sS rfl <| sS rfl <| sS rfl <| sS rfl <| sN) (rR rfl rfl <| rN))
        · skip
          refine lKn 27 rfl h6 <| lKn 28 rfl h6 <| lRun (gd rfl rfl rfl rfl) rfl rfl (mv rfl) <| lRun (gd rfl rfl rfl rfl) rfl rfl (mv rfl) <| lRun (gd rfl rfl rfl rfl) rfl rfl (len' rfl (.vw 1 rfl) rfl Try.underlying32) <| lRun (gd rfl rfl rfl rfl) rfl rfl (mv rfl) <| lRun (gd rfl rfl rfl rfl) rfl rfl (I.sub rfl rfl) <| lRun (gd rfl rfl rfl rfl) rfl rfl (mv rfl) <| lBind fun u7 h8 => lRun (gd rfl rfl rfl rfl) rfl rfl (I.quo rfl rfl (chk_some h8)) <| lRun (gd rfl rfl rfl rfl) rfl rfl (I.toU rfl Try.underlying3 Try.underlying31) <| lRun (gd rfl rfl rfl rfl) rfl rfl (U.gtr rfl rfl) <| R rfl (pkF rfl rfl) <| gNil <| eMid (fun aa ww h => h.sub [1] (sS rfl <| sS rfl <| sS rfl <| sS rfl <| sS rfl <| sN) (rR rfl rfl <| rN))
    · skip
      refine gIf rfl rfl (fun h9 => ?_) (fun h9 => ?_)
      · skip
        refine gSeq <| gReg <| R rfl (asg rfl) <| R rfl (asg rfl) <| R rfl (asg rfl) <| gNil <| eThen <| gRet <| eTret <| eVwN u8R q0 l0 6 rfl <| eRet [] [1] rfl (eE rfl <| eE rfl <| eE rfl <| eN) (rR rfl rfl <| rN)
      · skip
        refine gSkip <| eThen <| gSeq <| gReg <| R rfl (mv rfl) <| R rfl (mv rfl) <| R rfl (mv rfl) <| R rfl (U.toI rfl Try.underlying31 Try.underlying3) <| R rfl (I.mul rfl rfl) <| R rfl (I.add rfl rfl) <| R rfl (asg rfl) <| lName 12 rfl fun y10 => gNil <| eThen <| gSeq <| gReg <| R rfl (mv rfl) <| R rfl (mv rfl) <| R rfl (mv rfl) <| lBind fun x11 h12 => R rfl (cutQ 1 rfl vwI rfl (.to rfl) (.to rfl) h12 Try.underlying32 ti5) <| R rfl (mv rfl) <| R rfl (asg rfl) <| R rfl (asg rfl) <| R rfl (asg rfl) <| gNil <| eThen <| gRet <| eRet [] [1] rfl (eE rfl <| eE rfl <| eE rfl <| eN) (rR rfl rfl <| rN)

set_option maxRecDepth 100000 in
theorem wire_ReadIDs_q0_ok (a0 : List UInt8) (q0 : Value) (l0 : List UInt8) (a1 : Int) : Spec Try.prog 61 [.vw u8R q0 l0 a0, .rd i64R a1] [(1, some (q0, .list u8R 5 l0))] (wire_ReadIDs a0 a1) (fun r nv => ⟨[.rd (sliceR (arrR 32 u8R)) r.1, .rd i64R r.2.1, .rd i64R r.2.2], [(1, some (q0, .list u8R 5 l0))]⟩) := by
  refine spec 45 Try.func61 rfl rfl rfl fun H w => ?_
  refine gSeq <| gReg <| R rfl (asg rfl) <| R rfl (asg rfl) <| R rfl (asg rfl) <| gNil <| eThen <| gSeq <| gReg <| R rfl (mv rfl) <| R rfl (mv rfl) <| call [1] [(1, 1)] rfl Try.func107 rfl rfl (wire_part_q0_ok _ _ _ _ _) (aQ rfl <| aQ rfl <| aQ rfl <| aN) (rR rfl rfl <| rN) fun r1 n2 => R rfl (mv rfl) <| R rfl (ext rfl rfl) <| R rfl (ext rfl rfl) <| R rfl (ext rfl rfl) <| R rfl (asg rfl) <| R rfl (asg rfl) <| R rfl (asg rfl) <| gNil <| eThen <| gSeq <| gSeq <| gReg <| R rfl (mv rfl) <| R rfl (I.neq rfl rfl) <| gNil <| eThen <| gIf rfl rfl (fun h3 => ?_) (fun h3 => ?_)
  · skip
    refine gSeq <| gReg <| R rfl (mv rfl) <| R rfl (asg rfl) <| R rfl (asg rfl) <| R rfl (asg rfl) <| gNil <| eThen <| gRet <| eTret <| eRdNil (arrR 32 u8R) 4 rfl <| eRet [] [1] rfl (eE rfl <| eE rfl <| eE rfl <| eN) (rR rfl rfl <| rN)
  · skip
    refine gSkip <| eThen <| gSeq <| gReg <| R rfl (mv rfl) <| R rfl (len' rfl (.vw 1 rfl) rfl Try.underlying32) <| R rfl (I.quo rfl rfl (by decide)) <| lBind fun x4 h5 => Ef rfl (mks 2 rfl rfl h5 Try.underlying83 ti102 zr101 rfl) fun v6 => R rfl (asg rfl) <| gNil <| eThen <| gMid (fun (s7 : (List (Vector UInt8 32))) aa ww => Sta (ctx 45 H [(1, some (q0, .list u8R 5 l0))] w) [(8, .rd i64R r1.2.1), (10, .val v6)] [(2, some (v6, .list (arrR 32 u8R) 102 s7)), (1, some (q0, .list u8R 5 l0))] aa ww) ?_ (fun s7 => ?_)
    · skip
      refine gSeq <| gReg <| R rfl (mv rfl) <| R rfl (len' rfl (.own 2 rfl) rfl Try.underlying83) <| R rfl (mv rfl) <| gNil <| eThen <| gLoop (fun (s8 : (List UInt8) × (List (Vector UInt8 32)) × Int) aa ww => Sta (ctx 45 H [(1, some (q0, .list u8R 5 l0))] w) [(7, .vw u8R q0 l0 s8.1), (8, .rd i64R r1.2.1), (10, .val v6), (27, .rd i64R (x4.length : Int)), (28, .rd i64R s8.2.2)] [(1, some (q0, .list u8R 5 l0)), (2, some (v6, .list (arrR 32 u8R) 102 s8.2.1))] aa ww) (fun aa ww h => h.sub [1, 2] (sS rfl <| sS rfl <| sS rfl <| sS rfl <| sS rfl <| sN) (rR rfl rfl <| rR rfl rfl <| rN)) (fun s8 => ?_)
      refine gSeq <| gReg <| R rfl (I.lss rfl rfl) <| gNil <| eThen <| gSeq <| gIf rfl rfl (fun h9 => ?_) (fun h9 => ?_)
      · skip
        refine gSkip <| eThen <| gSeq <| gBlk <| gSeq <| gReg <| R rfl (mv rfl) <| R rfl (asg rfl) <| gNil <| eThen <| gReg <| R rfl (mv rfl) <| R rfl (mv rfl) <| R rfl (mv rfl) <| lBind fun x10 h11 => R rfl (ixO 2 rfl rfl rfl h11 Try.underlying83 ti102) <| R rfl (cutW 2 rfl rfl (Foc.el h11) Try.underlying102 ti5 rfl) <| R rfl (mv rfl) <| lCpy 2 rfl rfl rfl (Foc.el h11) rfl (.vw 1 rfl) rfl Try.underlying32 ti5 <| lBind fun x12 h13 => R rfl (cutQ 1 rfl vwI rfl (.to rfl) .no h13 Try.underlying32 ti5) <| R rfl (asg rfl) <| gNil <| eBlk <| eThen <| gReg <| R rfl (I.add rfl rfl) <| R rfl (mv rfl) <| gNil <| eNext (fun aa ww h => h.sub [1, 2] (sS rfl <| sS rfl <| sS rfl <| sS rfl <| sS rfl <| sN) (rR rfl rfl <| rR rfl rfl <| rN))
      · skip
        refine gExit <| eTexit <| eLeave <| eMid (fun aa ww h => h.sub [2, 1] (sS rfl <| sS rfl <| sN) (rR rfl rfl <| rR rfl rfl <| rN))
    · skip
      refine gSeq <| gSeq <| gReg <| R rfl (mv rfl) <| lFrz 2 [10, 40] rfl (fS rfl <| fS rfl <| fN) <| call [] [] rfl Try.func115 rfl rfl (wire_rising_ok _) (aQ rfl <| aN) rN fun r14 n15 => R rfl (not' rfl) <| gNil <| eThen <| gIf rfl rfl (fun h16 => ?_) (fun h16 => ?_)
      · skip
        refine gSeq <| gReg <| R rfl (asg rfl) <| R rfl (asg rfl) <| R rfl (asg rfl) <| gNil <| eThen <| gRet <| eTret <| eRdNil (arrR 32 u8R) 4 rfl <| eRet [] [1] rfl (eE rfl <| eE rfl <| eE rfl <| eN) (rR rfl rfl <| rN)
      · skip
        refine gSkip <| eThen <| gSeq <| gReg <| R rfl (mv rfl) <| R rfl (mv rfl) <| R rfl (asg rfl) <| R rfl (asg rfl) <| R rfl (asg rfl) <| gNil <| eThen <| gRet <| eRet [] [1] rfl (eE rfl <| eE rfl <| eE rfl <| eN) (rR rfl rfl <| rN)

set_option maxRecDepth 100000 in
theorem bytes_Clone_q0_ok (a0 : List UInt8) (q0 : Value) (l0 : List UInt8) : Spec Try.prog 108 [.vw u8R q0 l0 a0] [(1, some (q0, .list u8R 5 l0))] (bytes_Clone a0) (fun r nv => ⟨[.val (nv 0)], [(1, some (q0, .list u8R 5 l0)), (100, some (nv 0, .list u8R 5 r))]⟩) := by
  refine spec 8 Try.func108 rfl rfl rfl fun H w => ?_
  refine gSeq <| gReg <| R rfl (asg rfl) <| gNil <| eThen <| gSeq <| gSeq <| gReg <| R rfl (mv rfl) <| lNilE rfl rfl (.vw 1 rfl) rfl Try.underlying32 (fun h1 => ?_) ?_
  · skip
    subst h1
    refine gNil <| eThen <| gTrue rfl <| gSeq <| gReg <| R rfl (asg rfl) <| gNil <| eThen <| gRet <| eTret <| eNew u8R 5 2 <| eRet [(.slice none 0 0)] [1, 2] rfl (eE rfl <| eN) (rR rfl rfl <| rR rfl rfl <| rN)
  · skip
    refine gNil <| eThen <| gFalse rfl <| gSkip <| eThen <| gSeq <| gReg <| Ef rfl (lit (R := u8R) (([] : List UInt8) : List UInt8) 3 (pN) rfl Try.underlying32 ti5 rfl rfl) fun v2 => R rfl (mv rfl) <| lBind fun x3 h4 => Ef rfl (apn 3 rfl rfl rfl (.vw 1 rfl) h4 Try.underlying32 ti5 rfl rfl rfl) fun v5 => R rfl (asg rfl) <| gNil <| eThen <| gRet <| eRet [v5] [1, 3] rfl (eE rfl <| eN) (rR rfl rfl <| rR rfl rfl <| rN)

set_option maxRecDepth 100000 in
theorem wire_ReadBytes_q0_ok (a0 : List UInt8) (q0 : Value) (l0 : List UInt8) (a1 : Int) : Spec Try.prog 48 [.vw u8R q0 l0 a0, .rd i64R a1] [(1, some (q0, .list u8R 5 l0))] (wire_ReadBytes a0 a1) (fun r nv => ⟨[.val (nv 0), .rd i64R r.2.1, .rd i64R r.2.2], [(1, some (q0, .list u8R 5 l0)), (100, some (nv 0, .list u8R 5 r.1))]⟩) := by
  refine spec 21 Try.func48 rfl rfl rfl fun H w => ?_
  refine gSeq <| gReg <| R rfl (asg rfl) <| R rfl (asg rfl) <| R rfl (asg rfl) <| gNil <| eThen <| gSeq <| gReg <| R rfl (mv rfl) <| R rfl (mv rfl) <| call [1] [(1, 1)] rfl Try.func107 rfl rfl (wire_part_q0_ok _ _ _ _ _) (aQ rfl <| aQ rfl <| aQ rfl <| aN) (rR rfl rfl <| rN) fun r1 n2 => R rfl (mv rfl) <| R rfl (ext rfl rfl) <| R rfl (ext rfl rfl) <| R rfl (ext rfl rfl) <| R rfl (asg rfl) <| R rfl (asg rfl) <| R rfl (asg rfl) <| gNil <| eThen <| gSeq <| gReg <| R rfl (mv rfl) <| call [1] [(100, 2), (1, 1)] rfl Try.func108 rfl rfl (bytes_Clone_q0_ok _ _ _) (aQ rfl <| aN) (rR rfl rfl <| rN) fun r3 n4 => R rfl (mv rfl) <| R rfl (mv rfl) <| R rfl (asg rfl) <| R rfl (asg rfl) <| R rfl (asg rfl) <| gNil <| eThen <| gRet <| eRet [(n4 0)] [1, 2] rfl (eE rfl <| eE rfl <| eE rfl <| eN) (rR rfl rfl <| rR rfl rfl <| rN)

set_option maxRecDepth 100000 in
theorem frame_read_q1_ok (a0 : UInt8) (a1 : List UInt8) (q1 : Value) (l1 : List UInt8) : Spec Try.prog 125 [.rd u8R a0, .vw u8R q1 l1 a1] [(1, some (q1, .list u8R 5 l1))] (frame_read a0 a1) (fun r nv => ⟨[.rd R_api_Frame r.1, .rd i64R r.2], [(1, some (q1, .list u8R 5 l1))]⟩) := by
  refine spec 75 Try.func125 rfl rfl rfl fun H w => ?_
  refine gSeq <| gReg <| Eb rfl (allc 2 ti105 (ZrE.rd (R := u8R) (x := 0) (Zr.num rfl) (ZrE.rd (R := u64R) (x := 0) (Zr.num rfl) (ZrE.nilS (ZrE.nilS ZrE.nil)) rfl) rfl)) fun v1 => R rfl (asg rfl) <| gNil <| eThen <| gSeq <| gReg <| R rfl (mv rfl) <| R rfl (faB 2 rfl rfl Try.underlying105 rfl (by exact ti5)) <| Es (sto 2 rfl rfl (Foc.cast Foc.here rfl) rfl ti5) <| gNil <| eThen <| gMidR (fun (s2 : UInt64 × (List (Vector UInt8 32)) × (List (List UInt8)) × Int) aa ww => ∃ nv : Nat → Value, Sta (ctx 75 H [(1, some (q1, .list u8R 5 l1))] w) [(4, .val (ptrTo v1 0)), (5, .rd i64R s2.2.2.2)] [(16, some ((nv 0), .list (sliceR u8R) 32 s2.2.2.1)), (2, some (v1, .box 105 [.rd u8R a0, .rd u64R s2.1, .rd (sliceR (arrR 32 u8R)) s2.2.1, .val (nv 0)])), (1, some (q1, .list u8R 5 l1))] aa ww) ?_ (fun s2 => ?_)
  · skip
    refine gBlk <| gSeq <| gReg <| R rfl (mv rfl) <| call [] [] rfl Try.func121 rfl rfl (frame_listed_ok _) (aQ rfl <| aN) rN fun r3 n4 => R rfl (asg rfl) <| gNil <| eThen <| gIf rfl rfl (fun h5 => ?_) (fun h5 => ?_)
    · skip
      refine gKn 23 rfl h5 <| gReg <| R rfl (mv rfl) <| call [1] [(1, 1)] rfl Try.func61 rfl rfl (wire_ReadIDs_q0_ok _ _ _ _) (aQ rfl <| aQ rfl <| aN) (rR rfl rfl <| rN) fun r6 n7 => R rfl (mv rfl) <| R rfl (ext rfl rfl) <| R rfl (ext rfl rfl) <| R rfl (ext rfl rfl) <| R rfl (faB 2 rfl rfl Try.underlying105 rfl (by exact ti83)) <| Es (stoE 2 rfl rfl (Swap.cast (Swap.next fills_rd (Swap.next fills_rd (Swap.here fills_val))) rfl) rfl ones_rd fills_rd ti83) <| R rfl (asg rfl) <| gNil <| eBlk <| eNew (sliceR u8R) 32 17 <| eMidR (fun aa ww h => ⟨nvl [(.slice none 0 0)], h.sub [17, 2, 1] (sS rfl <| sS rfl <| sN) (rR rfl rfl <| rR rfl rfl <| rR rfl rfl <| rN)⟩)
    · skip
      refine gKn 23 rfl h5 <| gSeq <| gReg <| R rfl (mv rfl) <| R rfl (B.eql rfl rfl) <| R rfl (asg rfl) <| gNil <| eThen <| gIf rfl rfl (fun h8 => ?_) (fun h8 => ?_)
      · skip
        refine gKn 33 rfl h8 <| gSeq <| gReg <| R rfl (mv rfl) <| call [1] [(1, 1)] rfl Try.func26 rfl rfl (wire_ReadNumber_q0_ok _ _ _) (aQ rfl <| aN) (rR rfl rfl <| rN) fun r9 n10 => R rfl (mv rfl) <| R rfl (ext rfl rfl) <| R rfl (ext rfl rfl) <| R rfl (ext rfl rfl) <| R rfl (asg rfl) <| R rfl (asg rfl) <| R rfl (asg rfl) <| gNil <| eThen <| gSeq <| gMid (fun (s11 : Bool) aa ww => Sta (ctx 75 H [(1, some (q1, .list u8R 5 l1))] w) [(1, .vw u8R q1 l1 a1), (4, .val (ptrTo v1 0)), (5, .rd i64R 0), (6, .rd u64R r9.1), (7, .rd i64R r9.2.1), (45, .rd boolR s11)] [(1, some (q1, .list u8R 5 l1)), (2, some (v1, .box 105 [.rd u8R a0, .rd u64R 0, .val (.slice none 0 0), .val (.slice none 0 0)]))] aa ww) ?_ (fun s11 => ?_)
        · skip
          refine gReg <| R rfl (mv rfl) <| R rfl (I.neq rfl rfl) <| R rfl (mv rfl) <| lSplit 42 rfl (fun h12 => ?_) (fun h12 => ?_)
          · skip
            refine lKn 41 rfl h12 <| lSkip (gd rfl rfl rfl rfl) rfl rfl <| lSkip (gd rfl rfl rfl rfl) rfl rfl <| R rfl (pkT rfl rfl) <| gNil <| eMid (fun aa ww h => h.sub [1, 2] (sS rfl <| sS rfl <| sS rfl <| sS rfl <| sS rfl <| sS rfl <| sN) (rR rfl rfl <| rR rfl rfl <| rN))
          · skip
            refine lKn 41 rfl h12 <| lRun (gd rfl rfl rfl rfl) rfl rfl (mv rfl) <| lRun (gd rfl rfl rfl rfl) rfl rfl (U.gtr rfl rfl) <| R rfl (pkF rfl rfl) <| gNil <| eMid (fun aa ww h => h.sub [1, 2] (sS rfl <| sS rfl <| sS rfl <| sS rfl <| sS rfl <| sS rfl <| sN) (rR rfl rfl <| rR rfl rfl <| rN))
        · skip
          refine gIf rfl rfl (fun h13 => ?_) (fun h13 => ?_)
          · skip
            refine gSeq <| gReg <| lPnl (arrR 32 u8R) [.rd u8R a0, .rd u64R 0, .rd (sliceR (arrR 32 u8R)) [], .val (.slice none 0 0)] 2 [.rd u8R a0, .rd u64R 0] [.val (.slice none 0 0)] rfl rfl rfl <| lPnl (sliceR u8R) [.rd u8R a0, .rd u64R 0, .rd (sliceR (arrR 32 u8R)) [], .rd (sliceR (sliceR u8R)) []] 2 [.rd u8R a0, .rd u64R 0, .rd (sliceR (arrR 32 u8R)) []] [] rfl rfl rfl <| lJoi (R := R_api_Frame) (⟨a0, 0, [], []⟩ : api_Frame) 2 rfl (Sp.via (Sp.prod (Sp.prod (Sp.prod (Sp.prod Sp.unit))))) <| R rfl (ld 2 rfl rfl Foc.here ty105 rfl) <| Es (sto 2 rfl rfl Foc.here rfl ti105) <| R rfl (asg rfl) <| gNil <| eThen <| gRet <| eTret <| eBret <| eMret <| eRet [] [1] rfl (eC 2 rfl rfl ty105 <| eE rfl <| eN) (rR rfl rfl <| rN)
          · skip
            refine gSkip <| eThen <| gSeq <| gReg <| R rfl (mv rfl) <| R rfl (mv rfl) <| lBind fun x14 h15 => R rfl (cutQ 1 rfl vwI rfl (.to rfl) .no h15 Try.underlying32 ti5) <| R rfl (asg rfl) <| gNil <| eThen <| gNew (sliceR u8R) 32 32 <| gLoop (fun (s16 : (List UInt8) × (List (List UInt8)) × UInt64) aa ww => ∃ nv : Nat → Value, Sta (ctx 75 H [(1, some (q1, .list u8R 5 l1))] w) [(1, .vw u8R q1 l1 s16.1), (4, .val (ptrTo v1 0)), (5, .rd i64R 0), (6, .rd u64R s16.2.2)] [(1, some (q1, .list u8R 5 l1)), (31, some ((nv 0), .list (sliceR u8R) 32 s16.2.1)), (2, some (v1, .box 105 [.rd u8R a0, .rd u64R 0, .val (.slice none 0 0), .val (nv 0)]))] aa ww) (fun aa ww h => ⟨nvl [(.slice none 0 0)], h.sub [1, 32, 2] (sS rfl <| sS rfl <| sS rfl <| sS rfl <| sN) (rR rfl rfl <| rR rfl rfl <| rR rfl rfl <| rN)⟩) (fun s16 => ?_)
            refine gEx fun n17 => gSeq <| gSeq <| gReg <| R rfl (mv rfl) <| R rfl (U.gtr rfl rfl) <| gNil <| eThen <| gIf rfl rfl (fun h18 => ?_) (fun h18 => ?_)
            · skip
              refine gSkip <| eThen <| gSeq <| gBlk <| gSeq <| gReg <| R rfl (mv rfl) <| call [1] [(100, 33), (1, 1)] rfl Try.func48 rfl rfl (wire_ReadBytes_q0_ok _ _ _ _) (aQ rfl <| aQ rfl <| aN) (rR rfl rfl <| rN) fun r19 n20 => R rfl (mv rfl) <| R rfl (ext rfl rfl) <| R rfl (ext rfl rfl) <| R rfl (ext rfl rfl) <| R rfl (asg rfl) <| R rfl (asg rfl) <| R rfl (asg rfl) <| gNil <| eThen <| gSeq <| gSeq <| gReg <| R rfl (mv rfl) <| R rfl (I.neq rfl rfl) <| gNil <| eThen <| gIf rfl rfl (fun h21 => ?_) (fun h21 => ?_)
              · skip
                refine gSeq <| gReg <| lPnl (arrR 32 u8R) [.rd u8R a0, .rd u64R 0, .rd (sliceR (arrR 32 u8R)) [], .val (n17 0)] 2 [.rd u8R a0, .rd u64R 0] [.val (n17 0)] rfl rfl rfl <| lPow [.rd u8R a0, .rd u64R 0, .rd (sliceR (arrR 32 u8R)) [], .rd (sliceR (sliceR u8R)) s16.2.1] 2 31 [.rd u8R a0, .rd u64R 0, .rd (sliceR (arrR 32 u8R)) []] [] rfl rfl rfl rfl rfl <| lJoi (R := R_api_Frame) (⟨a0, 0, [], s16.2.1⟩ : api_Frame) 2 rfl (Sp.via (Sp.prod (Sp.prod (Sp.prod (Sp.prod Sp.unit))))) <| R rfl (ld 2 rfl rfl Foc.here ty105 rfl) <| R rfl (mv rfl) <| Es (sto 2 rfl rfl Foc.here rfl ti105) <| R rfl (asg rfl) <| gNil <| eThen <| gRet <| eTret <| eBret <| eTret <| eLret <| eBret <| eMret <| eRet [] [1] rfl (eC 2 rfl rfl ty105 <| eE rfl <| eN) (rR rfl rfl <| rN)
              · skip
                refine gSkip <| eThen <| gRegH [2, 31, 43] mixed rfl rfl <| hTake 0 rfl (by kernel_rfl) (by kernel_rfl) (by kernel_rfl) (gd0 rfl) rfl rfl (faB 2 rfl rfl Try.underlying105 rfl (by exact ti103)) <| hTake 2 rfl (by kernel_rfl) (by kernel_rfl) (by kernel_rfl) (gd0 rfl) rfl rfl (mv rfl) <| hTake 5 rfl (by kernel_rfl) (by kernel_rfl) (by kernel_rfl) (gd0 rfl) rfl rfl (mv rfl) <| hTake 6 rfl (by kernel_rfl) (by kernel_rfl) (by kernel_rfl) (gd0 rfl) rfl rfl (mv rfl) <| hBind fun x22 h23 => hTake 7 rfl (by kernel_rfl) (by kernel_rfl) (by kernel_rfl) (gd0 rfl) rfl rfl (cutQ 1 rfl vwI rfl (.to rfl) .no h23 Try.underlying32 ti5) <| hAlt [1, 3] (by kernel_rfl) rfl ⟨?_, ?_, trivial⟩
                · skip
                  refine oRun 1 rfl (gd0 rfl) rfl rfl flat_val (ldV 2 rfl rfl (At.cast (At.next fills_rd (At.next fills_rd (At.next fills_val At.here))) rfl) sc103 rfl) <| hFrz 33 [57, 9, 66] rfl (fS rfl <| fS rfl <| fS rfl <| fN) <| hDo 3 rfl (by kernel_rfl) (gd0 rfl) rfl rfl rfl (lit (R := (sliceR u8R)) ([r19.1] : List (List UInt8)) 43 (pP rfl rfl <| pN) rfl Try.underlying103 ti32 rfl rfl) (fun _ => rfl) fun v24 => hFrz 43 [67] rfl (fS rfl <| fN) <| hBind fun x25 h26 => hDo 4 rfl (by kernel_rfl) (gd0 rfl) rfl rfl rfl (apn 31 rfl rfl rfl .rd h26 Try.underlying103 ti32 rfl rfl rfl) (fun _ => rfl) fun v27 => hTake 8 rfl (by kernel_rfl) (by kernel_rfl) (by kernel_rfl) (gd0 rfl) rfl rfl (faB 2 rfl rfl Try.underlying105 rfl (by exact ti103)) <| hDoS 9 rfl (by kernel_rfl) (gd0 rfl) rfl rfl rfl rfl (stoE 2 rfl rfl (Swap.cast (Swap.next fills_rd (Swap.next fills_rd (Swap.next fills_val (Swap.here fills_val)))) rfl) rfl ones_val fills_val ti103) <| hTake 10 rfl (by kernel_rfl) (by kernel_rfl) (by kernel_rfl) (gd0 rfl) rfl rfl (asg rfl) <| hDone (by kernel_rfl) <| eBlk <| eThen <| gReg <| R rfl (mv rfl) <| R rfl (U.sub rfl rfl) <| R rfl (asg rfl) <| gNil <| eNext (fun aa ww h => ⟨nvl [v27], h.sub [1, 31, 2] (sS rfl <| sS rfl <| sS rfl <| sS rfl <| sN) (rR rfl rfl <| rR rfl rfl <| rR rfl rfl <| rN)⟩)
                · skip
                  refine oFrz 33 [57, 9, 66] rfl (fS rfl <| fS rfl <| fS rfl <| fN) <| oDo 3 rfl (gd0 rfl) rfl rfl rfl (lit (R := (sliceR u8R)) ([r19.1] : List (List UInt8)) 43 (pP rfl rfl <| pN) rfl Try.underlying103 ti32 rfl rfl) (fun _ => rfl) fun v28 => hRun 1 rfl (by kernel_rfl) (gd0 rfl) rfl rfl flat_val (ldV 2 rfl rfl (At.cast (At.next fills_rd (At.next fills_rd (At.next fills_val At.here))) rfl) sc103 rfl) <| hFrz 43 [67] rfl (fS rfl <| fN) <| hBind fun x29 h30 => hDo 4 rfl (by kernel_rfl) (gd0 rfl) rfl rfl rfl (apn 31 rfl rfl rfl .rd h30 Try.underlying103 ti32 rfl rfl rfl) (fun _ => rfl) fun v31 => hTake 8 rfl (by kernel_rfl) (by kernel_rfl) (by kernel_rfl) (gd0 rfl) rfl rfl (faB 2 rfl rfl Try.underlying105 rfl (by exact ti103)) <| hDoS 9 rfl (by kernel_rfl) (gd0 rfl) rfl rfl rfl rfl (stoE 2 rfl rfl (Swap.cast (Swap.next fills_rd (Swap.next fills_rd (Swap.next fills_val (Swap.here fills_val)))) rfl) rfl ones_val fills_val ti103) <| hTake 10 rfl (by kernel_rfl) (by kernel_rfl) (by kernel_rfl) (gd0 rfl) rfl rfl (asg rfl) <| hDone (by kernel_rfl) <| eBlk <| eThen <| gReg <| R rfl (mv rfl) <| R rfl (U.sub rfl rfl) <| R rfl (asg rfl) <| gNil <| eNext (fun aa ww h => ⟨nvl [v31], h.sub [1, 31, 2] (sS rfl <| sS rfl <| sS rfl <| sS rfl <| sN) (rR rfl rfl <| rR rfl rfl <| rR rfl rfl <| rN)⟩)
            · skip
              refine gExit <| eTexit <| eLeave <| eBlk <| ePnl (arrR 32 u8R) [.rd u8R a0, .rd u64R 0, .rd (sliceR (arrR 32 u8R)) [], .val (n17 0)] 2 [.rd u8R a0, .rd u64R 0] [.val (n17 0)] rfl rfl rfl <| eMidR (fun aa ww h => ⟨nvl [(n17 0)], h.sub [31, 2, 1] (sS rfl <| sS rfl <| sN) (rR rfl rfl <| rR rfl rfl <| rR rfl rfl <| rN)⟩)
      · skip
        refine gKn 33 rfl h8 <| gReg <| R rfl (mv rfl) <| call [1] [(1, 1)] rfl Try.func26 rfl rfl (wire_ReadNumber_q0_ok _ _ _) (aQ rfl <| aN) (rR rfl rfl <| rN) fun r32 n33 => R rfl (mv rfl) <| R rfl (ext rfl rfl) <| R rfl (ext rfl rfl) <| R rfl (ext rfl rfl) <| R rfl (faB 2 rfl rfl Try.underlying105 rfl (by exact ti31)) <| Es (sto 2 rfl rfl (Foc.cast (Foc.next fills_rd Foc.here) rfl) rfl ti31) <| R rfl (asg rfl) <| gNil <| eBlk <| ePnl (arrR 32 u8R) [.rd u8R a0, .rd u64R r32.1, .rd (sliceR (arrR 32 u8R)) [], .val (.slice none 0 0)] 2 [.rd u8R a0, .rd u64R r32.1] [.val (.slice none 0 0)] rfl rfl rfl <| eNew (sliceR u8R) 32 70 <| eMidR (fun aa ww h => ⟨nvl [(.slice none 0 0)], h.sub [70, 2, 1] (sS rfl <| sS rfl <| sN) (rR rfl rfl <| rR rfl rfl <| rR rfl rfl <| rN)⟩)
  · skip
    refine gEx fun n34 => gSeq <| gReg <| lPow [.rd u8R a0, .rd u64R s2.1, .rd (sliceR (arrR 32 u8R)) s2.2.1, .rd (sliceR (sliceR u8R)) s2.2.2.1] 2 16 [.rd u8R a0, .rd u64R s2.1, .rd (sliceR (arrR 32 u8R)) s2.2.1] [] rfl rfl rfl rfl rfl <| lJoi (R := R_api_Frame) (⟨a0, s2.1, s2.2.1, s2.2.2.1⟩ : api_Frame) 2 rfl (Sp.via (Sp.prod (Sp.prod (Sp.prod (Sp.prod Sp.unit))))) <| R rfl (ld 2 rfl rfl Foc.here ty105 rfl) <| R rfl (mv rfl) <| Es (sto 2 rfl rfl Foc.here rfl ti105) <| R rfl (asg rfl) <| gNil <| eThen <| gRet <| eRet [] [1] rfl (eC 2 rfl rfl ty105 <| eE rfl <| eN) (rR rfl rfl <| rN)

set_option maxRecDepth 100000 in
theorem bytes_Equal_q1_ok (a0 : List UInt8) (a1 : List UInt8) (q1 : Value) (l1 : List UInt8) : Spec Try.prog 126 [.rd (sliceR u8R) a0, .vw u8R q1 l1 a1] [(1, some (q1, .list u8R 5 l1))] (bytes_Equal a0 a1) (fun r nv => ⟨[.rd boolR r], [(1, some (q1, .list u8R 5 l1))]⟩) := by
  refine spec 10 Try.func126 rfl rfl rfl fun H w => ?_
  refine gSeq <| gReg <| R rfl (asg rfl) <| gNil <| eThen <| gSeq <| gReg <| R rfl (mv rfl) <| R rfl (cvBS rfl Try.underlying32 Try.underlying5 Try.underlying9) <| R rfl (mv rfl) <| R rfl (cvBQ 1 rfl vwI rfl Try.underlying32 Try.underlying5 Try.underlying9 rfl) <| R rfl (eqS rfl rfl) <| R rfl (asg rfl) <| gNil <| eThen <| gRet <| eRet [] [1] rfl (eE rfl <| eN) (rR rfl rfl <| rN)

set_option maxRecDepth 100000 in
theorem frame_Parse_q0_ok (a0 : List UInt8) (q0 : Value) (l0 : List UInt8) : Spec Try.prog 79 [.vw u8R q0 l0 a0] [(1, some (q0, .list u8R 5 l0))] (frame_Parse a0) (fun r nv => ⟨[.rd R_api_Frame r.1, .rd i64R r.2], [(1, some (q0, .list u8R 5 l0))]⟩) := by
  refine spec 44 Try.func79 rfl rfl rfl fun H w => ?_
  refine gSeq <| gReg <| Eb rfl (allc 2 ti105 (ZrE.rd (R := u8R) (x := 0) (Zr.num rfl) (ZrE.rd (R := u64R) (x := 0) (Zr.num rfl) (ZrE.nilS (ZrE.nilS ZrE.nil)) rfl) rfl)) fun v1 => R rfl (asg rfl) <| gNil <| eThen <| gSeq <| gMid (fun (s2 : Bool) aa ww => Sta (ctx 44 H [(1, some (q0, .list u8R 5 l0))] w) [(0, .vw u8R q0 l0 a0), (2, .val (ptrTo v1 0)), (15, .rd boolR s2)] [(1, some (q0, .list u8R 5 l0)), (2, some (v1, .box 105 [.rd u8R 0, .rd u64R 0, .val (.slice none 0 0), .val (.slice none 0 0)]))] aa ww) ?_ (fun s2 => ?_)
  · skip
    refine gReg <| R rfl (mv rfl) <| R rfl (len' rfl (.vw 1 rfl) rfl Try.underlying32) <| R rfl (I.eql rfl rfl) <| R rfl (mv rfl) <| lSplit 11 rfl (fun h3 => ?_) (fun h3 => ?_)
    · skip
      refine lKn 10 rfl h3 <| lSkip (gd rfl rfl rfl rfl) rfl rfl <| lSkip (gd rfl rfl rfl rfl) rfl rfl <| lSkip (gd rfl rfl rfl rfl) rfl rfl <| R rfl (pkT rfl rfl) <| gNil <| eMid (fun aa ww h => h.sub [1, 2] (sS rfl <| sS rfl <| sS rfl <| sN) (rR rfl rfl <| rR rfl rfl <| rN))
    · skip
      refine lKn 10 rfl h3 <| lRun (gd rfl rfl rfl rfl) rfl rfl (mv rfl) <| lRun (gd rfl rfl rfl rfl) rfl rfl (len' rfl (.vw 1 rfl) rfl Try.underlying32) <| lRun (gd rfl rfl rfl rfl) rfl rfl (I.gtr rfl rfl) <| R rfl (pkF rfl rfl) <| gNil <| eMid (fun aa ww h => h.sub [1, 2] (sS rfl <| sS rfl <| sS rfl <| sN) (rR rfl rfl <| rR rfl rfl <| rN))
  · skip
    refine gIf rfl rfl (fun h4 => ?_) (fun h4 => ?_)
    · skip
      refine gSeq <| gReg <| R rfl (bldE [(0, 1), (1, 1), (2, 1), (3, 1)] Try.underlying105 ti105 (ZrE.rd (R := u8R) (x := 0) (Zr.num rfl) (ZrE.rd (R := u64R) (x := 0) (Zr.num rfl) (ZrE.nilS (ZrE.nilS ZrE.nil)) rfl) rfl) rfl (BldE.done rfl)) <| Es (stoG 2 rfl rfl (fillsL.cast (fillsL.cons fills_rd (fillsL.cons fills_rd (fillsL.cons fills_val (fillsL.cons fills_val fillsL.nil)))) rfl) rfl (onesL.cons ones_rd (onesL.cons ones_rd (onesL.cons ones_val (onesL.cons ones_val onesL.nil)))) (fillsL.cast (fillsL.cons fills_rd (fillsL.cons fills_rd (fillsL.cons fills_val (fillsL.cons fills_val fillsL.nil)))) rfl) ti105) <| R rfl (asg rfl) <| gNil <| eThen <| gRet <| eTret <| ePnl (arrR 32 u8R) [.rd u8R 0, .rd u64R 0, .rd (sliceR (arrR 32 u8R)) [], .val (.slice none 0 0)] 2 [.rd u8R 0, .rd u64R 0] [.val (.slice none 0 0)] rfl rfl rfl <| ePnl (sliceR u8R) [.rd u8R 0, .rd u64R 0, .rd (sliceR (arrR 32 u8R)) [], .rd (sliceR (sliceR u8R)) []] 2 [.rd u8R 0, .rd u64R 0, .rd (sliceR (arrR 32 u8R)) []] [] rfl rfl rfl <| eJoi (R := R_api_Frame) (⟨0, 0, [], []⟩ : api_Frame) 2 rfl (Sp.via (Sp.prod (Sp.prod (Sp.prod (Sp.prod Sp.unit))))) <| eRet [] [1] rfl (eC 2 rfl rfl ty105 <| eE rfl <| eN) (rR rfl rfl <| rN)
    · skip
      refine gSkip <| eThen <| gMid (fun (s5 : api_Frame × Int) aa ww => ∃ nv : Nat → Value, Sta (ctx 44 H [(1, some (q0, .list u8R 5 l0))] w) [(0, .vw u8R q0 l0 a0), (2, .val (ptrTo v1 0)), (4, .val (ptrTo (nv 0) 0)), (5, .rd i64R s5.2)] [(1, some (q0, .list u8R 5 l0)), (2, some (v1, .box 105 [.rd u8R 0, .rd u64R 0, .val (.slice none 0 0), .val (.slice none 0 0)])), (30, some ((nv 0), .box 105 [.rd R_api_Frame s5.1]))] aa ww) ?_ (fun s5 => ?_)
      · skip
        refine gRegH [1, 58] mixed rfl rfl <| hTake 0 rfl (by kernel_rfl) (by kernel_rfl) (by kernel_rfl) (gd0 rfl) rfl rfl (mv rfl) <| hBind fun x6 h7 => hTake 1 rfl (by kernel_rfl) (by kernel_rfl) (by kernel_rfl) (gd0 rfl) rfl rfl (ixQ 1 rfl rfl rfl h7 Try.underlying32 ti5) <| hTake 3 rfl (by kernel_rfl) (by kernel_rfl) (by kernel_rfl) (gd0 rfl) rfl rfl (mv rfl) <| hBind fun x8 h9 => hTake 4 rfl (by kernel_rfl) (by kernel_rfl) (by kernel_rfl) (gd0 rfl) rfl rfl (cutQ 1 rfl vwI rfl (.to rfl) .no h9 Try.underlying32 ti5) <| hAlt [2, 9] (by kernel_rfl) rfl ⟨?_, ?_, trivial⟩
        · skip
          refine oRun 2 rfl (gd0 rfl) rfl rfl flat_num (ldQ 1 rfl rfl ty5 rfl) <| hAlt [5, 9] (by kernel_rfl) rfl ⟨?_, ?_, trivial⟩
          · skip
            refine oCallJ 5 [1] [(1, 1)] rfl rfl (gd0 rfl) rfl Try.func125 rfl rfl (frame_read_q1_ok _ _ _ _) (aQ rfl <| aQ rfl <| aN) (rR rfl rfl <| rN) rfl fun r10 n11 => hTakeP 6 rfl (by kernel_rfl) (by kernel_rfl) (by kernel_rfl) (gd0 rfl) rfl rfl (mv rfl) <| hTakeP 7 rfl (by kernel_rfl) (by kernel_rfl) (by kernel_rfl) (gd0 rfl) rfl rfl (ext rfl rfl) <| hTakeF 8 rfl (by kernel_rfl) (by kernel_rfl) (by kernel_rfl) (gd0 rfl) rfl rfl flat_num (ext rfl rfl) <| hDoB 9 rfl (by kernel_rfl) (gd0 rfl) rfl rfl rfl (allc 58 ti105 (ZrE.rd (R := u8R) (x := 0) (Zr.num rfl) (ZrE.rd (R := u64R) (x := 0) (Zr.num rfl) (ZrE.nilS (ZrE.nilS ZrE.nil)) rfl) rfl)) fun v12 => hPnl (arrR 32 u8R) [.rd u8R 0, .rd u64R 0, .rd (sliceR (arrR 32 u8R)) [], .val (.slice none 0 0)] 58 [.rd u8R 0, .rd u64R 0] [.val (.slice none 0 0)] rfl rfl rfl <| hPnl (sliceR u8R) [.rd u8R 0, .rd u64R 0, .rd (sliceR (arrR 32 u8R)) [], .rd (sliceR (sliceR u8R)) []] 58 [.rd u8R 0, .rd u64R 0, .rd (sliceR (arrR 32 u8R)) []] [] rfl rfl rfl <| hJoi (R := R_api_Frame) (⟨0, 0, [], []⟩ : api_Frame) 58 rfl (Sp.via (Sp.prod (Sp.prod (Sp.prod (Sp.prod Sp.unit))))) <| hDoS 10 rfl (by kernel_rfl) (gd0 rfl) rfl rfl rfl rfl (sto 58 rfl rfl Foc.here rfl ti105) <| hTake 11 rfl (by kernel_rfl) (by kernel_rfl) (by kernel_rfl) (gd0 rfl) rfl rfl (asg rfl) <| hDone (by kernel_rfl) <| eMid (fun aa ww h => ⟨nvl [v12], h.sub [1, 2, 58] (sS rfl <| sS rfl <| sS rfl <| sS rfl <| sN) (rR rfl rfl <| rR rfl rfl <| rR rfl rfl <| rN)⟩)
          · skip
            refine oDoB 9 rfl (gd0 rfl) rfl rfl rfl (allc 58 ti105 (ZrE.rd (R := u8R) (x := 0) (Zr.num rfl) (ZrE.rd (R := u64R) (x := 0) (Zr.num rfl) (ZrE.nilS (ZrE.nilS ZrE.nil)) rfl) rfl)) fun v13 => hCallJ 5 [1] [(1, 1)] rfl (by kernel_rfl) rfl (gd0 rfl) rfl Try.func125 rfl rfl (frame_read_q1_ok _ _ _ _) (aQ rfl <| aQ rfl <| aN) (rR rfl rfl <| rN) rfl fun r14 n15 => hTakeP 6 rfl (by kernel_rfl) (by kernel_rfl) (by kernel_rfl) (gd0 rfl) rfl rfl (mv rfl) <| hTakeP 7 rfl (by kernel_rfl) (by kernel_rfl) (by kernel_rfl) (gd0 rfl) rfl rfl (ext rfl rfl) <| hTakeF 8 rfl (by kernel_rfl) (by kernel_rfl) (by kernel_rfl) (gd0 rfl) rfl rfl flat_num (ext rfl rfl) <| hPnl (arrR 32 u8R) [.rd u8R 0, .rd u64R 0, .rd (sliceR (arrR 32 u8R)) [], .val (.slice none 0 0)] 58 [.rd u8R 0, .rd u64R 0] [.val (.slice none 0 0)] rfl rfl rfl <| hPnl (sliceR u8R) [.rd u8R 0, .rd u64R 0, .rd (sliceR (arrR 32 u8R)) [], .rd (sliceR (sliceR u8R)) []] 58 [.rd u8R 0, .rd u64R 0, .rd (sliceR (arrR 32 u8R)) []] [] rfl rfl rfl <| hJoi (R := R_api_Frame) (⟨0, 0, [], []⟩ : api_Frame) 58 rfl (Sp.via (Sp.prod (Sp.prod (Sp.prod (Sp.prod Sp.unit))))) <| hDoS 10 rfl (by kernel_rfl) (gd0 rfl) rfl rfl rfl rfl (sto 58 rfl rfl Foc.here rfl ti105) <| hTake 11 rfl (by kernel_rfl) (by kernel_rfl) (by kernel_rfl) (gd0 rfl) rfl rfl (asg rfl) <| hDone (by kernel_rfl) <| eMid (fun aa ww h => ⟨nvl [v13], h.sub [1, 2, 58] (sS rfl <| sS rfl <| sS rfl <| sS rfl <| sN) (rR rfl rfl <| rR rfl rfl <| rR rfl rfl <| rN)⟩)
        · skip
          refine oDoB 9 rfl (gd0 rfl) rfl rfl rfl (allc 58 ti105 (ZrE.rd (R := u8R) (x := 0) (Zr.num rfl) (ZrE.rd (R := u64R) (x := 0) (Zr.num rfl) (ZrE.nilS (ZrE.nilS ZrE.nil)) rfl) rfl)) fun v16 => hRun 2 rfl (by kernel_rfl) (gd0 rfl) rfl rfl flat_num (ldQ 1 rfl rfl ty5 rfl) <| hCallJ 5 [1] [(1, 1)] rfl (by kernel_rfl) rfl (gd0 rfl) rfl Try.func125 rfl rfl (frame_read_q1_ok _ _ _ _) (aQ rfl <| aQ rfl <| aN) (rR rfl rfl <| rN) rfl fun r17 n18 => hTakeP 6 rfl (by kernel_rfl) (by kernel_rfl) (by kernel_rfl) (gd0 rfl) rfl rfl (mv rfl) <| hTakeP 7 rfl (by kernel_rfl) (by kernel_rfl) (by kernel_rfl) (gd0 rfl) rfl rfl (ext rfl rfl) <| hTakeF 8 rfl (by kernel_rfl) (by kernel_rfl) (by kernel_rfl) (gd0 rfl) rfl rfl flat_num (ext rfl rfl) <| hPnl (arrR 32 u8R) [.rd u8R 0, .rd u64R 0, .rd (sliceR (arrR 32 u8R)) [], .val (.slice none 0 0)] 58 [.rd u8R 0, .rd u64R 0] [.val (.slice none 0 0)] rfl rfl rfl <| hPnl (sliceR u8R) [.rd u8R 0, .rd u64R 0, .rd (sliceR (arrR 32 u8R)) [], .rd (sliceR (sliceR u8R)) []] 58 [.rd u8R 0, .rd u64R 0, .rd (sliceR (arrR 32 u8R)) []] [] rfl rfl rfl <| hJoi (R := R_api_Frame) (⟨0, 0, [], []⟩ : api_Frame) 58 rfl (Sp.via (Sp.prod (Sp.prod (Sp.prod (Sp.prod Sp.unit))))) <| hDoS 10 rfl (by kernel_rfl) (gd0 rfl) rfl rfl rfl rfl (sto 58 rfl rfl Foc.here rfl ti105) <| hTake 11 rfl (by kernel_rfl) (by kernel_rfl) (by kernel_rfl) (gd0 rfl) rfl rfl (asg rfl) <| hDone (by kernel_rfl) <| eMid (fun aa ww h => ⟨nvl [v16], h.sub [1, 2, 58] (sS rfl <| sS rfl <| sS rfl <| sS rfl <| sN) (rR rfl rfl <| rR rfl rfl <| rR rfl rfl <| rN)⟩)
      · skip
        refine gEx fun n19 => gSeq <| gSeq <| gReg <| R rfl (mv rfl) <| R rfl (I.neq rfl rfl) <| gNil <| eThen <| gIf rfl rfl (fun h20 => ?_) (fun h20 => ?_)
        · skip
          refine gSeq <| gReg <| R rfl (bldE [(0, 1), (1, 1), (2, 1), (3, 1)] Try.underlying105 ti105 (ZrE.rd (R := u8R) (x := 0) (Zr.num rfl) (ZrE.rd (R := u64R) (x := 0) (Zr.num rfl) (ZrE.nilS (ZrE.nilS ZrE.nil)) rfl) rfl) rfl (BldE.done rfl)) <| Es (stoG 2 rfl rfl (fillsL.cast (fillsL.cons fills_rd (fillsL.cons fills_rd (fillsL.cons fills_val (fillsL.cons fills_val fillsL.nil)))) rfl) rfl (onesL.cons ones_rd (onesL.cons ones_rd (onesL.cons ones_val (onesL.cons ones_val onesL.nil)))) (fillsL.cast (fillsL.cons fills_rd (fillsL.cons fills_rd (fillsL.cons fills_val (fillsL.cons fills_val fillsL.nil)))) rfl) ti105) <| R rfl (asg rfl) <| gNil <| eThen <| gRet <| eTret <| ePnl (arrR 32 u8R) [.rd u8R 0, .rd u64R 0, .rd (sliceR (arrR 32 u8R)) [], .val (.slice none 0 0)] 2 [.rd u8R 0, .rd u64R 0] [.val (.slice none 0 0)] rfl rfl rfl <| ePnl (sliceR u8R) [.rd u8R 0, .rd u64R 0, .rd (sliceR (arrR 32 u8R)) [], .rd (sliceR (sliceR u8R)) []] 2 [.rd u8R 0, .rd u64R 0, .rd (sliceR (arrR 32 u8R)) []] [] rfl rfl rfl <| eJoi (R := R_api_Frame) (⟨0, 0, [], []⟩ : api_Frame) 2 rfl (Sp.via (Sp.prod (Sp.prod (Sp.prod (Sp.prod Sp.unit))))) <| eRet [] [1] rfl (eC 2 rfl rfl ty105 <| eE rfl <| eN) (rR rfl rfl <| rN)
        · skip
          refine gSkip <| eThen <| gSeq <| gSeq <| gReg <| R rfl (ld 30 rfl rfl Foc.here ty105 rfl) <| call [] [(100, 70)] rfl Try.func119 rfl rfl (frame_write_ok _) (aQ rfl <| aN) rN fun r21 n22 => R rfl (mv rfl) <| R rfl (ext rfl rfl) <| R rfl (ext rfl rfl) <| R rfl (asg rfl) <| R rfl (asg rfl) <| gNil <| eThen <| gMid (fun (s23 : Bool) aa ww => Sta (ctx 44 H [(1, some (q0, .list u8R 5 l0))] w) [(2, .val (ptrTo v1 0)), (4, .val (ptrTo (n19 0) 0)), (41, .rd boolR s23)] [(2, some (v1, .box 105 [.rd u8R 0, .rd u64R 0, .val (.slice none 0 0), .val (.slice none 0 0)])), (30, some ((n19 0), .box 105 [.rd R_api_Frame s5.1])), (1, some (q0, .list u8R 5 l0))] aa ww) ?_ (fun s23 => ?_)
          · skip
            refine gReg <| R rfl (mv rfl) <| R rfl (not' rfl) <| R rfl (mv rfl) <| lSplit 36 rfl (fun h24 => ?_) (fun h24 => ?_)
            · skip
              refine lKn 35 rfl h24 <| lSkip (gd rfl rfl rfl rfl) rfl rfl <| lSkip (gd rfl rfl rfl rfl) rfl rfl <| lSkip (gd rfl rfl rfl rfl) rfl rfl <| lSkip (gd rfl rfl rfl rfl) rfl rfl <| R rfl (pkT rfl rfl) <| gNil <| eMid (fun aa ww h => h.sub [2, 30, 1] (sS rfl <| sS rfl <| sS rfl <| sN) (rR rfl rfl <| rR rfl rfl <| rR rfl rfl <| rN))
            · skip
              refine lKn 35 rfl h24 <| lRun (gd rfl rfl rfl rfl) rfl rfl (mv rfl) <| lRun (gd rfl rfl rfl rfl) rfl rfl (mv rfl) <| lFrz 70 [32, 6, 37] rfl (fS rfl <| fS rfl <| fS rfl <| fN) <| callg [1] [(1, 1)] (gd rfl rfl rfl rfl) rfl Try.func126 rfl rfl (bytes_Equal_q1_ok _ _ _ _) (aQ rfl <| aQ rfl <| aN) (rR rfl rfl <| rN) fun r25 n26 => lRun (gd rfl rfl rfl rfl) rfl rfl (not' rfl) <| R rfl (pkF rfl rfl) <| gNil <| eMid (fun aa ww h => h.sub [2, 30, 1] (sS rfl <| sS rfl <| sS rfl <| sN) (rR rfl rfl <| rR rfl rfl <| rR rfl rfl <| rN))
          · skip
            refine gIf rfl rfl (fun h27 => ?_) (fun h27 => ?_)
            · skip
              refine gSeq <| gReg <| R rfl (bldE [(0, 1), (1, 1), (2, 1), (3, 1)] Try.underlying105 ti105 (ZrE.rd (R := u8R) (x := 0) (Zr.num rfl) (ZrE.rd (R := u64R) (x := 0) (Zr.num rfl) (ZrE.nilS (ZrE.nilS ZrE.nil)) rfl) rfl) rfl (BldE.done rfl)) <| Es (stoG 2 rfl rfl (fillsL.cast (fillsL.cons fills_rd (fillsL.cons fills_rd (fillsL.cons fills_val (fillsL.cons fills_val fillsL.nil)))) rfl) rfl (onesL.cons ones_rd (onesL.cons ones_rd (onesL.cons ones_val (onesL.cons ones_val onesL.nil)))) (fillsL.cast (fillsL.cons fills_rd (fillsL.cons fills_rd (fillsL.cons fills_val (fillsL.cons fills_val fillsL.nil)))) rfl) ti105) <| R rfl (asg rfl) <| gNil <| eThen <| gRet <| eTret <| ePnl (arrR 32 u8R) [.rd u8R 0, .rd u64R 0, .rd (sliceR (arrR 32 u8R)) [], .val (.slice none 0 0)] 2 [.rd u8R 0, .rd u64R 0] [.val (.slice none 0 0)] rfl rfl rfl <| ePnl (sliceR u8R) [.rd u8R 0, .rd u64R 0, .rd (sliceR (arrR 32 u8R)) [], .rd (sliceR (sliceR u8R)) []] 2 [.rd u8R 0, .rd u64R 0, .rd (sliceR (arrR 32 u8R)) []] [] rfl rfl rfl <| eJoi (R := R_api_Frame) (⟨0, 0, [], []⟩ : api_Frame) 2 rfl (Sp.via (Sp.prod (Sp.prod (Sp.prod (Sp.prod Sp.unit))))) <| eRet [] [1] rfl (eC 2 rfl rfl ty105 <| eE rfl <| eN) (rR rfl rfl <| rN)
            · skip
              refine gSkip <| eThen <| gSeq <| gReg <| R rfl (ld 30 rfl rfl Foc.here ty105 rfl) <| lPnl (arrR 32 u8R) [.rd u8R 0, .rd u64R 0, .rd (sliceR (arrR 32 u8R)) [], .val (.slice none 0 0)] 2 [.rd u8R 0, .rd u64R 0] [.val (.slice none 0 0)] rfl rfl rfl <| lPnl (sliceR u8R) [.rd u8R 0, .rd u64R 0, .rd (sliceR (arrR 32 u8R)) [], .rd (sliceR (sliceR u8R)) []] 2 [.rd u8R 0, .rd u64R 0, .rd (sliceR (arrR 32 u8R)) []] [] rfl rfl rfl <| lJoi (R := R_api_Frame) (⟨0, 0, [], []⟩ : api_Frame) 2 rfl (Sp.via (Sp.prod (Sp.prod (Sp.prod (Sp.prod Sp.unit))))) <| Es (sto 2 rfl rfl Foc.here rfl ti105) <| R rfl (asg rfl) <| gNil <| eThen <| gRet <| eRet [] [1] rfl (eC 2 rfl rfl ty105 <| eE rfl <| eN) (rR rfl rfl <| rN)

def braidlaw07_FrameReads_L0 (s13 : (List UInt8) × Int) : Option (Sum Unit ((List UInt8) × Int)) :=
  if decide (s13.2 < (s13.1.length : Int)) then
    idx s13.1 s13.2 >>= fun x15 =>
    idx s13.1 s13.2 >>= fun x17 =>
    some (w64 (s13.2 + 1)) >>= fun y19 =>
    some (.inr (s13.1.set (s13.2 : Int).toNat (x15 + 1), y19))
  else
    some (.inl ())
def braidlaw07_FrameReads (a0 : List UInt8) : Option (Bool) :=
  if decide (2500 < (a0.length : Int)) then
    some true
  else
    app 1 ([] : List UInt8) a0 >>= fun x3 =>
    frame_Parse x3 >>= fun r6 =>
    braidref07_Parse a0 >>= fun r9 =>
    (iter (braidlaw07_FrameReads_L0) (x3, 0)) >>= fun s12 =>
    braidref07_Same r6.1 r9.1 >>= fun r20 =>
    if r20 then
      some (r6.2 == r9.2)
    else
      some false
set_option maxRecDepth 100000 in
theorem braidlaw07_FrameReads_ok (a0 : List UInt8) : Spec Try.prog 13 [.rd (sliceR u8R) a0] [] (braidlaw07_FrameReads a0) (fun r nv => ⟨[.rd boolR r], []⟩) := by
  refine spec 45 Try.func13 rfl rfl rfl fun H w => ?_
  refine gSeq <| gReg <| R rfl (asg rfl) <| gNil <| eThen <| gSeq <| gSeq <| gReg <| R rfl (mv rfl) <| R rfl (len' rfl .rd rfl Try.underlying32) <| R rfl (I.gtr rfl rfl) <| gNil <| eThen <| gIf rfl rfl (fun h1 => ?_) (fun h1 => ?_)
  · skip
    refine gSeq <| gReg <| R rfl (asg rfl) <| gNil <| eThen <| gRet <| eTret <| eRet [] [] rfl (eE rfl <| eN) (rN)
  · skip
    refine gSkip <| eThen <| gSeq <| gReg <| Ef rfl (lit (R := u8R) (([] : List UInt8) : List UInt8) 1 (pN) rfl Try.underlying32 ti5 rfl rfl) fun v2 => R rfl (mv rfl) <| lBind fun x3 h4 => Ef rfl (apn 1 rfl rfl rfl .rd h4 Try.underlying32 ti5 rfl rfl rfl) fun v5 => R rfl (asg rfl) <| gNil <| eThen <| gSeq <| gReg <| R rfl (mv rfl) <| call [1] [(1, 1)] rfl Try.func79 rfl rfl (frame_Parse_q0_ok _ _ _) (aW rfl <| aN) (rR rfl rfl <| rN) fun r6 n7 => R rfl (mv rfl) <| R rfl (ext rfl rfl) <| R rfl (ext rfl rfl) <| Eb rfl (allc 2 ti105 (ZrE.rd (R := u8R) (x := 0) (Zr.num rfl) (ZrE.rd (R := u64R) (x := 0) (Zr.num rfl) (ZrE.nilS (ZrE.nilS ZrE.nil)) rfl) rfl)) fun v8 => lPnl (arrR 32 u8R) [.rd u8R 0, .rd u64R 0, .rd (sliceR (arrR 32 u8R)) [], .val (.slice none 0 0)] 2 [.rd u8R 0, .rd u64R 0] [.val (.slice none 0 0)] rfl rfl rfl <| lPnl (sliceR u8R) [.rd u8R 0, .rd u64R 0, .rd (sliceR (arrR 32 u8R)) [], .rd (sliceR (sliceR u8R)) []] 2 [.rd u8R 0, .rd u64R 0, .rd (sliceR (arrR 32 u8R)) []] [] rfl rfl rfl <| lJoi (R := R_api_Frame) (⟨0, 0, [], []⟩ : api_Frame) 2 rfl (Sp.via (Sp.prod (Sp.prod (Sp.prod (Sp.prod Sp.unit))))) <| Es (sto 2 rfl rfl Foc.here rfl ti105) <| R rfl (asg rfl) <| gNil <| eThen <| gSeq <| gReg <| R rfl (mv rfl) <| call [] [] rfl Try.func80 rfl rfl (braidref07_Parse_ok _) (aQ rfl <| aN) rN fun r9 n10 => R rfl (mv rfl) <| R rfl (ext rfl rfl) <| R rfl (ext rfl rfl) <| Eb rfl (allc 3 ti105 (ZrE.rd (R := u8R) (x := 0) (Zr.num rfl) (ZrE.rd (R := u64R) (x := 0) (Zr.num rfl) (ZrE.nilS (ZrE.nilS ZrE.nil)) rfl) rfl)) fun v11 => lPnl (arrR 32 u8R) [.rd u8R 0, .rd u64R 0, .rd (sliceR (arrR 32 u8R)) [], .val (.slice none 0 0)] 3 [.rd u8R 0, .rd u64R 0] [.val (.slice none 0 0)] rfl rfl rfl <| lPnl (sliceR u8R) [.rd u8R 0, .rd u64R 0, .rd (sliceR (arrR 32 u8R)) [], .rd (sliceR (sliceR u8R)) []] 3 [.rd u8R 0, .rd u64R 0, .rd (sliceR (arrR 32 u8R)) []] [] rfl rfl rfl <| lJoi (R := R_api_Frame) (⟨0, 0, [], []⟩ : api_Frame) 3 rfl (Sp.via (Sp.prod (Sp.prod (Sp.prod (Sp.prod Sp.unit))))) <| Es (sto 3 rfl rfl Foc.here rfl ti105) <| R rfl (asg rfl) <| gNil <| eThen <| gMid (fun (s12 : Unit) aa ww => Sta (ctx 45 H [] w) [(4, .val (ptrTo v8 0)), (5, .rd i64R r6.2), (6, .val (ptrTo v11 0)), (7, .rd i64R r9.2)] [(2, some (v8, .box 105 [.rd R_api_Frame r6.1])), (3, some (v11, .box 105 [.rd R_api_Frame r9.1]))] aa ww) ?_ (fun s12 => ?_)
    · skip
      refine gSeq <| gReg <| R rfl (asg rfl) <| gNil <| eThen <| gLoop (fun (s13 : (List UInt8) × Int) aa ww => Sta (ctx 45 H [] w) [(3, .val v5), (4, .val (ptrTo v8 0)), (5, .rd i64R r6.2), (6, .val (ptrTo v11 0)), (7, .rd i64R r9.2), (8, .rd i64R s13.2)] [(1, some (v5, .list u8R 5 s13.1)), (2, some (v8, .box 105 [.rd R_api_Frame r6.1])), (3, some (v11, .box 105 [.rd R_api_Frame r9.1]))] aa ww) (fun aa ww h => h.sub [1, 2, 3] (sS rfl <| sS rfl <| sS rfl <| sS rfl <| sS rfl <| sS rfl <| sN) (rR rfl rfl <| rR rfl rfl <| rR rfl rfl <| rN)) (fun s13 => ?_)
      refine gSeq <| gSeq <| gReg <| R rfl (mv rfl) <| R rfl (mv rfl) <| R rfl (len' rfl (.own 1 rfl) rfl Try.underlying32) <| R rfl (I.lss rfl rfl) <| gNil <| eThen <| gIf rfl rfl (fun h14 => ?_) (fun h14 => ?_)
      · skip
        refine gSkip <| eThen <| gSeq <| gBlk <| gReg <| R rfl (mv rfl) <| R rfl (mv rfl) <| lBind fun x15 h16 => R rfl (ixO 1 rfl rfl rfl h16 Try.underlying32 ti5) <| R rfl (ld 1 rfl rfl (Foc.el h16) ty5 rfl) <| R rfl (B.add rfl rfl) <| lBind fun x17 h18 => R rfl (ixO 1 rfl rfl rfl h18 Try.underlying32 ti5) <| Es (sto 1 rfl rfl (Foc.el h18) rfl ti5) <| gNil <| eBlk <| eThen <| gReg <| R rfl (mv rfl) <| R rfl (I.add rfl rfl) <| R rfl (asg rfl) <| lName 8 rfl fun y19 => gNil <| eNext (fun aa ww h => h.sub [1, 2, 3] (sS rfl <| sS rfl <| sS rfl <| sS rfl <| sS rfl <| sS rfl <| sN) (rR rfl rfl <| rR rfl rfl <| rR rfl rfl <| rN))
      · skip
        refine gExit <| eTexit <| eLeave <| eMid (fun aa ww h => h.sub [2, 3] (sS rfl <| sS rfl <| sS rfl <| sS rfl <| sN) (rR rfl rfl <| rR rfl rfl <| rN))
    · skip
      refine gSeq <| gReg <| R rfl (ld 2 rfl rfl Foc.here ty105 rfl) <| R rfl (ld 3 rfl rfl Foc.here ty105 rfl) <| call [] [] rfl Try.func78 rfl rfl (braidref07_Same_ok _ _) (aQ rfl <| aQ rfl <| aN) rN fun r20 n21 => R rfl (mv rfl) <| lSplit 40 rfl (fun h22 => ?_) (fun h22 => ?_)
      · skip
        refine lKn 39 rfl h22 <| lRun (gd rfl rfl rfl rfl) rfl rfl (mv rfl) <| lRun (gd rfl rfl rfl rfl) rfl rfl (mv rfl) <| lRun (gd rfl rfl rfl rfl) rfl rfl (I.eql rfl rfl) <| R rfl (pkT rfl rfl) <| R rfl (asg rfl) <| gNil <| eThen <| gRet <| eRet [] [] rfl (eE rfl <| eN) (rN)
      · skip
        refine lKn 39 rfl h22 <| lSkip (gd rfl rfl rfl rfl) rfl rfl <| lSkip (gd rfl rfl rfl rfl) rfl rfl <| lSkip (gd rfl rfl rfl rfl) rfl rfl <| R rfl (pkF rfl rfl) <| R rfl (asg rfl) <| gNil <| eThen <| gRet <| eRet [] [] rfl (eE rfl <| eN) (rN)

end Go.Proofs.Ytklfgpdfongaeaa
