import Derived.Test.YtklfgpdfongaeaaZFb
namespace Go.Proofs.Ytklfgpdfongaeaa
open Go Go.RowKit
set_option linter.unusedSimpArgs false
set_option linter.unusedVariables false
def wire_ReadNumber_L0 (x20 : List UInt8) (s22 : UInt64 × Int) : Option (Sum UInt64 (UInt64 × Int)) :=
  if decide (s22.2 < (x20.length : Int)) then
    idx x20 s22.2 >>= fun x24 =>
    some ((shl64 s22.1 8) ||| x24.toUInt64) >>= fun y26 =>
    some (.inr (y26, w64 (s22.2 + 1)))
  else
    some (.inl s22.1)
def wire_ReadNumber (a0 : List UInt8) : Option (UInt64 × Int × Int) :=
  if (a0.length : Int) == 0 then
    some (0, 0, 12)
  else
    idx a0 0 >>= fun x2 =>
    if decide (x2 ≤ 247) then
      idx a0 0 >>= fun x5 =>
      some (x5.toUInt64, 1, 0)
    else
      idx a0 0 >>= fun x7 =>
      some (w64 ((x7.toNat : Int) - 247)) >>= fun y9 =>
      orRet (if decide ((a0.length : Int) ≤ y9) then
        some (.inl (0, 0, 12))
      else
        idx a0 1 >>= fun x12 =>
        if x12 == 0 then
          some (.inl (0, 0, 12))
        else
          if y9 == 1 then
            idx a0 1 >>= fun x16 =>
            if decide (x16 ≤ 247) then
              some (.inl (0, 0, 12))
            else
              some (.inr ())
          else
            some (.inr ())) fun s10 =>
      (cut a0 1 (w64 (y9 + 1)) >>= fun x20 =>
      iter (wire_ReadNumber_L0 x20) (0, 0)) >>= fun s19 =>
      some (s19, w64 (y9 + 1), 0)
set_option maxRecDepth 100000 in
theorem wire_ReadNumber_ok (a0 : List UInt8) : Spec Try.prog 26 [.rd (sliceR u8R) a0] [] (wire_ReadNumber a0) (fun r nv => ⟨[.rd u64R r.1, .rd i64R r.2.1, .rd i64R r.2.2], []⟩) := by
  refine spec 63 Try.func26 rfl rfl rfl fun H w => ?_
  refine gSeq <| gReg <| R rfl (asg rfl) <| R rfl (asg rfl) <| R rfl (asg rfl) <| gNil <| eThen <| gSeq <| gSeq <| gReg <| R rfl (mv rfl) <| R rfl (len' rfl .rd rfl Try.underlying32) <| R rfl (I.eql rfl rfl) <| gNil <| eThen <| gIf rfl rfl (fun h1 => ?_) (fun h1 => ?_)
  · skip
    refine gSeq <| gReg <| R rfl (asg rfl) <| R rfl (asg rfl) <| R rfl (asg rfl) <| gNil <| eThen <| gRet <| eTret <| eRet [] [] rfl (eE rfl <| eE rfl <| eE rfl <| eN) (rN)
  · skip
    refine gSkip <| eThen <| gSeq <| gSeq <| gReg <| R rfl (mv rfl) <| lBind fun x2 h3 => R rfl (ixR rfl rfl h3 Try.underlying32 ti5 rfl) <| R rfl (ldR rfl ty5) <| R rfl (B.leq rfl rfl) <| gNil <| eThen <| gIf rfl rfl (fun h4 => ?_) (fun h4 => ?_)
    · skip
      refine gSeq <| gReg <| R rfl (mv rfl) <| lBind fun x5 h6 => R rfl (ixR rfl rfl h6 Try.underlying32 ti5 rfl) <| R rfl (ldR rfl ty5) <| R rfl (B.toU rfl Try.underlying5 Try.underlying31) <| R rfl (asg rfl) <| R rfl (asg rfl) <| R rfl (asg rfl) <| gNil <| eThen <| gRet <| eTret <| eRet [] [] rfl (eE rfl <| eE rfl <| eE rfl <| eN) (rN)
    · skip
      refine gSkip <| eThen <| gSeq <| gReg <| R rfl (mv rfl) <| lBind fun x7 h8 => R rfl (ixR rfl rfl h8 Try.underlying32 ti5 rfl) <| R rfl (ldR rfl ty5) <| R rfl (B.toI rfl Try.underlying5 Try.underlying3) <| R rfl (I.sub rfl rfl) <| R rfl (asg rfl) <| lName 5 rfl fun y9 => gNil <| eThen <| gMidR (fun (s10 : Unit) aa ww => Sta (ctx 63 H [] w) [(0, .rd (sliceR u8R) a0), (5, .rd i64R y9)] [] aa ww) ?_ (fun s10 => ?_)
      · skip
        refine gSeq <| gReg <| R rfl (mv rfl) <| R rfl (len' rfl .rd rfl Try.underlying32) <| R rfl (mv rfl) <| R rfl (I.leq rfl rfl) <| R rfl (mv rfl) <| lSplit 29 rfl (fun h11 => ?_) (fun h11 => ?_)
        · skip
          refine lKn 28 rfl h11 <| lSkip (gd rfl rfl rfl rfl) rfl rfl <| lSkip (gd rfl rfl rfl rfl) rfl rfl <| lSkip (gd rfl rfl rfl rfl) rfl rfl <| lSkip (gd rfl rfl rfl rfl) rfl rfl <| R rfl (pkT rfl rfl) <| R rfl (mv rfl) <| lSkip (gd rfl rfl rfl rfl) rfl rfl <| lSkip (gd rfl rfl rfl rfl) rfl rfl <| lSkip (gd rfl rfl rfl rfl) rfl rfl <| lSkip (gdU rfl rfl rfl) rfl rfl <| lSkip (gdU rfl rfl rfl) rfl rfl <| lSkip (gdU rfl rfl rfl) rfl rfl <| lSkip (gdU rfl rfl rfl) rfl rfl <| lSkip (gd rfl rfl rfl rfl) rfl rfl <| R rfl (pkT rfl rfl) <| gNil <| eThen <| gTrue rfl <| gSeq <| gReg <| R rfl (asg rfl) <| R rfl (asg rfl) <| R rfl (asg rfl) <| gNil <| eThen <| gRet <| eMret <| eRet [] [] rfl (eE rfl <| eE rfl <| eE rfl <| eN) (rN)
        · skip
          refine lKn 28 rfl h11 <| lRun (gd rfl rfl rfl rfl) rfl rfl (mv rfl) <| lBind fun x12 h13 => lRun (gd rfl rfl rfl rfl) rfl rfl (ixR rfl rfl h13 Try.underlying32 ti5 rfl) <| lRun (gd rfl rfl rfl rfl) rfl rfl (ldR rfl ty5) <| lRun (gd rfl rfl rfl rfl) rfl rfl (B.eql rfl rfl) <| R rfl (pkF rfl rfl) <| R rfl (mv rfl) <| lSplit 35 rfl (fun h14 => ?_) (fun h14 => ?_)
          · skip
            refine lKn 33 rfl h14 <| lKn 34 rfl h14 <| lSkip (gd rfl rfl rfl rfl) rfl rfl <| lSkip (gd rfl rfl rfl rfl) rfl rfl <| lSkip (gd rfl rfl rfl rfl) rfl rfl <| lSkip (gdU rfl rfl rfl) rfl rfl <| lSkip (gdU rfl rfl rfl) rfl rfl <| lSkip (gdU rfl rfl rfl) rfl rfl <| lSkip (gdU rfl rfl rfl) rfl rfl <| lSkip (gd rfl rfl rfl rfl) rfl rfl <| R rfl (pkT rfl rfl) <| gNil <| eThen <| gTrue rfl <| gSeq <| gReg <| R rfl (asg rfl) <| R rfl (asg rfl) <| R rfl (asg rfl) <| gNil <| eThen <| gRet <| eMret <| eRet [] [] rfl (eE rfl <| eE rfl <| eE rfl <| eN) (rN)
          · skip
            refine lKn 33 rfl h14 <| lKn 34 rfl h14 <| lRun (gd rfl rfl rfl rfl) rfl rfl (mv rfl) <| lRun (gd rfl rfl rfl rfl) rfl rfl (I.eql rfl rfl) <| lRun (gd rfl rfl rfl rfl) rfl rfl (mv rfl) <| lSplit 38 rfl (fun h15 => ?_) (fun h15 => ?_)
            · skip
              refine lKn 37 rfl h15 <| lRun (gd rfl rfl rfl rfl) rfl rfl (mv rfl) <| lBind fun x16 h17 => lRun (gd rfl rfl rfl rfl) rfl rfl (ixR rfl rfl h17 Try.underlying32 ti5 rfl) <| lRun (gd rfl rfl rfl rfl) rfl rfl (ldR rfl ty5) <| lRun (gd rfl rfl rfl rfl) rfl rfl (B.leq rfl rfl) <| lRun (gd rfl rfl rfl rfl) rfl rfl (pkT rfl rfl) <| R rfl (pkF rfl rfl) <| gNil <| eThen <| gIf rfl rfl (fun h18 => ?_) (fun h18 => ?_)
              · skip
                refine gKn 42 rfl h18 <| gKn 43 rfl h18 <| gSeq <| gReg <| R rfl (asg rfl) <| R rfl (asg rfl) <| R rfl (asg rfl) <| gNil <| eThen <| gRet <| eMret <| eRet [] [] rfl (eE rfl <| eE rfl <| eE rfl <| eN) (rN)
              · skip
                refine gKn 42 rfl h18 <| gKn 43 rfl h18 <| gSkip <| eMidR (fun aa ww h => h.sub [] (sS rfl <| sS rfl <| sN) (rN))
            · skip
              refine lKn 37 rfl h15 <| lSkip (gd rfl rfl rfl rfl) rfl rfl <| lSkip (gd rfl rfl rfl rfl) rfl rfl <| lSkip (gd rfl rfl rfl rfl) rfl rfl <| lSkip (gd rfl rfl rfl rfl) rfl rfl <| lRun (gd rfl rfl rfl rfl) rfl rfl (pkF rfl rfl) <| R rfl (pkF rfl rfl) <| gNil <| eThen <| gFalse rfl <| gSkip <| eMidR (fun aa ww h => h.sub [] (sS rfl <| sS rfl <| sN) (rN))
      · skip
        refine gSeq <| gReg <| R rfl (asg rfl) <| gNil <| eThen <| gMid (fun (s19 : UInt64) aa ww => Sta (ctx 63 H [] w) [(5, .rd i64R y9), (6, .rd u64R s19)] [] aa ww) ?_ (fun s19 => ?_)
        · skip
          refine gSeq <| gReg <| R rfl (mv rfl) <| R rfl (mv rfl) <| R rfl (I.add rfl rfl) <| lBind fun x20 h21 => R rfl (cut' rfl (.to rfl) (.to rfl) h21 Try.underlying32 ti5) <| R rfl (len' rfl .rd rfl Try.underlying32) <| R rfl (mv rfl) <| gNil <| eThen <| gLoop (fun (s22 : UInt64 × Int) aa ww => Sta (ctx 63 H [] w) [(5, .rd i64R y9), (6, .rd u64R s22.1), (48, .rd (sliceR u8R) x20), (49, .rd i64R (x20.length : Int)), (50, .rd i64R s22.2)] [] aa ww) (fun aa ww h => h.sub [] (sS rfl <| sS rfl <| sS rfl <| sS rfl <| sS rfl <| sN) (rN)) (fun s22 => ?_)
          refine gSeq <| gReg <| R rfl (I.lss rfl rfl) <| gNil <| eThen <| gSeq <| gIf rfl rfl (fun h23 => ?_) (fun h23 => ?_)
          · skip
            refine gSkip <| eThen <| gSeq <| gBlk <| gSeq <| gReg <| lBind fun x24 h25 => R rfl (ixR rfl rfl h25 Try.underlying32 ti5 rfl) <| R rfl (ldR rfl ty5) <| R rfl (asg rfl) <| gNil <| eThen <| gReg <| R rfl (mv rfl) <| R rfl (U.shl rfl rfl (Int.natCast_nonneg _)) <| R rfl (mv rfl) <| R rfl (B.toU rfl Try.underlying5 Try.underlying31) <| R rfl (U.or rfl rfl) <| R rfl (asg rfl) <| lName 6 rfl fun y26 => gNil <| eBlk <| eThen <| gReg <| R rfl (I.add rfl rfl) <| R rfl (mv rfl) <| gNil <| eNext (fun aa ww h => h.sub [] (sS rfl <| sS rfl <| sS rfl <| sS rfl <| sS rfl <| sN) (rN))
          · skip
            refine gExit <| eTexit <| eLeave <| eMid (fun aa ww h => h.sub [] (sS rfl <| sS rfl <| sN) (rN))
        · skip
          refine gSeq <| gReg <| R rfl (mv rfl) <| R rfl (mv rfl) <| R rfl (I.add rfl rfl) <| R rfl (asg rfl) <| R rfl (asg rfl) <| R rfl (asg rfl) <| gNil <| eThen <| gRet <| eRet [] [] rfl (eE rfl <| eE rfl <| eE rfl <| eN) (rN)
def wire_part (a0 : List UInt8) (a1 : Int) (a2 : Int) : Option ((List UInt8) × Int × Int) :=
  if decide (a1 < 0) then
    some ([], 0, 2)
  else
    wire_ReadNumber a0 >>= fun r2 =>
    (if r2.2.2 != 0 then
      some true
    else
      if decide ((UInt64.ofInt a1) < r2.1) then
        some true
      else
        chk (a2 ≠ 0) >>= fun u7 =>
        some (decide ((UInt64.ofInt (w64 (Int.tdiv (w64 ((a0.length : Int) - r2.2.1)) a2))) < r2.1))) >>= fun s4 =>
    if s4 then
      some ([], 0, 12)
    else
      some (w64 (r2.2.1 + (w64 (a2 * (w64 (r2.1.toNat : Int)))))) >>= fun y10 =>
      cut a0 r2.2.1 y10 >>= fun x11 =>
      some (x11, y10, 0)
set_option maxRecDepth 100000 in
theorem wire_part_ok (a0 : List UInt8) (a1 : Int) (a2 : Int) : Spec Try.prog 107 [.rd (sliceR u8R) a0, .rd i64R a1, .rd i64R a2] [] (wire_part a0 a1 a2) (fun r nv => ⟨[.rd (sliceR u8R) r.1, .rd i64R r.2.1, .rd i64R r.2.2], []⟩) := by
  refine spec 51 Try.func107 rfl rfl rfl fun H w => ?_
  refine gSeq <| gReg <| R rfl (asg rfl) <| R rfl (asg rfl) <| R rfl (asg rfl) <| gNil <| eThen <| gSeq <| gSeq <| gReg <| R rfl (mv rfl) <| R rfl (I.lss rfl rfl) <| gNil <| eThen <| gIf rfl rfl (fun h1 => ?_) (fun h1 => ?_)
  · skip
    refine gSeq <| gReg <| R rfl (asg rfl) <| R rfl (asg rfl) <| R rfl (asg rfl) <| gNil <| eThen <| gRet <| eTret <| eRdNil u8R 6 rfl <| eRet [] [] rfl (eE rfl <| eE rfl <| eE rfl <| eN) (rN)
  · skip
    refine gSkip <| eThen <| gSeq <| gReg <| R rfl (mv rfl) <| call [] [] rfl Try.func26 rfl rfl (wire_ReadNumber_ok _) (aQ rfl <| aN) rN fun r2 n3 => R rfl (mv rfl) <| R rfl (ext rfl rfl) <| R rfl (ext rfl rfl) <| R rfl (ext rfl rfl) <| R rfl (asg rfl) <| R rfl (asg rfl) <| R rfl (asg rfl) <| gNil <| eThen <| gSeq <| gMid (fun (s4 : Bool) aa ww => Sta (ctx 51 H [] w) [(0, .rd (sliceR u8R) a0), (2, .rd i64R a2), (9, .rd u64R r2.1), (10, .rd i64R r2.2.1), (39, .rd boolR s4)] [] aa ww) ?_ (fun s4 => ?_)
    · skip
      refine gReg <| R rfl (mv rfl) <| R rfl (I.neq rfl rfl) <| R rfl (mv rfl) <| lSplit 23 rfl (fun h5 => ?_) (fun h5 => ?_)
      · skip
        refine lKn 22 rfl h5 <| lSkip (gd rfl rfl rfl rfl) rfl rfl <| lSkip (gd rfl rfl rfl rfl) rfl rfl <| lSkip (gd rfl rfl rfl rfl) rfl rfl <| lSkip (gd rfl rfl rfl rfl) rfl rfl <| R rfl (pkT rfl rfl) <| R rfl (mv rfl) <| lSkip (gd rfl rfl rfl rfl) rfl rfl <| lSkip (gd rfl rfl rfl rfl) rfl rfl <| lSkip (gd rfl rfl rfl rfl) rfl rfl <| lSkip (gd rfl rfl rfl rfl) rfl rfl <| lSkip (gd rfl rfl rfl rfl) rfl rfl <| lSkip (gd rfl rfl rfl rfl) rfl rfl <| lSkip (gd rfl rfl rfl rfl) rfl rfl <| lSkip (gd rfl rfl rfl rfl) rfl rfl <| lSkip (gd rfl rfl rfl rfl) rfl rfl <| R rfl (pkT rfl rfl) <| gNil <| eMid (fun aa ww h => h.sub [] (sS rfl <| sS rfl <| sS rfl <| sS rfl <| sS rfl <| sN) (rN))
      · skip
        refine lKn 22 rfl h5 <| lRun (gd rfl rfl rfl rfl) rfl rfl (mv rfl) <| lRun (gd rfl rfl rfl rfl) rfl rfl (mv rfl) <| lRun (gd rfl rfl rfl rfl) rfl rfl (I.toU rfl Try.underlying3 Try.underlying31) <| lRun (gd rfl rfl rfl rfl) rfl rfl (U.gtr rfl rfl) <| R rfl (pkF rfl rfl) <| R rfl (mv rfl) <| lSplit 29 rfl (fun h6 => ?_) (fun h6 => ?_)
        · skip
          refine lKn 27 rfl h6 <| lKn 28 rfl h6 <| lSkip (gd rfl rfl rfl rfl) rfl rfl <| lSkip (gd rfl rfl rfl rfl) rfl rfl <| lSkip (gd rfl rfl rfl rfl) rfl rfl <| lSkip (gd rfl rfl rfl rfl) rfl rfl <| lSkip (gd rfl rfl rfl rfl) rfl rfl <| lSkip (gd rfl rfl rfl rfl) rfl rfl <| lSkip (gd rfl rfl rfl rfl) rfl rfl <| lSkip (gd rfl rfl rfl rfl) rfl rfl <| lSkip (gd rfl rfl rfl rfl) rfl rfl <| R rfl (pkT rfl rfl) <| gNil <| eMid (fun aa ww h => h.sub [] (sS rfl <| sS rfl <| sS rfl <| sS rfl <| sS rfl <| sN) (rN))
        · skip
          refine lKn 27 rfl h6 <| lKn 28 rfl h6 <| lRun (gd rfl rfl rfl rfl) rfl rfl (mv rfl) <| lRun (gd rfl rfl rfl rfl) rfl rfl (mv rfl) <| lRun (gd rfl rfl rfl rfl) rfl rfl (len' rfl .rd rfl Try.underlying32) <| lRun (gd rfl rfl rfl rfl) rfl rfl (mv rfl) <| lRun (gd rfl rfl rfl rfl) rfl rfl (I.sub rfl rfl) <| lRun (gd rfl rfl rfl rfl) rfl rfl (mv rfl) <| lBind fun u7 h8 => lRun (gd rfl rfl rfl rfl) rfl rfl (I.quo rfl rfl (chk_some h8)) <| lRun (gd rfl rfl rfl rfl) rfl rfl (I.toU rfl Try.underlying3 Try.underlying31) <| lRun (gd rfl rfl rfl rfl) rfl rfl (U.gtr rfl rfl) <| R rfl (pkF rfl rfl) <| gNil <| eMid (fun aa ww h => h.sub [] (sS rfl <| sS rfl <| sS rfl <| sS rfl <| sS rfl <| sN) (rN))
    · skip
      refine gIf rfl rfl (fun h9 => ?_) (fun h9 => ?_)
      · skip
        refine gSeq <| gReg <| R rfl (asg rfl) <| R rfl (asg rfl) <| R rfl (asg rfl) <| gNil <| eThen <| gRet <| eTret <| eRdNil u8R 6 rfl <| eRet [] [] rfl (eE rfl <| eE rfl <| eE rfl <| eN) (rN)
      · skip
        refine gSkip <| eThen <| gSeq <| gReg <| R rfl (mv rfl) <| R rfl (mv rfl) <| R rfl (mv rfl) <| R rfl (U.toI rfl Try.underlying31 Try.underlying3) <| R rfl (I.mul rfl rfl) <| R rfl (I.add rfl rfl) <| R rfl (asg rfl) <| lName 12 rfl fun y10 => gNil <| eThen <| gSeq <| gReg <| R rfl (mv rfl) <| R rfl (mv rfl) <| R rfl (mv rfl) <| lBind fun x11 h12 => R rfl (cut' rfl (.to rfl) (.to rfl) h12 Try.underlying32 ti5) <| R rfl (mv rfl) <| R rfl (asg rfl) <| R rfl (asg rfl) <| R rfl (asg rfl) <| gNil <| eThen <| gRet <| eRet [] [] rfl (eE rfl <| eE rfl <| eE rfl <| eN) (rN)
def wire_ReadIDs_L0 (x4 : List (Vector UInt8 32)) (s8 : (List UInt8) × (List (Vector UInt8 32)) × Int) : Option (Sum ((List (Vector UInt8 32))) ((List UInt8) × (List (Vector UInt8 32)) × Int)) :=
  if decide (s8.2.2 < (x4.length : Int)) then
    idx s8.2.1 s8.2.2 >>= fun x10 =>
    cut s8.1 ((min s8.1.length 32 : Nat) : Int) (s8.1.length : Int) >>= fun x12 =>
    some (.inr (x12, s8.2.1.set (s8.2.2 : Int).toNat (vcopy x10 s8.1), w64 (s8.2.2 + 1)))
  else
    some (.inl s8.2.1)
def wire_ReadIDs (a0 : List UInt8) (a1 : Int) : Option ((List (Vector UInt8 32)) × Int × Int) :=
  wire_part a0 a1 32 >>= fun r1 =>
  if r1.2.2 != 0 then
    some ([], 0, r1.2.2)
  else
    mkn 32 (Vector.replicate 32 0) (w64 (Int.tdiv (r1.1.length : Int) 32)) >>= fun x4 =>
    (iter (wire_ReadIDs_L0 x4) (r1.1, x4, 0)) >>= fun s7 =>
    wire_rising s7 >>= fun r14 =>
    if !r14 then
      some ([], 0, 12)
    else
      some (s7, r1.2.1, 0)
set_option maxRecDepth 100000 in
theorem wire_ReadIDs_ok (a0 : List UInt8) (a1 : Int) : Spec Try.prog 61 [.rd (sliceR u8R) a0, .rd i64R a1] [] (wire_ReadIDs a0 a1) (fun r nv => ⟨[.rd (sliceR (arrR 32 u8R)) r.1, .rd i64R r.2.1, .rd i64R r.2.2], []⟩) := by
  refine spec 45 Try.func61 rfl rfl rfl fun H w => ?_
  refine gSeq <| gReg <| R rfl (asg rfl) <| R rfl (asg rfl) <| R rfl (asg rfl) <| gNil <| eThen <| gSeq <| gReg <| R rfl (mv rfl) <| R rfl (mv rfl) <| call [] [] rfl Try.func107 rfl rfl (wire_part_ok _ _ _) (aQ rfl <| aQ rfl <| aQ rfl <| aN) rN fun r1 n2 => R rfl (mv rfl) <| R rfl (ext rfl rfl) <| R rfl (ext rfl rfl) <| R rfl (ext rfl rfl) <| R rfl (asg rfl) <| R rfl (asg rfl) <| R rfl (asg rfl) <| gNil <| eThen <| gSeq <| gSeq <| gReg <| R rfl (mv rfl) <| R rfl (I.neq rfl rfl) <| gNil <| eThen <| gIf rfl rfl (fun h3 => ?_) (fun h3 => ?_)
  · skip
    refine gSeq <| gReg <| R rfl (mv rfl) <| R rfl (asg rfl) <| R rfl (asg rfl) <| R rfl (asg rfl) <| gNil <| eThen <| gRet <| eTret <| eRdNil (arrR 32 u8R) 4 rfl <| eRet [] [] rfl (eE rfl <| eE rfl <| eE rfl <| eN) (rN)
  · skip
    refine gSkip <| eThen <| gSeq <| gReg <| R rfl (mv rfl) <| R rfl (len' rfl .rd rfl Try.underlying32) <| R rfl (I.quo rfl rfl (by decide)) <| lBind fun x4 h5 => Ef rfl (mks 1 rfl rfl h5 Try.underlying83 ti102 zr101 rfl) fun v6 => R rfl (asg rfl) <| gNil <| eThen <| gMid (fun (s7 : (List (Vector UInt8 32))) aa ww => Sta (ctx 45 H [] w) [(8, .rd i64R r1.2.1), (10, .val v6)] [(1, some (v6, .list (arrR 32 u8R) 102 s7))] aa ww) ?_ (fun s7 => ?_)
    · skip
      refine gSeq <| gReg <| R rfl (mv rfl) <| R rfl (len' rfl (.own 1 rfl) rfl Try.underlying83) <| R rfl (mv rfl) <| gNil <| eThen <| gLoop (fun (s8 : (List UInt8) × (List (Vector UInt8 32)) × Int) aa ww => Sta (ctx 45 H [] w) [(7, .rd (sliceR u8R) s8.1), (8, .rd i64R r1.2.1), (10, .val v6), (27, .rd i64R (x4.length : Int)), (28, .rd i64R s8.2.2)] [(1, some (v6, .list (arrR 32 u8R) 102 s8.2.1))] aa ww) (fun aa ww h => h.sub [1] (sS rfl <| sS rfl <| sS rfl <| sS rfl <| sS rfl <| sN) (rR rfl rfl <| rN)) (fun s8 => ?_)
      refine gSeq <| gReg <| R rfl (I.lss rfl rfl) <| gNil <| eThen <| gSeq <| gIf rfl rfl (fun h9 => ?_) (fun h9 => ?_)
      · skip
        refine gSkip <| eThen <| gSeq <| gBlk <| gSeq <| gReg <| R rfl (mv rfl) <| R rfl (asg rfl) <| gNil <| eThen <| gReg <| R rfl (mv rfl) <| R rfl (mv rfl) <| R rfl (mv rfl) <| lBind fun x10 h11 => R rfl (ixO 1 rfl rfl rfl h11 Try.underlying83 ti102) <| R rfl (cutW 1 rfl rfl (Foc.el h11) Try.underlying102 ti5 rfl) <| R rfl (mv rfl) <| lCpy 1 rfl rfl rfl (Foc.el h11) rfl .rd rfl Try.underlying32 ti5 <| lBind fun x12 h13 => R rfl (cut' rfl (.to rfl) .no h13 Try.underlying32 ti5) <| R rfl (asg rfl) <| gNil <| eBlk <| eThen <| gReg <| R rfl (I.add rfl rfl) <| R rfl (mv rfl) <| gNil <| eNext (fun aa ww h => h.sub [1] (sS rfl <| sS rfl <| sS rfl <| sS rfl <| sS rfl <| sN) (rR rfl rfl <| rN))
      · skip
        refine gExit <| eTexit <| eLeave <| eMid (fun aa ww h => h.sub [1] (sS rfl <| sS rfl <| sN) (rR rfl rfl <| rN))
    · skip
      refine gSeq <| gSeq <| gReg <| R rfl (mv rfl) <| lFrz 1 [10, 40] rfl (fS rfl <| fS rfl <| fN) <| call [] [] rfl Try.func115 rfl rfl (wire_rising_ok _) (aQ rfl <| aN) rN fun r14 n15 => R rfl (not' rfl) <| gNil <| eThen <| gIf rfl rfl (fun h16 => ?_) (fun h16 => ?_)
      · skip
        refine gSeq <| gReg <| R rfl (asg rfl) <| R rfl (asg rfl) <| R rfl (asg rfl) <| gNil <| eThen <| gRet <| eTret <| eRdNil (arrR 32 u8R) 4 rfl <| eRet [] [] rfl (eE rfl <| eE rfl <| eE rfl <| eN) (rN)
      · skip
        refine gSkip <| eThen <| gSeq <| gReg <| R rfl (mv rfl) <| R rfl (mv rfl) <| R rfl (asg rfl) <| R rfl (asg rfl) <| R rfl (asg rfl) <| gNil <| eThen <| gRet <| eRet [] [] rfl (eE rfl <| eE rfl <| eE rfl <| eN) (rN)
def wire_ReadBytes (a0 : List UInt8) (a1 : Int) : Option ((List UInt8) × Int × Int) :=
  wire_part a0 a1 1 >>= fun r1 =>
  bytes_Clone r1.1 >>= fun r3 =>
  some (r3, r1.2.1, r1.2.2)
set_option maxRecDepth 100000 in
theorem wire_ReadBytes_ok (a0 : List UInt8) (a1 : Int) : Spec Try.prog 48 [.rd (sliceR u8R) a0, .rd i64R a1] [] (wire_ReadBytes a0 a1) (fun r nv => ⟨[.val (nv 0), .rd i64R r.2.1, .rd i64R r.2.2], [(100, some (nv 0, .list u8R 5 r.1))]⟩) := by
  refine spec 21 Try.func48 rfl rfl rfl fun H w => ?_
  refine gSeq <| gReg <| R rfl (asg rfl) <| R rfl (asg rfl) <| R rfl (asg rfl) <| gNil <| eThen <| gSeq <| gReg <| R rfl (mv rfl) <| R rfl (mv rfl) <| call [] [] rfl Try.func107 rfl rfl (wire_part_ok _ _ _) (aQ rfl <| aQ rfl <| aQ rfl <| aN) rN fun r1 n2 => R rfl (mv rfl) <| R rfl (ext rfl rfl) <| R rfl (ext rfl rfl) <| R rfl (ext rfl rfl) <| R rfl (asg rfl) <| R rfl (asg rfl) <| R rfl (asg rfl) <| gNil <| eThen <| gSeq <| gReg <| R rfl (mv rfl) <| call [] [(100, 1)] rfl Try.func108 rfl rfl (bytes_Clone_ok _) (aQ rfl <| aN) rN fun r3 n4 => R rfl (mv rfl) <| R rfl (mv rfl) <| R rfl (asg rfl) <| R rfl (asg rfl) <| R rfl (asg rfl) <| gNil <| eThen <| gRet <| eRet [(n4 0)] [1] rfl (eE rfl <| eE rfl <| eE rfl <| eN) (rR rfl rfl <| rN)
def frame_read_L1 (a0 : UInt8) (s16 : (List UInt8) × (List (List UInt8)) × UInt64) : Option (Sum (Sum (api_Frame × Int) (UInt64 × (List (Vector UInt8 32)) × (List (List UInt8)) × Int)) ((List UInt8) × (List (List UInt8)) × UInt64)) :=
  if decide (0 < s16.2.2) then
    wire_ReadBytes s16.1 400 >>= fun r19 =>
    if r19.2.2 != 0 then
      some (.inl (.inl ((⟨a0, 0, [], s16.2.1⟩ : api_Frame), r19.2.2)))
    else
      cut s16.1 r19.2.1 (s16.1.length : Int) >>= fun x22 =>
      app 24 s16.2.1 [r19.1] >>= fun x25 =>
      some (.inr (x22, x25, s16.2.2 - 1))
  else
    some (.inl (.inr (0, [], s16.2.1, 0)))
def frame_read (a0 : UInt8) (a1 : List UInt8) : Option (api_Frame × Int) :=
  orRet (frame_listed a0 >>= fun r3 =>
  if r3 then
    wire_ReadIDs a1 40 >>= fun r6 =>
    some (.inr (0, r6.1, [], r6.2.2))
  else
    if a0 == 5 then
      wire_ReadNumber a1 >>= fun r9 =>
      (if r9.2.2 != 0 then
        some true
      else
        some (decide (8 < r9.1))) >>= fun s11 =>
      if s11 then
        some (.inl ((⟨a0, 0, [], []⟩ : api_Frame), 12))
      else
        cut a1 r9.2.1 (a1.length : Int) >>= fun x14 =>
        iter (frame_read_L1 a0) (x14, [], r9.1)
    else
      wire_ReadNumber a1 >>= fun r32 =>
      some (.inr (r32.1, [], [], r32.2.2))) fun s2 =>
  some ((⟨a0, s2.1, s2.2.1, s2.2.2.1⟩ : api_Frame), s2.2.2.2)
set_option maxRecDepth 100000 in
theorem frame_read_ok (a0 : UInt8) (a1 : List UInt8) : Spec Try.prog 125 [.rd u8R a0, .rd (sliceR u8R) a1] [] (frame_read a0 a1) (fun r nv => ⟨[.rd R_api_Frame r.1, .rd i64R r.2], []⟩) := by
  refine spec 75 Try.func125 rfl rfl rfl fun H w => ?_
  refine gSeq <| gReg <| Eb rfl (allc 1 ti105 (ZrE.rd (R := u8R) (x := 0) (Zr.num rfl) (ZrE.rd (R := u64R) (x := 0) (Zr.num rfl) (ZrE.nilS (ZrE.nilS ZrE.nil)) rfl) rfl)) fun v1 => R rfl (asg rfl) <| gNil <| eThen <| gSeq <| gReg <| R rfl (mv rfl) <| R rfl (faB 1 rfl rfl Try.underlying105 rfl (by exact ti5)) <| Es (sto 1 rfl rfl (Foc.cast Foc.here rfl) rfl ti5) <| gNil <| eThen <| gMidR (fun (s2 : UInt64 × (List (Vector UInt8 32)) × (List (List UInt8)) × Int) aa ww => ∃ nv : Nat → Value, Sta (ctx 75 H [] w) [(4, .val (ptrTo v1 0)), (5, .rd i64R s2.2.2.2)] [(15, some ((nv 0), .list (sliceR u8R) 32 s2.2.2.1)), (1, some (v1, .box 105 [.rd u8R a0, .rd u64R s2.1, .rd (sliceR (arrR 32 u8R)) s2.2.1, .val (nv 0)]))] aa ww) ?_ (fun s2 => ?_)
  · skip
    refine gBlk <| gSeq <| gReg <| R rfl (mv rfl) <| call [] [] rfl Try.func121 rfl rfl (frame_listed_ok _) (aQ rfl <| aN) rN fun r3 n4 => R rfl (asg rfl) <| gNil <| eThen <| gIf rfl rfl (fun h5 => ?_) (fun h5 => ?_)
    · skip
      refine gKn 23 rfl h5 <| gReg <| R rfl (mv rfl) <| call [] [] rfl Try.func61 rfl rfl (wire_ReadIDs_ok _ _) (aQ rfl <| aQ rfl <| aN) rN fun r6 n7 => R rfl (mv rfl) <| R rfl (ext rfl rfl) <| R rfl (ext rfl rfl) <| R rfl (ext rfl rfl) <| R rfl (faB 1 rfl rfl Try.underlying105 rfl (by exact ti83)) <| Es (stoE 1 rfl rfl (Swap.cast (Swap.next fills_rd (Swap.next fills_rd (Swap.here fills_val))) rfl) rfl ones_rd fills_rd ti83) <| R rfl (asg rfl) <| gNil <| eBlk <| eNew (sliceR u8R) 32 16 <| eMidR (fun aa ww h => ⟨nvl [(.slice none 0 0)], h.sub [16, 1] (sS rfl <| sS rfl <| sN) (rR rfl rfl <| rR rfl rfl <| rN)⟩)
    · skip
      refine gKn 23 rfl h5 <| gSeq <| gReg <| R rfl (mv rfl) <| R rfl (B.eql rfl rfl) <| R rfl (asg rfl) <| gNil <| eThen <| gIf rfl rfl (fun h8 => ?_) (fun h8 => ?_)
      · skip
        refine gKn 33 rfl h8 <| gSeq <| gReg <| R rfl (mv rfl) <| call [] [] rfl Try.func26 rfl rfl (wire_ReadNumber_ok _) (aQ rfl <| aN) rN fun r9 n10 => R rfl (mv rfl) <| R rfl (ext rfl rfl) <| R rfl (ext rfl rfl) <| R rfl (ext rfl rfl) <| R rfl (asg rfl) <| R rfl (asg rfl) <| R rfl (asg rfl) <| gNil <| eThen <| gSeq <| gMid (fun (s11 : Bool) aa ww => Sta (ctx 75 H [] w) [(1, .rd (sliceR u8R) a1), (4, .val (ptrTo v1 0)), (5, .rd i64R 0), (6, .rd u64R r9.1), (7, .rd i64R r9.2.1), (45, .rd boolR s11)] [(1, some (v1, .box 105 [.rd u8R a0, .rd u64R 0, .val (.slice none 0 0), .val (.slice none 0 0)]))] aa ww) ?_ (fun s11 => ?_)
        · skip
          refine gReg <| R rfl (mv rfl) <| R rfl (I.neq rfl rfl) <| R rfl (mv rfl) <| lSplit 42 rfl (fun h12 => ?_) (fun h12 => ?_)
          · skip
            refine lKn 41 rfl h12 <| lSkip (gd rfl rfl rfl rfl) rfl rfl <| lSkip (gd rfl rfl rfl rfl) rfl rfl <| R rfl (pkT rfl rfl) <| gNil <| eMid (fun aa ww h => h.sub [1] (sS rfl <| sS rfl <| sS rfl <| sS rfl <| sS rfl <| sS rfl <| sN) (rR rfl rfl <| rN))
          · skip
            refine lKn 41 rfl h12 <| lRun (gd rfl rfl rfl rfl) rfl rfl (mv rfl) <| lRun (gd rfl rfl rfl rfl) rfl rfl (U.gtr rfl rfl) <| R rfl (pkF rfl rfl) <| gNil <| eMid (fun aa ww h => h.sub [1] (sS rfl <| sS rfl <| sS rfl <| sS rfl <| sS rfl <| sS rfl <| sN) (rR rfl rfl <| rN))
        · skip
          refine gIf rfl rfl (fun h13 => ?_) (fun h13 => ?_)
          · skip
            refine gSeq <| gReg <| lPnl (arrR 32 u8R) [.rd u8R a0, .rd u64R 0, .rd (sliceR (arrR 32 u8R)) [], .val (.slice none 0 0)] 1 [.rd u8R a0, .rd u64R 0] [.val (.slice none 0 0)] rfl rfl rfl <| lPnl (sliceR u8R) [.rd u8R a0, .rd u64R 0, .rd (sliceR (arrR 32 u8R)) [], .rd (sliceR (sliceR u8R)) []] 1 [.rd u8R a0, .rd u64R 0, .rd (sliceR (arrR 32 u8R)) []] [] rfl rfl rfl <| lJoi (R := R_api_Frame) (⟨a0, 0, [], []⟩ : api_Frame) 1 rfl (Sp.via (Sp.prod (Sp.prod (Sp.prod (Sp.prod Sp.unit))))) <| R rfl (ld 1 rfl rfl Foc.here ty105 rfl) <| Es (sto 1 rfl rfl Foc.here rfl ti105) <| R rfl (asg rfl) <| gNil <| eThen <| gRet <| eTret <| eBret <| eMret <| eRet [] [] rfl (eC 1 rfl rfl ty105 <| eE rfl <| eN) (rN)
          · skip
            refine gSkip <| eThen <| gSeq <| gReg <| R rfl (mv rfl) <| R rfl (mv rfl) <| lBind fun x14 h15 => R rfl (cut' rfl (.to rfl) .no h15 Try.underlying32 ti5) <| R rfl (asg rfl) <| gNil <| eThen <| gNew (sliceR u8R) 32 31 <| gLoop (fun (s16 : (List UInt8) × (List (List UInt8)) × UInt64) aa ww => ∃ nv : Nat → Value, Sta (ctx 75 H [] w) [(1, .rd (sliceR u8R) s16.1), (4, .val (ptrTo v1 0)), (5, .rd i64R 0), (6, .rd u64R s16.2.2)] [(30, some ((nv 0), .list (sliceR u8R) 32 s16.2.1)), (1, some (v1, .box 105 [.rd u8R a0, .rd u64R 0, .val (.slice none 0 0), .val (nv 0)]))] aa ww) (fun aa ww h => ⟨nvl [(.slice none 0 0)], h.sub [31, 1] (sS rfl <| sS rfl <| sS rfl <| sS rfl <| sN) (rR rfl rfl <| rR rfl rfl <| rN)⟩) (fun s16 => ?_)
            refine gEx fun n17 => gSeq <| gSeq <| gReg <| R rfl (mv rfl) <| R rfl (U.gtr rfl rfl) <| gNil <| eThen <| gIf rfl rfl (fun h18 => ?_) (fun h18 => ?_)
            · skip
              refine gSkip <| eThen <| gSeq <| gBlk <| gSeq <| gReg <| R rfl (mv rfl) <| call [] [(100, 32)] rfl Try.func48 rfl rfl (wire_ReadBytes_ok _ _) (aQ rfl <| aQ rfl <| aN) rN fun r19 n20 => R rfl (mv rfl) <| R rfl (ext rfl rfl) <| R rfl (ext rfl rfl) <| R rfl (ext rfl rfl) <| R rfl (asg rfl) <| R rfl (asg rfl) <| R rfl (asg rfl) <| gNil <| eThen <| gSeq <| gSeq <| gReg <| R rfl (mv rfl) <| R rfl (I.neq rfl rfl) <| gNil <| eThen <| gIf rfl rfl (fun h21 => ?_) (fun h21 => ?_)
              · skip
                refine gSeq <| gReg <| lPnl (arrR 32 u8R) [.rd u8R a0, .rd u64R 0, .rd (sliceR (arrR 32 u8R)) [], .val (n17 0)] 1 [.rd u8R a0, .rd u64R 0] [.val (n17 0)] rfl rfl rfl <| lPow [.rd u8R a0, .rd u64R 0, .rd (sliceR (arrR 32 u8R)) [], .rd (sliceR (sliceR u8R)) s16.2.1] 1 30 [.rd u8R a0, .rd u64R 0, .rd (sliceR (arrR 32 u8R)) []] [] rfl rfl rfl rfl rfl <| lJoi (R := R_api_Frame) (⟨a0, 0, [], s16.2.1⟩ : api_Frame) 1 rfl (Sp.via (Sp.prod (Sp.prod (Sp.prod (Sp.prod Sp.unit))))) <| R rfl (ld 1 rfl rfl Foc.here ty105 rfl) <| R rfl (mv rfl) <| Es (sto 1 rfl rfl Foc.here rfl ti105) <| R rfl (asg rfl) <| gNil <| eThen <| gRet <| eTret <| eBret <| eTret <| eLret <| eBret <| eMret <| eRet [] [] rfl (eC 1 rfl rfl ty105 <| eE rfl <| eN) (rN)
              · skip
                refine gSkip <| eThen <| gRegH [1, 30, 42] mixed rfl rfl <| hTake 0 rfl (by kernel_rfl) (by kernel_rfl) (by kernel_rfl) (gd0 rfl) rfl rfl (faB 1 rfl rfl Try.underlying105 rfl (by exact ti103)) <| hTake 2 rfl (by kernel_rfl) (by kernel_rfl) (by kernel_rfl) (gd0 rfl) rfl rfl (mv rfl) <| hTake 5 rfl (by kernel_rfl) (by kernel_rfl) (by kernel_rfl) (gd0 rfl) rfl rfl (mv rfl) <| hTake 6 rfl (by kernel_rfl) (by kernel_rfl) (by kernel_rfl) (gd0 rfl) rfl rfl (mv rfl) <| hBind fun x22 h23 => hTake 7 rfl (by kernel_rfl) (by kernel_rfl) (by kernel_rfl) (gd0 rfl) rfl rfl (cut' rfl (.to rfl) .no h23 Try.underlying32 ti5) <| hAlt [1, 3] (by kernel_rfl) rfl ⟨?_, ?_, trivial⟩
                · skip
                  refine oRun 1 rfl (gd0 rfl) rfl rfl flat_val (ldV 1 rfl rfl (At.cast (At.next fills_rd (At.next fills_rd (At.next fills_val At.here))) rfl) sc103 rfl) <| hFrz 32 [57, 9, 66] rfl (fS rfl <| fS rfl <| fS rfl <| fN) <| hDo 3 rfl (by kernel_rfl) (gd0 rfl) rfl rfl rfl (lit (R := (sliceR u8R)) ([r19.1] : List (List UInt8)) 42 (pP rfl rfl <| pN) rfl Try.underlying103 ti32 rfl rfl) (fun _ => rfl) fun v24 => hFrz 42 [67] rfl (fS rfl <| fN) <| hBind fun x25 h26 => hDo 4 rfl (by kernel_rfl) (gd0 rfl) rfl rfl rfl (apn 30 rfl rfl rfl .rd h26 Try.underlying103 ti32 rfl rfl rfl) (fun _ => rfl) fun v27 => hTake 8 rfl (by kernel_rfl) (by kernel_rfl) (by kernel_rfl) (gd0 rfl) rfl rfl (faB 1 rfl rfl Try.underlying105 rfl (by exact ti103)) <| hDoS 9 rfl (by kernel_rfl) (gd0 rfl) rfl rfl rfl rfl (stoE 1 rfl rfl (Swap.cast (Swap.next fills_rd (Swap.next fills_rd (Swap.next fills_val (Swap.here fills_val)))) rfl) rfl ones_val fills_val ti103) <| hTake 10 rfl (by kernel_rfl) (by kernel_rfl) (by kernel_rfl) (gd0 rfl) rfl rfl (asg rfl) <| hDone (by kernel_rfl) <| eBlk <| eThen <| gReg <| R rfl (mv rfl) <| R rfl (U.sub rfl rfl) <| R rfl (asg rfl) <| gNil <| eNext (fun aa ww h => ⟨nvl [v27], h.sub [30, 1] (sS rfl <| sS rfl <| sS rfl <| sS rfl <| sN) (rR rfl rfl <| rR rfl rfl <| rN)⟩)
                · skip
                  refine oFrz 32 [57, 9, 66] rfl (fS rfl <| fS rfl <| fS rfl <| fN) <| oDo 3 rfl (gd0 rfl) rfl rfl rfl (lit (R := (sliceR u8R)) ([r19.1] : List (List UInt8)) 42 (pP rfl rfl <| pN) rfl Try.underlying103 ti32 rfl rfl) (fun _ => rfl) fun v28 => hRun 1 rfl (by kernel_rfl) (gd0 rfl) rfl rfl flat_val (ldV 1 rfl rfl (At.cast (At.next fills_rd (At.next fills_rd (At.next fills_val At.here))) rfl) sc103 rfl) <| hFrz 42 [67] rfl (fS rfl <| fN) <| hBind fun x29 h30 => hDo 4 rfl (by kernel_rfl) (gd0 rfl) rfl rfl rfl (apn 30 rfl rfl rfl .rd h30 Try.underlying103 ti32 rfl rfl rfl) (fun _ => rfl) fun v31 => hTake 8 rfl (by kernel_rfl) (by kernel_rfl) (by kernel_rfl) (gd0 rfl) rfl rfl (faB 1 rfl rfl Try.underlying105 rfl (by exact ti103)) <| hDoS 9 rfl (by kernel_rfl) (gd0 rfl) rfl rfl rfl rfl (stoE 1 rfl rfl (Swap.cast (Swap.next fills_rd (Swap.next fills_rd (Swap.next fills_val (Swap.here fills_val)))) rfl) rfl ones_val fills_val ti103) <| hTake 10 rfl (by kernel_rfl) (by kernel_rfl) (by kernel_rfl) (gd0 rfl) rfl rfl (asg rfl) <| hDone (by kernel_rfl) <| eBlk <| eThen <| gReg <| R rfl (mv rfl) <| R rfl (U.sub rfl rfl) <| R rfl (asg rfl) <| gNil <| eNext (fun aa ww h => ⟨nvl [v31], h.sub [30, 1] (sS rfl <| sS rfl <| sS rfl <| sS rfl <| sN) (rR rfl rfl <| rR rfl rfl <| rN)⟩)
            · skip
              refine gExit <| eTexit <| eLeave <| eBlk <| ePnl (arrR 32 u8R) [.rd u8R a0, .rd u64R 0, .rd (sliceR (arrR 32 u8R)) [], .val (n17 0)] 1 [.rd u8R a0, .rd u64R 0] [.val (n17 0)] rfl rfl rfl <| eMidR (fun aa ww h => ⟨nvl [(n17 0)], h.sub [30, 1] (sS rfl <| sS rfl <| sN) (rR rfl rfl <| rR rfl rfl <| rN)⟩)
      · skip
        refine gKn 33 rfl h8 <| gReg <| R rfl (mv rfl) <| call [] [] rfl Try.func26 rfl rfl (wire_ReadNumber_ok _) (aQ rfl <| aN) rN fun r32 n33 => R rfl (mv rfl) <| R rfl (ext rfl rfl) <| R rfl (ext rfl rfl) <| R rfl (ext rfl rfl) <| R rfl (faB 1 rfl rfl Try.underlying105 rfl (by exact ti31)) <| Es (sto 1 rfl rfl (Foc.cast (Foc.next fills_rd Foc.here) rfl) rfl ti31) <| R rfl (asg rfl) <| gNil <| eBlk <| ePnl (arrR 32 u8R) [.rd u8R a0, .rd u64R r32.1, .rd (sliceR (arrR 32 u8R)) [], .val (.slice none 0 0)] 1 [.rd u8R a0, .rd u64R r32.1] [.val (.slice none 0 0)] rfl rfl rfl <| eNew (sliceR u8R) 32 69 <| eMidR (fun aa ww h => ⟨nvl [(.slice none 0 0)], h.sub [69, 1] (sS rfl <| sS rfl <| sN) (rR rfl rfl <| rR rfl rfl <| rN)⟩)
  · skip
    refine gEx fun n34 => gSeq <| gReg <| lPow [.rd u8R a0, .rd u64R s2.1, .rd (sliceR (arrR 32 u8R)) s2.2.1, .rd (sliceR (sliceR u8R)) s2.2.2.1] 1 15 [.rd u8R a0, .rd u64R s2.1, .rd (sliceR (arrR 32 u8R)) s2.2.1] [] rfl rfl rfl rfl rfl <| lJoi (R := R_api_Frame) (⟨a0, s2.1, s2.2.1, s2.2.2.1⟩ : api_Frame) 1 rfl (Sp.via (Sp.prod (Sp.prod (Sp.prod (Sp.prod Sp.unit))))) <| R rfl (ld 1 rfl rfl Foc.here ty105 rfl) <| R rfl (mv rfl) <| Es (sto 1 rfl rfl Foc.here rfl ti105) <| R rfl (asg rfl) <| gNil <| eThen <| gRet <| eRet [] [] rfl (eC 1 rfl rfl ty105 <| eE rfl <| eN) (rN)
def bytes_Equal (a0 : List UInt8) (a1 : List UInt8) : Option (Bool) :=
  some (a0 == a1)
set_option maxRecDepth 100000 in
theorem bytes_Equal_ok (a0 : List UInt8) (a1 : List UInt8) : Spec Try.prog 126 [.rd (sliceR u8R) a0, .rd (sliceR u8R) a1] [] (bytes_Equal a0 a1) (fun r nv => ⟨[.rd boolR r], []⟩) := by
  refine spec 10 Try.func126 rfl rfl rfl fun H w => ?_
  refine gSeq <| gReg <| R rfl (asg rfl) <| gNil <| eThen <| gSeq <| gReg <| R rfl (mv rfl) <| R rfl (cvBS rfl Try.underlying32 Try.underlying5 Try.underlying9) <| R rfl (mv rfl) <| R rfl (cvBS rfl Try.underlying32 Try.underlying5 Try.underlying9) <| R rfl (eqS rfl rfl) <| R rfl (asg rfl) <| gNil <| eThen <| gRet <| eRet [] [] rfl (eE rfl <| eN) (rN)
def frame_Parse (a0 : List UInt8) : Option (api_Frame × Int) :=
  (if (a0.length : Int) == 0 then
    some true
  else
    some (decide (2000 < (a0.length : Int)))) >>= fun s2 =>
  if s2 then
    some ((⟨0, 0, [], []⟩ : api_Frame), 12)
  else
    (idx a0 0 >>= fun x6 =>
    cut a0 1 (a0.length : Int) >>= fun x8 =>
    frame_read x6 x8 >>= fun r10 =>
    some (r10.1, r10.2)) >>= fun s5 =>
    if s5.2 != 0 then
      some ((⟨0, 0, [], []⟩ : api_Frame), 12)
    else
      frame_write s5.1 >>= fun r18 =>
      (if !r18.2 then
        some true
      else
        bytes_Equal r18.1 a0 >>= fun r22 =>
        some (!r22)) >>= fun s20 =>
      if s20 then
        some ((⟨0, 0, [], []⟩ : api_Frame), 12)
      else
        some (s5.1, 0)
set_option maxRecDepth 100000 in
theorem frame_Parse_ok (a0 : List UInt8) : Spec Try.prog 79 [.rd (sliceR u8R) a0] [] (frame_Parse a0) (fun r nv => ⟨[.rd R_api_Frame r.1, .rd i64R r.2], []⟩) := by
  refine spec 44 Try.func79 rfl rfl rfl fun H w => ?_
  refine gSeq <| gReg <| Eb rfl (allc 1 ti105 (ZrE.rd (R := u8R) (x := 0) (Zr.num rfl) (ZrE.rd (R := u64R) (x := 0) (Zr.num rfl) (ZrE.nilS (ZrE.nilS ZrE.nil)) rfl) rfl)) fun v1 => R rfl (asg rfl) <| gNil <| eThen <| gSeq <| gMid (fun (s2 : Bool) aa ww => Sta (ctx 44 H [] w) [(0, .rd (sliceR u8R) a0), (2, .val (ptrTo v1 0)), (15, .rd boolR s2)] [(1, some (v1, .box 105 [.rd u8R 0, .rd u64R 0, .val (.slice none 0 0), .val (.slice none 0 0)]))] aa ww) ?_ (fun s2 => ?_)
  · skip
    refine gReg <| R rfl (mv rfl) <| R rfl (len' rfl .rd rfl Try.underlying32) <| R rfl (I.eql rfl rfl) <| R rfl (mv rfl) <| lSplit 11 rfl (fun h3 => ?_) (fun h3 => ?_)
    · skip
      refine lKn 10 rfl h3 <| lSkip (gd rfl rfl rfl rfl) rfl rfl <| lSkip (gd rfl rfl rfl rfl) rfl rfl <| lSkip (gd rfl rfl rfl rfl) rfl rfl <| R rfl (pkT rfl rfl) <| gNil <| eMid (fun aa ww h => h.sub [1] (sS rfl <| sS rfl <| sS rfl <| sN) (rR rfl rfl <| rN))
    · skip
      refine lKn 10 rfl h3 <| lRun (gd rfl rfl rfl rfl) rfl rfl (mv rfl) <| lRun (gd rfl rfl rfl rfl) rfl rfl (len' rfl .rd rfl Try.underlying32) <| lRun (gd rfl rfl rfl rfl) rfl rfl (I.gtr rfl rfl) <| R rfl (pkF rfl rfl) <| gNil <| eMid (fun aa ww h => h.sub [1] (sS rfl <| sS rfl <| sS rfl <| sN) (rR rfl rfl <| rN))
  · skip
    refine gIf rfl rfl (fun h4 => ?_) (fun h4 => ?_)
    · skip
      refine gSeq <| gReg <| R rfl (bldE [(0, 1), (1, 1), (2, 1), (3, 1)] Try.underlying105 ti105 (ZrE.rd (R := u8R) (x := 0) (Zr.num rfl) (ZrE.rd (R := u64R) (x := 0) (Zr.num rfl) (ZrE.nilS (ZrE.nilS ZrE.nil)) rfl) rfl) rfl (BldE.done rfl)) <| Es (stoG 1 rfl rfl (fillsL.cast (fillsL.cons fills_rd (fillsL.cons fills_rd (fillsL.cons fills_val (fillsL.cons fills_val fillsL.nil)))) rfl) rfl (onesL.cons ones_rd (onesL.cons ones_rd (onesL.cons ones_val (onesL.cons ones_val onesL.nil)))) (fillsL.cast (fillsL.cons fills_rd (fillsL.cons fills_rd (fillsL.cons fills_val (fillsL.cons fills_val fillsL.nil)))) rfl) ti105) <| R rfl (asg rfl) <| gNil <| eThen <| gRet <| eTret <| ePnl (arrR 32 u8R) [.rd u8R 0, .rd u64R 0, .rd (sliceR (arrR 32 u8R)) [], .val (.slice none 0 0)] 1 [.rd u8R 0, .rd u64R 0] [.val (.slice none 0 0)] rfl rfl rfl <| ePnl (sliceR u8R) [.rd u8R 0, .rd u64R 0, .rd (sliceR (arrR 32 u8R)) [], .rd (sliceR (sliceR u8R)) []] 1 [.rd u8R 0, .rd u64R 0, .rd (sliceR (arrR 32 u8R)) []] [] rfl rfl rfl <| eJoi (R := R_api_Frame) (⟨0, 0, [], []⟩ : api_Frame) 1 rfl (Sp.via (Sp.prod (Sp.prod (Sp.prod (Sp.prod Sp.unit))))) <| eRet [] [] rfl (eC 1 rfl rfl ty105 <| eE rfl <| eN) (rN)
    · skip
      refine gSkip <| eThen <| gMid (fun (s5 : api_Frame × Int) aa ww => ∃ nv : Nat → Value, Sta (ctx 44 H [] w) [(0, .rd (sliceR u8R) a0), (2, .val (ptrTo v1 0)), (4, .val (ptrTo (nv 0) 0)), (5, .rd i64R s5.2)] [(1, some (v1, .box 105 [.rd u8R 0, .rd u64R 0, .val (.slice none 0 0), .val (.slice none 0 0)])), (29, some ((nv 0), .box 105 [.rd R_api_Frame s5.1]))] aa ww) ?_ (fun s5 => ?_)
      · skip
        refine gRegH [57] mixed rfl rfl <| hTake 0 rfl (by kernel_rfl) (by kernel_rfl) (by kernel_rfl) (gd0 rfl) rfl rfl (mv rfl) <| hBind fun x6 h7 => hTake 1 rfl (by kernel_rfl) (by kernel_rfl) (by kernel_rfl) (gd0 rfl) rfl rfl (ixR rfl rfl h7 Try.underlying32 ti5 rfl) <| hTake 2 rfl (by kernel_rfl) (by kernel_rfl) (by kernel_rfl) (gd0 rfl) rfl rfl (ldR rfl ty5) <| hTake 3 rfl (by kernel_rfl) (by kernel_rfl) (by kernel_rfl) (gd0 rfl) rfl rfl (mv rfl) <| hBind fun x8 h9 => hTake 4 rfl (by kernel_rfl) (by kernel_rfl) (by kernel_rfl) (gd0 rfl) rfl rfl (cut' rfl (.to rfl) .no h9 Try.underlying32 ti5) <| hAlt [5, 9] (by kernel_rfl) rfl ⟨?_, ?_, trivial⟩
        · skip
          refine oCallJ 5 [] [] rfl rfl (gd0 rfl) rfl Try.func125 rfl rfl (frame_read_ok _ _) (aQ rfl <| aQ rfl <| aN) rN rfl fun r10 n11 => hTakeP 6 rfl (by kernel_rfl) (by kernel_rfl) (by kernel_rfl) (gd0 rfl) rfl rfl (mv rfl) <| hTakeP 7 rfl (by kernel_rfl) (by kernel_rfl) (by kernel_rfl) (gd0 rfl) rfl rfl (ext rfl rfl) <| hTakeF 8 rfl (by kernel_rfl) (by kernel_rfl) (by kernel_rfl) (gd0 rfl) rfl rfl flat_num (ext rfl rfl) <| hDoB 9 rfl (by kernel_rfl) (gd0 rfl) rfl rfl rfl (allc 57 ti105 (ZrE.rd (R := u8R) (x := 0) (Zr.num rfl) (ZrE.rd (R := u64R) (x := 0) (Zr.num rfl) (ZrE.nilS (ZrE.nilS ZrE.nil)) rfl) rfl)) fun v12 => hPnl (arrR 32 u8R) [.rd u8R 0, .rd u64R 0, .rd (sliceR (arrR 32 u8R)) [], .val (.slice none 0 0)] 57 [.rd u8R 0, .rd u64R 0] [.val (.slice none 0 0)] rfl rfl rfl <| hPnl (sliceR u8R) [.rd u8R 0, .rd u64R 0, .rd (sliceR (arrR 32 u8R)) [], .rd (sliceR (sliceR u8R)) []] 57 [.rd u8R 0, .rd u64R 0, .rd (sliceR (arrR 32 u8R)) []] [] rfl rfl rfl <| hJoi (R := R_api_Frame) (⟨0, 0, [], []⟩ : api_Frame) 57 rfl (Sp.via (Sp.prod (Sp.prod (Sp.prod (Sp.prod Sp.unit))))) <| hDoS 10 rfl (by kernel_rfl) (gd0 rfl) rfl rfl rfl rfl (sto 57 rfl rfl Foc.here rfl ti105) <| hTake 11 rfl (by kernel_rfl) (by kernel_rfl) (by kernel_rfl) (gd0 rfl) rfl rfl (asg rfl) <| hDone (by kernel_rfl) <| eMid (fun aa ww h => ⟨nvl [v12], h.sub [1, 57] (sS rfl <| sS rfl <| sS rfl <| sS rfl <| sN) (rR rfl rfl <| rR rfl rfl <| rN)⟩)
        · skip
          refine oDoB 9 rfl (gd0 rfl) rfl rfl rfl (allc 57 ti105 (ZrE.rd (R := u8R) (x := 0) (Zr.num rfl) (ZrE.rd (R := u64R) (x := 0) (Zr.num rfl) (ZrE.nilS (ZrE.nilS ZrE.nil)) rfl) rfl)) fun v13 => hCallJ 5 [] [] rfl (by kernel_rfl) rfl (gd0 rfl) rfl Try.func125 rfl rfl (frame_read_ok _ _) (aQ rfl <| aQ rfl <| aN) rN rfl fun r14 n15 => hTakeP 6 rfl (by kernel_rfl) (by kernel_rfl) (by kernel_rfl) (gd0 rfl) rfl rfl (mv rfl) <| hTakeP 7 rfl (by kernel_rfl) (by kernel_rfl) (by kernel_rfl) (gd0 rfl) rfl rfl (ext rfl rfl) <| hTakeF 8 rfl (by kernel_rfl) (by kernel_rfl) (by kernel_rfl) (gd0 rfl) rfl rfl flat_num (ext rfl rfl) <| hPnl (arrR 32 u8R) [.rd u8R 0, .rd u64R 0, .rd (sliceR (arrR 32 u8R)) [], .val (.slice none 0 0)] 57 [.rd u8R 0, .rd u64R 0] [.val (.slice none 0 0)] rfl rfl rfl <| hPnl (sliceR u8R) [.rd u8R 0, .rd u64R 0, .rd (sliceR (arrR 32 u8R)) [], .rd (sliceR (sliceR u8R)) []] 57 [.rd u8R 0, .rd u64R 0, .rd (sliceR (arrR 32 u8R)) []] [] rfl rfl rfl <| hJoi (R := R_api_Frame) (⟨0, 0, [], []⟩ : api_Frame) 57 rfl (Sp.via (Sp.prod (Sp.prod (Sp.prod (Sp.prod Sp.unit))))) <| hDoS 10 rfl (by kernel_rfl) (gd0 rfl) rfl rfl rfl rfl (sto 57 rfl rfl Foc.here rfl ti105) <| hTake 11 rfl (by kernel_rfl) (by kernel_rfl) (by kernel_rfl) (gd0 rfl) rfl rfl (asg rfl) <| hDone (by kernel_rfl) <| eMid (fun aa ww h => ⟨nvl [v13], h.sub [1, 57] (sS rfl <| sS rfl <| sS rfl <| sS rfl <| sN) (rR rfl rfl <| rR rfl rfl <| rN)⟩)
      · skip
        refine gEx fun n16 => gSeq <| gSeq <| gReg <| R rfl (mv rfl) <| R rfl (I.neq rfl rfl) <| gNil <| eThen <| gIf rfl rfl (fun h17 => ?_) (fun h17 => ?_)
        · skip
          refine gSeq <| gReg <| R rfl (bldE [(0, 1), (1, 1), (2, 1), (3, 1)] Try.underlying105 ti105 (ZrE.rd (R := u8R) (x := 0) (Zr.num rfl) (ZrE.rd (R := u64R) (x := 0) (Zr.num rfl) (ZrE.nilS (ZrE.nilS ZrE.nil)) rfl) rfl) rfl (BldE.done rfl)) <| Es (stoG 1 rfl rfl (fillsL.cast (fillsL.cons fills_rd (fillsL.cons fills_rd (fillsL.cons fills_val (fillsL.cons fills_val fillsL.nil)))) rfl) rfl (onesL.cons ones_rd (onesL.cons ones_rd (onesL.cons ones_val (onesL.cons ones_val onesL.nil)))) (fillsL.cast (fillsL.cons fills_rd (fillsL.cons fills_rd (fillsL.cons fills_val (fillsL.cons fills_val fillsL.nil)))) rfl) ti105) <| R rfl (asg rfl) <| gNil <| eThen <| gRet <| eTret <| ePnl (arrR 32 u8R) [.rd u8R 0, .rd u64R 0, .rd (sliceR (arrR 32 u8R)) [], .val (.slice none 0 0)] 1 [.rd u8R 0, .rd u64R 0] [.val (.slice none 0 0)] rfl rfl rfl <| ePnl (sliceR u8R) [.rd u8R 0, .rd u64R 0, .rd (sliceR (arrR 32 u8R)) [], .rd (sliceR (sliceR u8R)) []] 1 [.rd u8R 0, .rd u64R 0, .rd (sliceR (arrR 32 u8R)) []] [] rfl rfl rfl <| eJoi (R := R_api_Frame) (⟨0, 0, [], []⟩ : api_Frame) 1 rfl (Sp.via (Sp.prod (Sp.prod (Sp.prod (Sp.prod Sp.unit))))) <| eRet [] [] rfl (eC 1 rfl rfl ty105 <| eE rfl <| eN) (rN)
        · skip
          refine gSkip <| eThen <| gSeq <| gSeq <| gReg <| R rfl (ld 29 rfl rfl Foc.here ty105 rfl) <| call [] [(100, 69)] rfl Try.func119 rfl rfl (frame_write_ok _) (aQ rfl <| aN) rN fun r18 n19 => R rfl (mv rfl) <| R rfl (ext rfl rfl) <| R rfl (ext rfl rfl) <| R rfl (asg rfl) <| R rfl (asg rfl) <| gNil <| eThen <| gMid (fun (s20 : Bool) aa ww => Sta (ctx 44 H [] w) [(2, .val (ptrTo v1 0)), (4, .val (ptrTo (n16 0) 0)), (41, .rd boolR s20)] [(1, some (v1, .box 105 [.rd u8R 0, .rd u64R 0, .val (.slice none 0 0), .val (.slice none 0 0)])), (29, some ((n16 0), .box 105 [.rd R_api_Frame s5.1]))] aa ww) ?_ (fun s20 => ?_)
          · skip
            refine gReg <| R rfl (mv rfl) <| R rfl (not' rfl) <| R rfl (mv rfl) <| lSplit 36 rfl (fun h21 => ?_) (fun h21 => ?_)
            · skip
              refine lKn 35 rfl h21 <| lSkip (gd rfl rfl rfl rfl) rfl rfl <| lSkip (gd rfl rfl rfl rfl) rfl rfl <| lSkip (gd rfl rfl rfl rfl) rfl rfl <| lSkip (gd rfl rfl rfl rfl) rfl rfl <| R rfl (pkT rfl rfl) <| gNil <| eMid (fun aa ww h => h.sub [1, 29] (sS rfl <| sS rfl <| sS rfl <| sN) (rR rfl rfl <| rR rfl rfl <| rN))
            · skip
              refine lKn 35 rfl h21 <| lRun (gd rfl rfl rfl rfl) rfl rfl (mv rfl) <| lRun (gd rfl rfl rfl rfl) rfl rfl (mv rfl) <| lFrz 69 [32, 6, 37] rfl (fS rfl <| fS rfl <| fS rfl <| fN) <| callg [] [] (gd rfl rfl rfl rfl) rfl Try.func126 rfl rfl (bytes_Equal_ok _ _) (aQ rfl <| aQ rfl <| aN) rN fun r22 n23 => lRun (gd rfl rfl rfl rfl) rfl rfl (not' rfl) <| R rfl (pkF rfl rfl) <| gNil <| eMid (fun aa ww h => h.sub [1, 29] (sS rfl <| sS rfl <| sS rfl <| sN) (rR rfl rfl <| rR rfl rfl <| rN))
          · skip
            refine gIf rfl rfl (fun h24 => ?_) (fun h24 => ?_)
            · skip
              refine gSeq <| gReg <| R rfl (bldE [(0, 1), (1, 1), (2, 1), (3, 1)] Try.underlying105 ti105 (ZrE.rd (R := u8R) (x := 0) (Zr.num rfl) (ZrE.rd (R := u64R) (x := 0) (Zr.num rfl) (ZrE.nilS (ZrE.nilS ZrE.nil)) rfl) rfl) rfl (BldE.done rfl)) <| Es (stoG 1 rfl rfl (fillsL.cast (fillsL.cons fills_rd (fillsL.cons fills_rd (fillsL.cons fills_val (fillsL.cons fills_val fillsL.nil)))) rfl) rfl (onesL.cons ones_rd (onesL.cons ones_rd (onesL.cons ones_val (onesL.cons ones_val onesL.nil)))) (fillsL.cast (fillsL.cons fills_rd (fillsL.cons fills_rd (fillsL.cons fills_val (fillsL.cons fills_val fillsL.nil)))) rfl) ti105) <| R rfl (asg rfl) <| gNil <| eThen <| gRet <| eTret <| ePnl (arrR 32 u8R) [.rd u8R 0, .rd u64R 0, .rd (sliceR (arrR 32 u8R)) [], .val (.slice none 0 0)] 1 [.rd u8R 0, .rd u64R 0] [.val (.slice none 0 0)] rfl rfl rfl <| ePnl (sliceR u8R) [.rd u8R 0, .rd u64R 0, .rd (sliceR (arrR 32 u8R)) [], .rd (sliceR (sliceR u8R)) []] 1 [.rd u8R 0, .rd u64R 0, .rd (sliceR (arrR 32 u8R)) []] [] rfl rfl rfl <| eJoi (R := R_api_Frame) (⟨0, 0, [], []⟩ : api_Frame) 1 rfl (Sp.via (Sp.prod (Sp.prod (Sp.prod (Sp.prod Sp.unit))))) <| eRet [] [] rfl (eC 1 rfl rfl ty105 <| eE rfl <| eN) (rN)
            · skip
              refine gSkip <| eThen <| gSeq <| gReg <| R rfl (ld 29 rfl rfl Foc.here ty105 rfl) <| lPnl (arrR 32 u8R) [.rd u8R 0, .rd u64R 0, .rd (sliceR (arrR 32 u8R)) [], .val (.slice none 0 0)] 1 [.rd u8R 0, .rd u64R 0] [.val (.slice none 0 0)] rfl rfl rfl <| lPnl (sliceR u8R) [.rd u8R 0, .rd u64R 0, .rd (sliceR (arrR 32 u8R)) [], .rd (sliceR (sliceR u8R)) []] 1 [.rd u8R 0, .rd u64R 0, .rd (sliceR (arrR 32 u8R)) []] [] rfl rfl rfl <| lJoi (R := R_api_Frame) (⟨0, 0, [], []⟩ : api_Frame) 1 rfl (Sp.via (Sp.prod (Sp.prod (Sp.prod (Sp.prod Sp.unit))))) <| Es (sto 1 rfl rfl Foc.here rfl ti105) <| R rfl (asg rfl) <| gNil <| eThen <| gRet <| eRet [] [] rfl (eC 1 rfl rfl ty105 <| eE rfl <| eN) (rN)
def braidref01_SameBytes_L0 (a0 : List UInt8) (a1 : List UInt8) (s3 : Int) : Option (Sum (Sum Bool Unit) Int) :=
  if decide (s3 < (a0.length : Int)) then
    idx a0 s3 >>= fun x5 =>
    idx a1 s3 >>= fun x7 =>
    if x5 != x7 then
      some (.inl (.inl false))
    else
      some (.inr (w64 (s3 + 1)))
  else
    some (.inl (.inr ()))
def braidref01_SameBytes (a0 : List UInt8) (a1 : List UInt8) : Option (Bool) :=
  if (a0.length : Int) != (a1.length : Int) then
    some false
  else
    orRet (iter (braidref01_SameBytes_L0 a0 a1) 0) fun s2 =>
    some true
set_option maxRecDepth 100000 in
theorem braidref01_SameBytes_ok (a0 : List UInt8) (a1 : List UInt8) : Spec Try.prog 30 [.rd (sliceR u8R) a0, .rd (sliceR u8R) a1] [] (braidref01_SameBytes a0 a1) (fun r nv => ⟨[.rd boolR r], []⟩) := by
  refine spec 26 Try.func30 rfl rfl rfl fun H w => ?_
  refine gSeq <| gReg <| R rfl (asg rfl) <| gNil <| eThen <| gSeq <| gSeq <| gReg <| R rfl (mv rfl) <| R rfl (len' rfl .rd rfl Try.underlying32) <| R rfl (mv rfl) <| R rfl (len' rfl .rd rfl Try.underlying32) <| R rfl (I.neq rfl rfl) <| gNil <| eThen <| gIf rfl rfl (fun h1 => ?_) (fun h1 => ?_)
  · skip
    refine gSeq <| gReg <| R rfl (asg rfl) <| gNil <| eThen <| gRet <| eTret <| eRet [] [] rfl (eE rfl <| eN) (rN)
  · skip
    refine gSkip <| eThen <| gMidR (fun (s2 : Unit) aa ww => Sta (ctx 26 H [] w) [] [] aa ww) ?_ (fun s2 => ?_)
    · skip
      refine gSeq <| gReg <| R rfl (asg rfl) <| gNil <| eThen <| gLoop (fun (s3 : Int) aa ww => Sta (ctx 26 H [] w) [(0, .rd (sliceR u8R) a0), (1, .rd (sliceR u8R) a1), (5, .rd i64R s3)] [] aa ww) (fun aa ww h => h.sub [] (sS rfl <| sS rfl <| sS rfl <| sN) (rN)) (fun s3 => ?_)
      refine gSeq <| gSeq <| gReg <| R rfl (mv rfl) <| R rfl (mv rfl) <| R rfl (len' rfl .rd rfl Try.underlying32) <| R rfl (I.lss rfl rfl) <| gNil <| eThen <| gIf rfl rfl (fun h4 => ?_) (fun h4 => ?_)
      · skip
        refine gSkip <| eThen <| gSeq <| gBlk <| gSeq <| gRegQ mixed (by kernel_rfl) <| Rq rfl (mv rfl) <| Rq rfl (mv rfl) <| qBind fun x5 h6 => Rq rfl (ixR rfl rfl h6 Try.underlying32 ti5 rfl) <| Rq rfl (ldR rfl ty5) <| Rq rfl (mv rfl) <| Rq rfl (mv rfl) <| qBind fun x7 h8 => Rq rfl (ixR rfl rfl h8 Try.underlying32 ti5 rfl) <| Rq rfl (ldR rfl ty5) <| Rq rfl (B.neq rfl rfl) <| qNil <| eThen <| gIf rfl rfl (fun h9 => ?_) (fun h9 => ?_)
        · skip
          refine gSeq <| gReg <| R rfl (asg rfl) <| gNil <| eThen <| gRet <| eBret <| eTret <| eLret <| eMret <| eRet [] [] rfl (eE rfl <| eN) (rN)
        · skip
          refine gSkip <| eBlk <| eThen <| gReg <| R rfl (mv rfl) <| R rfl (I.add rfl rfl) <| R rfl (asg rfl) <| gNil <| eNext (fun aa ww h => h.sub [] (sS rfl <| sS rfl <| sS rfl <| sN) (rN))
      · skip
        refine gExit <| eTexit <| eLeave <| eMidR (fun aa ww h => h.sub [] (sN) (rN))
    · skip
      refine gSeq <| gReg <| R rfl (asg rfl) <| gNil <| eThen <| gRet <| eRet [] [] rfl (eE rfl <| eN) (rN)
def braidref04_SameIDs_L0 (a0 : List (Vector UInt8 32)) (a1 : List (Vector UInt8 32)) (s3 : Int) : Option (Sum (Sum Bool Unit) Int) :=
  if decide (s3 < (a0.length : Int)) then
    idx a0 s3 >>= fun x5 =>
    idx a1 s3 >>= fun x7 =>
    if !decide (x5 = x7) then
      some (.inl (.inl false))
    else
      some (.inr (w64 (s3 + 1)))
  else
    some (.inl (.inr ()))
def braidref04_SameIDs (a0 : List (Vector UInt8 32)) (a1 : List (Vector UInt8 32)) : Option (Bool) :=
  if (a0.length : Int) != (a1.length : Int) then
    some false
  else
    orRet (iter (braidref04_SameIDs_L0 a0 a1) 0) fun s2 =>
    some true
set_option maxRecDepth 100000 in
theorem braidref04_SameIDs_ok (a0 : List (Vector UInt8 32)) (a1 : List (Vector UInt8 32)) : Spec Try.prog 62 [.rd (sliceR (arrR 32 u8R)) a0, .rd (sliceR (arrR 32 u8R)) a1] [] (braidref04_SameIDs a0 a1) (fun r nv => ⟨[.rd boolR r], []⟩) := by
  refine spec 26 Try.func62 rfl rfl rfl fun H w => ?_
  refine gSeq <| gReg <| R rfl (asg rfl) <| gNil <| eThen <| gSeq <| gSeq <| gReg <| R rfl (mv rfl) <| R rfl (len' rfl .rd rfl Try.underlying83) <| R rfl (mv rfl) <| R rfl (len' rfl .rd rfl Try.underlying83) <| R rfl (I.neq rfl rfl) <| gNil <| eThen <| gIf rfl rfl (fun h1 => ?_) (fun h1 => ?_)
  · skip
    refine gSeq <| gReg <| R rfl (asg rfl) <| gNil <| eThen <| gRet <| eTret <| eRet [] [] rfl (eE rfl <| eN) (rN)
  · skip
    refine gSkip <| eThen <| gMidR (fun (s2 : Unit) aa ww => Sta (ctx 26 H [] w) [] [] aa ww) ?_ (fun s2 => ?_)
    · skip
      refine gSeq <| gReg <| R rfl (asg rfl) <| gNil <| eThen <| gLoop (fun (s3 : Int) aa ww => Sta (ctx 26 H [] w) [(0, .rd (sliceR (arrR 32 u8R)) a0), (1, .rd (sliceR (arrR 32 u8R)) a1), (5, .rd i64R s3)] [] aa ww) (fun aa ww h => h.sub [] (sS rfl <| sS rfl <| sS rfl <| sN) (rN)) (fun s3 => ?_)
      refine gSeq <| gSeq <| gReg <| R rfl (mv rfl) <| R rfl (mv rfl) <| R rfl (len' rfl .rd rfl Try.underlying83) <| R rfl (I.lss rfl rfl) <| gNil <| eThen <| gIf rfl rfl (fun h4 => ?_) (fun h4 => ?_)
      · skip
        refine gSkip <| eThen <| gSeq <| gBlk <| gSeq <| gRegQ mixed (by kernel_rfl) <| Rq rfl (mv rfl) <| Rq rfl (mv rfl) <| qBind fun x5 h6 => Rq rfl (ixR rfl rfl h6 Try.underlying83 ti102 rfl) <| Rq rfl (ldR rfl ty102) <| Rq rfl (mv rfl) <| Rq rfl (mv rfl) <| qBind fun x7 h8 => Rq rfl (ixR rfl rfl h8 Try.underlying83 ti102 rfl) <| Rq rfl (ldR rfl ty102) <| Rq rfl (neA rfl rfl eq102 rfl rfl gq102) <| qNil <| eThen <| gIf rfl rfl (fun h9 => ?_) (fun h9 => ?_)
        · skip
          refine gSeq <| gReg <| R rfl (asg rfl) <| gNil <| eThen <| gRet <| eBret <| eTret <| eLret <| eMret <| eRet [] [] rfl (eE rfl <| eN) (rN)
        · skip
          refine gSkip <| eBlk <| eThen <| gReg <| R rfl (mv rfl) <| R rfl (I.add rfl rfl) <| R rfl (asg rfl) <| gNil <| eNext (fun aa ww h => h.sub [] (sS rfl <| sS rfl <| sS rfl <| sN) (rN))
      · skip
        refine gExit <| eTexit <| eLeave <| eMidR (fun aa ww h => h.sub [] (sN) (rN))
    · skip
      refine gSeq <| gReg <| R rfl (asg rfl) <| gNil <| eThen <| gRet <| eRet [] [] rfl (eE rfl <| eN) (rN)
def braidref07_Same_L0 (a0 : api_Frame) (a1 : api_Frame) (s11 : Int) : Option (Sum (Sum Bool Unit) Int) :=
  if decide (s11 < (a0.Ops.length : Int)) then
    idx a0.Ops s11 >>= fun x13 =>
    idx a1.Ops s11 >>= fun x15 =>
    braidref01_SameBytes x13 x15 >>= fun r17 =>
    if !r17 then
      some (.inl (.inl false))
    else
      some (w64 (s11 + 1)) >>= fun y20 =>
      some (.inr y20)
  else
    some (.inl (.inr ()))
def braidref07_Same (a0 : api_Frame) (a1 : api_Frame) : Option (Bool) :=
  (if a0.Kind != a1.Kind then
    some true
  else
    if a0.N != a1.N then
      some true
    else
      braidref04_SameIDs a0.IDs a1.IDs >>= fun r6 =>
      if !r6 then
        some true
      else
        some ((a0.Ops.length : Int) != (a1.Ops.length : Int))) >>= fun s3 =>
  if s3 then
    some false
  else
    orRet (iter (braidref07_Same_L0 a0 a1) 0) fun s10 =>
    some true
set_option maxRecDepth 100000 in
theorem braidref07_Same_ok (a0 : api_Frame) (a1 : api_Frame) : Spec Try.prog 78 [.rd R_api_Frame a0, .rd R_api_Frame a1] [] (braidref07_Same a0 a1) (fun r nv => ⟨[.rd boolR r], []⟩) := by
  refine spec 54 Try.func78 rfl rfl rfl fun H w => ?_
  refine gSeq <| gReg <| Eb rfl (bx 1 rfl) fun v1 => Eb rfl (bx 2 rfl) fun v2 => R rfl (asg rfl) <| gNil <| eThen <| gSeq <| gMid (fun (s3 : Bool) aa ww => Sta (ctx 54 H [] w) [(2, .val (ptrTo v1 0)), (3, .val (ptrTo v2 0)), (34, .rd boolR s3)] [(1, some (v1, .box 105 [.rd R_api_Frame a0])), (2, some (v2, .box 105 [.rd R_api_Frame a1]))] aa ww) ?_ (fun s3 => ?_)
  · skip
    refine gReg <| R rfl (faB 1 rfl rfl Try.underlying105 rfl (by exact ti5)) <| R rfl (ld 1 rfl rfl ((Foc.here).part (pt_api_Frame_Kind _)) ty5 rfl) <| R rfl (faB 2 rfl rfl Try.underlying105 rfl (by exact ti5)) <| R rfl (ld 2 rfl rfl ((Foc.here).part (pt_api_Frame_Kind _)) ty5 rfl) <| R rfl (B.neq rfl rfl) <| R rfl (mv rfl) <| lSplit 11 rfl (fun h4 => ?_) (fun h4 => ?_)
    · skip
      refine lKn 10 rfl h4 <| lSkip (gd rfl rfl rfl rfl) rfl rfl <| lSkip (gd rfl rfl rfl rfl) rfl rfl <| lSkip (gd rfl rfl rfl rfl) rfl rfl <| lSkip (gd rfl rfl rfl rfl) rfl rfl <| lSkip (gd rfl rfl rfl rfl) rfl rfl <| R rfl (pkT rfl rfl) <| R rfl (mv rfl) <| lSkip (gd rfl rfl rfl rfl) rfl rfl <| lSkip (gd rfl rfl rfl rfl) rfl rfl <| lSkip (gd rfl rfl rfl rfl) rfl rfl <| lSkip (gd rfl rfl rfl rfl) rfl rfl <| lSkip (gd rfl rfl rfl rfl) rfl rfl <| lSkip (gd rfl rfl rfl rfl) rfl rfl <| R rfl (pkT rfl rfl) <| R rfl (mv rfl) <| lSkip (gd rfl rfl rfl rfl) rfl rfl <| lSkip (gd rfl rfl rfl rfl) rfl rfl <| lSkip (gd rfl rfl rfl rfl) rfl rfl <| lSkip (gd rfl rfl rfl rfl) rfl rfl <| lSkip (gd rfl rfl rfl rfl) rfl rfl <| lSkip (gd rfl rfl rfl rfl) rfl rfl <| lSkip (gd rfl rfl rfl rfl) rfl rfl <| R rfl (pkT rfl rfl) <| gNil <| eMid (fun aa ww h => h.sub [1, 2] (sS rfl <| sS rfl <| sS rfl <| sN) (rR rfl rfl <| rR rfl rfl <| rN))
    · skip
      refine lKn 10 rfl h4 <| lRun (gd rfl rfl rfl rfl) rfl rfl (faB 1 rfl rfl Try.underlying105 rfl (by exact ti31)) <| lRun (gd rfl rfl rfl rfl) rfl rfl (ld 1 rfl rfl ((Foc.here).part (pt_api_Frame_N _)) ty31 rfl) <| lRun (gd rfl rfl rfl rfl) rfl rfl (faB 2 rfl rfl Try.underlying105 rfl (by exact ti31)) <| lRun (gd rfl rfl rfl rfl) rfl rfl (ld 2 rfl rfl ((Foc.here).part (pt_api_Frame_N _)) ty31 rfl) <| lRun (gd rfl rfl rfl rfl) rfl rfl (U.neq rfl rfl) <| R rfl (pkF rfl rfl) <| R rfl (mv rfl) <| lSplit 18 rfl (fun h5 => ?_) (fun h5 => ?_)
      · skip
        refine lKn 16 rfl h5 <| lKn 17 rfl h5 <| lSkip (gd rfl rfl rfl rfl) rfl rfl <| lSkip (gd rfl rfl rfl rfl) rfl rfl <| lSkip (gd rfl rfl rfl rfl) rfl rfl <| lSkip (gd rfl rfl rfl rfl) rfl rfl <| lSkip (gd rfl rfl rfl rfl) rfl rfl <| lSkip (gd rfl rfl rfl rfl) rfl rfl <| R rfl (pkT rfl rfl) <| R rfl (mv rfl) <| lSkip (gd rfl rfl rfl rfl) rfl rfl <| lSkip (gd rfl rfl rfl rfl) rfl rfl <| lSkip (gd rfl rfl rfl rfl) rfl rfl <| lSkip (gd rfl rfl rfl rfl) rfl rfl <| lSkip (gd rfl rfl rfl rfl) rfl rfl <| lSkip (gd rfl rfl rfl rfl) rfl rfl <| lSkip (gd rfl rfl rfl rfl) rfl rfl <| R rfl (pkT rfl rfl) <| gNil <| eMid (fun aa ww h => h.sub [1, 2] (sS rfl <| sS rfl <| sS rfl <| sN) (rR rfl rfl <| rR rfl rfl <| rN))
      · skip
        refine lKn 16 rfl h5 <| lKn 17 rfl h5 <| lRun (gd rfl rfl rfl rfl) rfl rfl (faB 1 rfl rfl Try.underlying105 rfl (by exact ti83)) <| lRun (gd rfl rfl rfl rfl) rfl rfl (ld 1 rfl rfl ((Foc.here).part (pt_api_Frame_IDs _)) ty83 rfl) <| lRun (gd rfl rfl rfl rfl) rfl rfl (faB 2 rfl rfl Try.underlying105 rfl (by exact ti83)) <| lRun (gd rfl rfl rfl rfl) rfl rfl (ld 2 rfl rfl ((Foc.here).part (pt_api_Frame_IDs _)) ty83 rfl) <| callg [] [] (gd rfl rfl rfl rfl) rfl Try.func62 rfl rfl (braidref04_SameIDs_ok _ _) (aQ rfl <| aQ rfl <| aN) rN fun r6 n7 => lRun (gd rfl rfl rfl rfl) rfl rfl (not' rfl) <| R rfl (pkF rfl rfl) <| R rfl (mv rfl) <| lSplit 26 rfl (fun h8 => ?_) (fun h8 => ?_)
        · skip
          refine lKn 24 rfl h8 <| lKn 25 rfl h8 <| lSkip (gd rfl rfl rfl rfl) rfl rfl <| lSkip (gd rfl rfl rfl rfl) rfl rfl <| lSkip (gd rfl rfl rfl rfl) rfl rfl <| lSkip (gd rfl rfl rfl rfl) rfl rfl <| lSkip (gd rfl rfl rfl rfl) rfl rfl <| lSkip (gd rfl rfl rfl rfl) rfl rfl <| lSkip (gd rfl rfl rfl rfl) rfl rfl <| R rfl (pkT rfl rfl) <| gNil <| eMid (fun aa ww h => h.sub [1, 2] (sS rfl <| sS rfl <| sS rfl <| sN) (rR rfl rfl <| rR rfl rfl <| rN))
        · skip
          refine lKn 24 rfl h8 <| lKn 25 rfl h8 <| lRun (gd rfl rfl rfl rfl) rfl rfl (faB 1 rfl rfl Try.underlying105 rfl (by exact ti103)) <| lRun (gd rfl rfl rfl rfl) rfl rfl (ld 1 rfl rfl ((Foc.here).part (pt_api_Frame_Ops _)) ty103 rfl) <| lRun (gd rfl rfl rfl rfl) rfl rfl (len' rfl .rd rfl Try.underlying103) <| lRun (gd rfl rfl rfl rfl) rfl rfl (faB 2 rfl rfl Try.underlying105 rfl (by exact ti103)) <| lRun (gd rfl rfl rfl rfl) rfl rfl (ld 2 rfl rfl ((Foc.here).part (pt_api_Frame_Ops _)) ty103 rfl) <| lRun (gd rfl rfl rfl rfl) rfl rfl (len' rfl .rd rfl Try.underlying103) <| lRun (gd rfl rfl rfl rfl) rfl rfl (I.neq rfl rfl) <| R rfl (pkF rfl rfl) <| gNil <| eMid (fun aa ww h => h.sub [1, 2] (sS rfl <| sS rfl <| sS rfl <| sN) (rR rfl rfl <| rR rfl rfl <| rN))
  · skip
    refine gIf rfl rfl (fun h9 => ?_) (fun h9 => ?_)
    · skip
      refine gSeq <| gReg <| R rfl (asg rfl) <| gNil <| eThen <| gRet <| eTret <| eRet [] [] rfl (eE rfl <| eN) (rN)
    · skip
      refine gSkip <| eThen <| gMidR (fun (s10 : Unit) aa ww => Sta (ctx 54 H [] w) [] [] aa ww) ?_ (fun s10 => ?_)
      · skip
        refine gSeq <| gReg <| R rfl (asg rfl) <| gNil <| eThen <| gLoop (fun (s11 : Int) aa ww => Sta (ctx 54 H [] w) [(2, .val (ptrTo v1 0)), (3, .val (ptrTo v2 0)), (5, .rd i64R s11)] [(1, some (v1, .box 105 [.rd R_api_Frame a0])), (2, some (v2, .box 105 [.rd R_api_Frame a1]))] aa ww) (fun aa ww h => h.sub [1, 2] (sS rfl <| sS rfl <| sS rfl <| sN) (rR rfl rfl <| rR rfl rfl <| rN)) (fun s11 => ?_)
        refine gSeq <| gSeq <| gReg <| R rfl (mv rfl) <| R rfl (faB 1 rfl rfl Try.underlying105 rfl (by exact ti103)) <| R rfl (ld 1 rfl rfl ((Foc.here).part (pt_api_Frame_Ops _)) ty103 rfl) <| R rfl (len' rfl .rd rfl Try.underlying103) <| R rfl (I.lss rfl rfl) <| gNil <| eThen <| gIf rfl rfl (fun h12 => ?_) (fun h12 => ?_)
        · skip
          refine gSkip <| eThen <| gSeq <| gBlk <| gSeq <| gRegH [] mixed rfl rfl <| hTake 0 rfl (by kernel_rfl) (by kernel_rfl) (by kernel_rfl) (gd0 rfl) rfl rfl (faB 1 rfl rfl Try.underlying105 rfl (by exact ti103)) <| hTake 1 rfl (by kernel_rfl) (by kernel_rfl) (by kernel_rfl) (gd0 rfl) rfl rfl (ld 1 rfl rfl ((Foc.here).part (pt_api_Frame_Ops _)) ty103 rfl) <| hTake 2 rfl (by kernel_rfl) (by kernel_rfl) (by kernel_rfl) (gd0 rfl) rfl rfl (mv rfl) <| hBind fun x13 h14 => hTake 3 rfl (by kernel_rfl) (by kernel_rfl) (by kernel_rfl) (gd0 rfl) rfl rfl (ixR rfl rfl h14 Try.underlying103 ti32 rfl) <| hTake 4 rfl (by kernel_rfl) (by kernel_rfl) (by kernel_rfl) (gd0 rfl) rfl rfl (ldR rfl ty32) <| hTake 5 rfl (by kernel_rfl) (by kernel_rfl) (by kernel_rfl) (gd0 rfl) rfl rfl (faB 2 rfl rfl Try.underlying105 rfl (by exact ti103)) <| hTake 6 rfl (by kernel_rfl) (by kernel_rfl) (by kernel_rfl) (gd0 rfl) rfl rfl (ld 2 rfl rfl ((Foc.here).part (pt_api_Frame_Ops _)) ty103 rfl) <| hTake 7 rfl (by kernel_rfl) (by kernel_rfl) (by kernel_rfl) (gd0 rfl) rfl rfl (mv rfl) <| hBind fun x15 h16 => hTake 8 rfl (by kernel_rfl) (by kernel_rfl) (by kernel_rfl) (gd0 rfl) rfl rfl (ixR rfl rfl h16 Try.underlying103 ti32 rfl) <| hTake 9 rfl (by kernel_rfl) (by kernel_rfl) (by kernel_rfl) (gd0 rfl) rfl rfl (ldR rfl ty32) <| hCallF 10 [] [] rfl (by kernel_rfl) rfl (gd0 rfl) rfl Try.func30 rfl rfl (braidref01_SameBytes_ok _ _) (aQ rfl <| aQ rfl <| aN) rN rfl (fun _ _ => flat_bool) fun r17 n18 => hTake 11 rfl (by kernel_rfl) (by kernel_rfl) (by kernel_rfl) (gd0 rfl) rfl rfl (not' rfl) <| hDone (by kernel_rfl) <| eThen <| gIf rfl rfl (fun h19 => ?_) (fun h19 => ?_)
          · skip
            refine gSeq <| gReg <| R rfl (asg rfl) <| gNil <| eThen <| gRet <| eBret <| eTret <| eLret <| eMret <| eRet [] [] rfl (eE rfl <| eN) (rN)
          · skip
            refine gSkip <| eBlk <| eThen <| gReg <| R rfl (mv rfl) <| R rfl (I.add rfl rfl) <| R rfl (asg rfl) <| lName 5 rfl fun y20 => gNil <| eNext (fun aa ww h => h.sub [1, 2] (sS rfl <| sS rfl <| sS rfl <| sN) (rR rfl rfl <| rR rfl rfl <| rN))
        · skip
          refine gExit <| eTexit <| eLeave <| eMidR (fun aa ww h => h.sub [] (sN) (rN))
      · skip
        refine gSeq <| gReg <| R rfl (asg rfl) <| gNil <| eThen <| gRet <| eRet [] [] rfl (eE rfl <| eN) (rN)
end Go.Proofs.Ytklfgpdfongaeaa
namespace Go.Proofs.Ytklfgpdfongaeaa
open Go
set_option linter.unusedSimpArgs false
set_option linter.unusedVariables false
theorem same_from (a b : List UInt8) (hl : a.length = b.length) (hb : a.length ≤ 9223372036854775807) : ∀ (n i : Nat), a.length - i = n → i ≤ a.length → a.take i = b.take i →
    iter (braidref01_SameBytes_L0 a b) (i : Int) = some (if a = b then .inr () else .inl false) := by
  intro n
  induction n with
  | zero =>
    intro i hn hi he
    have : i = a.length := by omega
    subst this
    refine iter_l ?_
    unfold braidref01_SameBytes_L0
    have e : a = b := by rw [List.take_length, hl, List.take_length] at he; exact he
    rw [if_neg (by simp), if_pos e]
  | succ n ih =>
    intro i hn hi he
    have h1 : i < a.length := by omega
    have h2 : i < b.length := by omega
    have hF : braidref01_SameBytes_L0 a b (i : Int) = if a[i] = b[i] then some (.inr ((i + 1 : Nat) : Int)) else some (.inl (.inl false)) := by
      unfold braidref01_SameBytes_L0
      rw [if_pos (by simp <;> omega)]
      simp only [idx_nat h1, idx_nat h2, bs, w64_nat (show i < 9223372036854775807 by omega)]
      by_cases h : a[i] = b[i] <;> simp [h]
    by_cases h : a[i] = b[i]
    · rw [if_pos h] at hF
      rw [iter_r hF]
      exact ih (i + 1) (by omega) (by omega) (by rw [List.take_succ_eq_append_getElem h1, List.take_succ_eq_append_getElem h2, he, h])
    · rw [if_neg h] at hF
      rw [iter_l hF, if_neg (fun e => h (by subst e; rfl))]
theorem sameB_eq (a b : List UInt8) (hb : a.length ≤ 9223372036854775807) : braidref01_SameBytes a b = some (decide (a = b)) := by
  unfold braidref01_SameBytes
  by_cases hl : a.length = b.length
  · rw [if_neg (by simp [hl])]
    have := same_from a b hl hb _ 0 rfl (by omega) (by simp)
    rw [show (0 : Int) = ((0 : Nat) : Int) from rfl, this]
    by_cases h : a = b
    · rw [if_pos h, decide_eq_true h]; rfl
    · rw [if_neg h, decide_eq_false h]; rfl
  · rw [if_pos (by simp; omega), decide_eq_false (fun e => hl (by rw [e]))]
theorem ofInt_toNat (n : Int) : (UInt64.ofInt n).toNat = (n % 18446744073709551616).toNat := by
  simp [UInt64.ofInt]; omega
end Go.Proofs.Ytklfgpdfongaeaa
namespace Go.Proofs.Ytklfgpdfongaeaa
open Go
set_option linter.unusedSimpArgs false
set_option linter.unusedVariables false
theorem or8 (a : UInt64) (x : UInt8) (h : a.toNat < 72057594037927936) : (shl64 a 8 ||| x.toUInt64).toNat = 256 * a.toNat + x.toNat := by
  have hx := x.toNat_lt
  rw [UInt64.toNat_or, shl64_toNat, show (2 : Nat) ^ min 8 64 = 256 from rfl, Nat.mod_eq_of_lt (by omega), UInt8.toNat_toUInt64]
  have := Nat.two_pow_add_eq_or_of_lt (i := 8) (b := x.toNat) (by omega) a.toNat
  rw [Nat.mul_comm a.toNat 256]; exact this.symm
theorem u64_of {a : UInt64} {n : Nat} (h : a.toNat = n) : a = UInt64.ofNat n := by rw [← h]; simp
theorem getD_get {l : List UInt8} {i : Nat} (h : i < l.length) : l.getD i 0 = l[i] := by simp [List.getD, h]
theorem rdn_L0 (l : List UInt8) (h8 : l.length ≤ 8) : iter (wire_ReadNumber_L0 l) (0, 0) = some (UInt64.ofNat (beVal l)) := by
  obtain ⟨b, h1, h2⟩ := iter_up (F := wire_ReadNumber_L0 l) l.length (fun i s => s.1.toNat = beVal (l.take i) ∧ s.2 = (i : Int)) (fun b => b = UInt64.ofNat (beVal l))
    (fun i s hi hs => by
      obtain ⟨s1, s2⟩ := s
      obtain ⟨e1, e2⟩ := hs
      simp only at e1 e2
      subst e2
      have hb := beVal_take_lt hi h8
      have ht := beVal_take hi
      rw [getD_get hi] at hb ht
      refine ⟨_, by unfold wire_ReadNumber_L0; rw [if_pos (by simp <;> omega)]; simp only [idx_nat hi, bs]; rfl, ?_, ?_⟩
      · show (shl64 s1 8 ||| l[i].toUInt64).toNat = _
        rw [or8 s1 l[i] (by omega), ht, e1]
      · exact w64_nat (by omega))
    (fun s hs => by
      obtain ⟨s1, s2⟩ := s
      obtain ⟨e1, e2⟩ := hs
      simp only at e1 e2
      subst e2
      refine ⟨_, by unfold wire_ReadNumber_L0; rw [if_neg (by simp)], ?_⟩
      rw [List.take_length] at e1
      exact u64_of e1) (0, 0) 0 (by omega) ⟨rfl, rfl⟩
  rw [h1, h2]
theorem le247 (x : UInt8) : decide (x ≤ 247) = decide (x.toNat ≤ 247) := by
  rw [decide_eq_decide, UInt8.le_iff_toNat_le]; rfl
theorem u8z (x : UInt8) : (x == 0) = decide (x.toNat = 0) := by
  rw [Bool.eq_iff_iff, beq_iff_eq, decide_eq_true_eq, ← UInt8.toNat_inj]; rfl
theorem rdNum_eq (b : List UInt8) (hb : b.length ≤ 9223372036854775807) : wire_ReadNumber b = some (UInt64.ofNat (readN b).1, ((readN b).2.1 : Int), ((readN b).2.2 : Int)) := by
  unfold wire_ReadNumber
  by_cases h0 : b.length = 0
  · rw [if_pos (by simp [h0]), readN_none (readNum_nil h0)]; rfl
  rw [if_neg (by simp; intro e; simp [e] at h0)]
  have h0' : 0 < b.length := by omega
  have i0 := idx_nat h0'
  have g0 := getD_get h0'
  have i0' : idx b 0 = some (b[0]) := i0
  rw [i0']
  simp only [bs, le247]
  by_cases h1 : b[0].toNat ≤ 247
  · rw [decide_eq_true h1, if_pos rfl, readN_some (readNum_small h0 (by rw [g0]; exact h1)), g0]
    congr 2
    apply UInt64.toNat_inj.1
    rw [UInt8.toNat_toUInt64]; simp
  rw [decide_eq_false h1, if_neg (by simp)]
  have hx := b[0].toNat_lt
  obtain ⟨k, hk⟩ : ∃ k : Nat, b[0].toNat - 247 = k := Exists.intro (b[0].toNat - 247) rfl
  have ek : w64 ((b[0].toNat : Int) - 247) = (k : Int) := by rw [w64_eq (by omega) (by omega)]; omega
  rw [ek]
  by_cases hbad : b.length ≤ k ∨ (b.getD 1 0).toNat = 0 ∨ (k = 1 ∧ (b.getD 1 0).toNat ≤ 247)
  · rw [readN_none (readNum_bad h0 (by rw [g0]; exact h1) (by rw [g0, hk]; exact hbad))]
    by_cases c1 : b.length ≤ k
    · rw [if_pos (by simp; omega)]; rfl
    · rw [if_neg (by simp; omega)]
      have l1 : 1 < b.length := by omega
      have i1 : idx b 1 = some (b[1]) := idx_nat l1
      have g1 := getD_get l1
      rw [g1] at hbad
      rw [i1]
      simp only [bs, u8z, le247]
      by_cases c2 : b[1].toNat = 0
      · rw [decide_eq_true c2]; rfl
      · have c3 : k = 1 ∧ b[1].toNat ≤ 247 := by omega
        rw [decide_eq_false c2, c3.1]
        simp only [Bool.false_eq_true, if_false]
        rw [if_pos (by decide), decide_eq_true c3.2]; rfl
  · rw [readN_some (readNum_good h0 (by rw [g0]; exact h1) (by rw [g0, hk]; exact hbad)), g0, hk]
    have l1 : 1 < b.length := by omega
    have i1 : idx b 1 = some (b[1]) := idx_nat l1
    have g1 := getD_get l1
    rw [g1] at hbad
    rw [if_neg (by simp; omega), i1]
    simp only [bs, u8z, le247]
    have c2 : ¬ b[1].toNat = 0 := by omega
    rw [decide_eq_false c2]
    simp only [Bool.false_eq_true, if_false]
    have hc : cut b 1 (w64 ((k : Int) + 1)) = some ((b.drop 1).take k) := by
      have e : w64 ((k : Int) + 1) = ((k + 1 : Nat) : Int) := w64_nat (by omega)
      rw [e]
      have := cut_eq (b := b) (i := 1) (j := k + 1) (by omega) (by omega)
      rw [show ((1 : Nat) : Int) = 1 from rfl] at this
      rw [this, Nat.add_sub_cancel]
    have he : w64 ((k : Int) + 1) = ((k + 1 : Nat) : Int) := w64_nat (by omega)
    have hin : (if ((k : Int) == 1) = true then (if decide (b[1].toNat ≤ 247) = true then some (.inl (0, 0, 12)) else some (.inr ())) else some (.inr ()) : Option (Sum (UInt64 × Int × Int) Unit)) = some (.inr ()) := by
      by_cases c3 : k = 1
      · have c4 : ¬ b[1].toNat ≤ 247 := by omega
        rw [decide_eq_false c4]; split <;> rfl
      · rw [if_neg (by simp; omega)]
    rw [hin, or_r, hc]
    simp only [bs]
    rw [rdn_L0 _ (by rw [List.length_take]; omega)]
    simp only [bs, he]; rfl
theorem rdPart_eq (b : List UInt8) (hb : b.length ≤ 9223372036854775807) (most : Int) (hm : most ≤ 9223372036854775807) (k : Nat) (hk : 0 < k) (hk2 : k ≤ 1000) : wire_part b most (k : Int) = some ((partL b most k).1, ((partL b most k).2.1 : Int), ((partL b most k).2.2 : Int)) := by
  unfold wire_part
  by_cases h1 : most < 0
  · rw [decide_eq_true h1, if_pos rfl, partL_arg h1]; rfl
  rw [decide_eq_false h1, if_neg (by simp), rdNum_eq b hb]
  simp only [bs]
  have hl := readN_lt b
  have hu := readN_used b
  have en : (UInt64.ofNat (readN b).1).toNat = (readN b).1 := by simp; omega
  have e1 : decide (UInt64.ofInt most < UInt64.ofNat (readN b).1) = decide (most < ((readN b).1 : Int)) := by
    rw [decide_eq_decide, UInt64.lt_iff_toNat_lt, ofInt_toNat, en]; omega
  obtain ⟨D, hD⟩ : ∃ D : Nat, (b.length - (readN b).2.1) / k = D := Exists.intro _ rfl
  have hd : D ≤ b.length := by rw [← hD]; exact Nat.le_trans (Nat.div_le_self _ _) (Nat.sub_le _ _)
  have e2 : w64 (Int.tdiv (w64 ((b.length : Int) - (readN b).2.1)) (k : Int)) = (D : Int) := by
    rw [w64_eq (x := (b.length : Int) - (readN b).2.1) (by omega) (by omega), show (b.length : Int) - ((readN b).2.1 : Int) = ((b.length - (readN b).2.1 : Nat) : Int) by omega, Int.tdiv_eq_ediv_of_nonneg (by omega), ← Int.natCast_ediv, hD, w64_eq (by omega) (by omega)]
  have e3 : decide (UInt64.ofInt (w64 (Int.tdiv (w64 ((b.length : Int) - (readN b).2.1)) (k : Int))) < UInt64.ofNat (readN b).1) = decide ((b.length - (readN b).2.1) / k < (readN b).1) := by
    rw [decide_eq_decide, UInt64.lt_iff_toNat_lt, e2, ofInt_toNat, en, hD]; omega
  rw [e1, e3]
  by_cases h2 : (readN b).2.2 ≠ 0 ∨ most < ((readN b).1 : Int) ∨ (b.length - (readN b).2.1) / k < (readN b).1
  · rw [partL_bad h1 h2]
    have hs : (if ((((readN b).2.2 : Nat) : Int) != 0) = true then some true else if decide (most < ((readN b).1 : Int)) = true then some true else chk ((k : Int) ≠ 0) >>= fun u7 => some (decide ((b.length - (readN b).2.1) / k < (readN b).1))) = some true := by
      by_cases c1 : (readN b).2.2 = 0
      · rw [if_neg (by simp [c1])]
        by_cases c2 : most < ((readN b).1 : Int)
        · rw [decide_eq_true c2, if_pos rfl]
        · rw [decide_eq_false c2, if_neg (by simp), chk_true (by omega), decide_eq_true (by omega)]; rfl
      · rw [if_pos (by simp; omega)]
    rw [hs]; rfl
  · rw [partL_good h1 h2]
    have hf := part_fits (b := b) (k := k) (by omega)
    have hs : (if ((((readN b).2.2 : Nat) : Int) != 0) = true then some true else if decide (most < ((readN b).1 : Int)) = true then some true else chk ((k : Int) ≠ 0) >>= fun u7 => some (decide ((b.length - (readN b).2.1) / k < (readN b).1))) = some false := by
      rw [if_neg (by simp; omega), decide_eq_false (by omega), if_neg (by simp), chk_true (by omega), decide_eq_false (by omega)]; rfl
    rw [hs]
    simp only [bs, Bool.false_eq_true, if_false, en]
    have hmul : (k : Int) * ((readN b).1 : Int) = ((k * (readN b).1 : Nat) : Int) := by rw [Int.natCast_mul]
    have h9 : (readN b).1 ≤ k * (readN b).1 := Nat.le_mul_of_pos_left _ hk
    have e5 : w64 (((readN b).2.1 : Int) + w64 ((k : Int) * w64 ((readN b).1 : Int))) = (((readN b).2.1 + k * (readN b).1 : Nat) : Int) := by
      rw [w64_eq (x := ((readN b).1 : Int)) (by omega) (by omega), hmul, w64_eq (x := ((k * (readN b).1 : Nat) : Int)) (by omega) (by omega), w64_eq (by omega) (by omega)]; omega
    rw [e5, cut_eq (by omega) (by omega)]
    simp only [bs, Nat.add_sub_cancel_left]; rfl
theorem rdBytes_eq (b : List UInt8) (hb : b.length ≤ 100000) (most : Int) (hm : most ≤ 9223372036854775807) : wire_ReadBytes b most = some ((partL b most 1).1, ((partL b most 1).2.1 : Int), ((partL b most 1).2.2 : Int)) := by
  unfold wire_ReadBytes bytes_Clone
  have := rdPart_eq b (by omega) most hm 1 (by decide) (by decide)
  rw [show ((1 : Nat) : Int) = 1 from rfl] at this
  rw [this]
  have hl := partL_len b most 1
  simp only [bs]
  rw [app_eq (by simp; omega)]; rfl
end Go.Proofs.Ytklfgpdfongaeaa
namespace Go.Proofs.Ytklfgpdfongaeaa
open Go
set_option linter.unusedSimpArgs false
set_option linter.unusedVariables false
def idAt (s : List UInt8) (o : Nat) : Vector UInt8 32 := Vector.ofFn fun j : Fin 32 => s.getD (o + j.val) 0
def idsOf (s : List UInt8) (n : Nat) : List (Vector UInt8 32) := (List.range n).map fun i => idAt s (32 * i)
theorem idsOf_len (s : List UInt8) (n : Nat) : (idsOf s n).length = n := by simp [idsOf]
theorem idsOf_succ (s : List UInt8) (n : Nat) : idsOf s (n + 1) = idsOf s n ++ [idAt s (32 * n)] := by simp [idsOf, List.range_succ]
theorem idAt_list (s : List UInt8) (o : Nat) (h : o + 32 ≤ s.length) : (idAt s o).toList = (s.drop o).take 32 := by
  apply List.ext_getElem
  · simp; omega
  · intro j h1 h2
    have hj : j < 32 := by simpa using h1
    simp only [idAt, Vector.getElem_toList, Vector.getElem_ofFn, List.getElem_take, List.getElem_drop]
    exact getD_get (by omega)
theorem idsL_of (s : List UInt8) : ∀ n : Nat, 32 * n ≤ s.length → idsL (idsOf s n) = s.take (32 * n)
  | 0, _ => by simp [idsOf, idsL]
  | n + 1, h => by
    rw [idsOf_succ]
    have ih := idsL_of s n (by omega)
    unfold idsL at ih ⊢
    rw [List.flatMap_append, ih, List.flatMap_cons, List.flatMap_nil, List.append_nil, idAt_list s (32 * n) (by omega), show 32 * (n + 1) = 32 * n + 32 by omega, List.take_add]
theorem vcopy_id (x : Vector UInt8 32) (s : List UInt8) (o : Nat) (h : o + 32 ≤ s.length) : vcopy x (s.drop o) = idAt s o := by
  apply Vector.toList_inj.1
  rw [vcopy_list, idAt_list s o h]
  have : (s.drop o).length = s.length - o := by simp
  rw [Nat.min_eq_right (by omega)]
  simp
def rdIDs (b : List UInt8) (most : Int) : List (Vector UInt8 32) × Nat × Nat :=
  if (partL b most 32).2.2 ≠ 0 then ([], 0, (partL b most 32).2.2)
  else if incr (idsOf (partL b most 32).1 ((partL b most 32).1.length / 32)) then (idsOf (partL b most 32).1 ((partL b most 32).1.length / 32), (partL b most 32).2.1, 0) else ([], 0, 12)
theorem part_len32 {b : List UInt8} {most : Int} (h : (partL b most 32).2.2 = 0) : (partL b most 32).1.length = 32 * (readN b).1 ∧ (partL b most 32).2.1 = (readN b).2.1 + 32 * (readN b).1 ∧ (readN b).2.2 = 0 ∧ (partL b most 32).1 = (b.drop (readN b).2.1).take (32 * (readN b).1) ∧ ((readN b).1 : Int) ≤ most ∧ (readN b).2.1 + 32 * (readN b).1 ≤ b.length := by
  have hu := readN_used b
  by_cases h1 : most < 0
  · rw [partL_arg h1] at h; cases h
  by_cases h2 : (readN b).2.2 ≠ 0 ∨ most < ((readN b).1 : Int) ∨ (b.length - (readN b).2.1) / 32 < (readN b).1
  · rw [partL_bad h1 h2] at h; cases h
  · have hf := part_fits (b := b) (k := 32) (by omega)
    rw [partL_good h1 h2]
    refine ⟨?_, rfl, by omega, rfl, by omega, by omega⟩
    simp only [List.length_take, List.length_drop]; omega
theorem rdi_L0 (s : List UInt8) (n : Nat) (hs : s.length = 32 * n) (hn : n ≤ 1000) : iter (wire_ReadIDs_L0 (List.replicate n (Vector.replicate 32 0))) (s, List.replicate n (Vector.replicate 32 0), 0) = some (idsOf s n) := by
  have h := iter_run (F := wire_ReadIDs_L0 (List.replicate n (Vector.replicate 32 0))) (b := idsOf s n) n (fun i => (s.drop (32 * i), idsOf s i ++ List.replicate (n - i) (Vector.replicate 32 0), (i : Int)))
    (fun i hi => by
      unfold wire_ReadIDs_L0
      rw [if_pos (by simp; omega)]
      have hl : (idsOf s i ++ List.replicate (n - i) (Vector.replicate 32 (0 : UInt8))).length = n := by simp [idsOf_len]; omega
      have hidx : idx (idsOf s i ++ List.replicate (n - i) (Vector.replicate 32 (0 : UInt8))) (i : Int) = some (Vector.replicate 32 0) := by
        rw [idx_nat (by omega)]
        rw [List.getElem_append_right (by rw [idsOf_len]; omega)]
        simp
      have hd : (s.drop (32 * i)).length = 32 * (n - i) := by rw [List.length_drop, hs]; omega
      have hmin : min (s.drop (32 * i)).length 32 = 32 := by rw [hd]; omega
      have hcut : cut (s.drop (32 * i)) ((32 : Nat) : Int) ((s.drop (32 * i)).length : Int) = some (s.drop (32 * (i + 1))) := by
        rw [cut_eq (by omega) (Nat.le_refl _), List.drop_drop, List.take_of_length_le (by simp; omega)]
        congr 2
      simp only [hidx, bs, hmin, hcut]
      rw [vcopy_id _ s (32 * i) (by omega), w64_nat (by omega)]
      congr 3
      have e : n - i = (n - (i + 1)) + 1 := by omega
      rw [Int.toNat_natCast, List.set_append_right _ _ (by rw [idsOf_len]; exact Nat.le_refl _), idsOf_len, Nat.sub_self, e, List.replicate_succ, List.set_cons_zero, idsOf_succ, List.append_assoc]
      rfl)
    (by
      unfold wire_ReadIDs_L0
      rw [if_neg (by simp)]
      simp)
  simpa [idsOf] using h
theorem rdIDs_eq (b : List UInt8) (hb : b.length ≤ 20000) (most : Int) (hm : most ≤ 1000) : wire_ReadIDs b most = some ((rdIDs b most).1, ((rdIDs b most).2.1 : Int), ((rdIDs b most).2.2 : Int)) := by
  unfold wire_ReadIDs rdIDs
  have hp := rdPart_eq b (by omega) most (by omega) 32 (by omega) (by omega)
  rw [show ((32 : Nat) : Int) = 32 from rfl] at hp
  rw [hp]
  simp only [bs]
  by_cases h : (partL b most 32).2.2 = 0
  · obtain ⟨l1, l2, l3, l4, l5, l6⟩ := part_len32 h
    have hn : (partL b most 32).1.length / 32 = (readN b).1 := by omega
    rw [if_neg (by simp [h]), if_neg (by simp [h]), hn]
    have e : w64 (Int.tdiv ((partL b most 32).1.length : Int) 32) = ((readN b).1 : Int) := by
      rw [l1, Int.tdiv_eq_ediv_of_nonneg (by omega), w64_eq (by omega) (by omega)]; omega
    rw [e, mkn_eq (by omega) (by omega)]
    simp only [bs]
    rw [rdi_L0 _ _ l1 (by omega)]
    simp only [bs]
    rw [wrising_eq _ (by rw [idsOf_len]; omega)]
    simp only [bs]
    cases incr (idsOf (partL b most 32).1 (readN b).1) <;> rfl
  · rw [if_pos (by simp; omega), if_pos h]; rfl
end Go.Proofs.Ytklfgpdfongaeaa
namespace Go.Proofs.Ytklfgpdfongaeaa
open Go
set_option linter.unusedSimpArgs false
set_option linter.unusedVariables false
theorem sids_from (a b : List (Vector UInt8 32)) (hl : a.length = b.length) (hb : a.length ≤ 9223372036854775807) : ∀ (n i : Nat), a.length - i = n → i ≤ a.length → a.take i = b.take i →
    iter (braidref04_SameIDs_L0 a b) (i : Int) = some (if a = b then .inr () else .inl false) := by
  intro n
  induction n with
  | zero =>
    intro i hn hi he
    have : i = a.length := by omega
    subst this
    refine iter_l ?_
    unfold braidref04_SameIDs_L0
    have e : a = b := by rw [List.take_length, hl, List.take_length] at he; exact he
    rw [if_neg (by simp), if_pos e]
  | succ n ih =>
    intro i hn hi he
    have h1 : i < a.length := by omega
    have h2 : i < b.length := by omega
    have hF : braidref04_SameIDs_L0 a b (i : Int) = if a[i] = b[i] then some (.inr ((i + 1 : Nat) : Int)) else some (.inl (.inl false)) := by
      unfold braidref04_SameIDs_L0
      rw [if_pos (by simp <;> omega)]
      simp only [idx_nat h1, idx_nat h2, bs, w64_nat (show i < 9223372036854775807 by omega)]
      by_cases h : a[i] = b[i] <;> simp [h]
    by_cases h : a[i] = b[i]
    · rw [if_pos h] at hF
      rw [iter_r hF]
      exact ih (i + 1) (by omega) (by omega) (by rw [List.take_succ_eq_append_getElem h1, List.take_succ_eq_append_getElem h2, he, h])
    · rw [if_neg h] at hF
      rw [iter_l hF, if_neg (fun e => h (by subst e; rfl))]
theorem sameIDs_eq (a b : List (Vector UInt8 32)) (hb : a.length ≤ 9223372036854775807) : braidref04_SameIDs a b = some (decide (a = b)) := by
  unfold braidref04_SameIDs
  by_cases hl : a.length = b.length
  · rw [if_neg (by simp [hl])]
    have := sids_from a b hl hb _ 0 rfl (by omega) (by simp)
    rw [show (0 : Int) = ((0 : Nat) : Int) from rfl, this]
    by_cases h : a = b
    · rw [if_pos h, decide_eq_true h]; rfl
    · rw [if_neg h, decide_eq_false h]; rfl
  · rw [if_pos (by simp; omega), decide_eq_false (fun e => hl (by rw [e]))]
theorem sops_from (f g : api_Frame) (hl : f.Ops.length = g.Ops.length) (hb : f.Ops.length ≤ 9223372036854775807) (hs : ∀ x ∈ f.Ops, x.length ≤ 9223372036854775807) : ∀ (n i : Nat), f.Ops.length - i = n → i ≤ f.Ops.length → f.Ops.take i = g.Ops.take i →
    iter (braidref07_Same_L0 f g) (i : Int) = some (if f.Ops = g.Ops then .inr () else .inl false) := by
  intro n
  induction n with
  | zero =>
    intro i hn hi he
    have : i = f.Ops.length := by omega
    subst this
    refine iter_l ?_
    unfold braidref07_Same_L0
    have e : f.Ops = g.Ops := by rw [List.take_length, hl, List.take_length] at he; exact he
    rw [if_neg (by simp), if_pos e]
  | succ n ih =>
    intro i hn hi he
    have h1 : i < f.Ops.length := by omega
    have h2 : i < g.Ops.length := by omega
    have hF : braidref07_Same_L0 f g (i : Int) = if f.Ops[i] = g.Ops[i] then some (.inr ((i + 1 : Nat) : Int)) else some (.inl (.inl false)) := by
      unfold braidref07_Same_L0
      rw [if_pos (by simp <;> omega)]
      simp only [idx_nat h1, idx_nat h2, bs, w64_nat (show i < 9223372036854775807 by omega)]
      rw [sameB_eq _ _ (hs _ (List.getElem_mem h1))]
      by_cases h : f.Ops[i] = g.Ops[i] <;> simp [h, bs]
    by_cases h : f.Ops[i] = g.Ops[i]
    · rw [if_pos h] at hF
      rw [iter_r hF]
      exact ih (i + 1) (by omega) (by omega) (by rw [List.take_succ_eq_append_getElem h1, List.take_succ_eq_append_getElem h2, he, h])
    · rw [if_neg h] at hF
      rw [iter_l hF, if_neg (fun e => h (by simp only [e]))]
theorem frame_ext {f g : api_Frame} (h1 : f.Kind = g.Kind) (h2 : f.N = g.N) (h3 : f.IDs = g.IDs) (h4 : f.Ops = g.Ops) : f = g := by
  cases f; cases g; simp only at h1 h2 h3 h4; subst h1 h2 h3 h4; rfl
theorem same7_eq (f g : api_Frame) (h1 : f.IDs.length ≤ 9223372036854775807) (h2 : f.Ops.length ≤ 9223372036854775807) (h3 : ∀ x ∈ f.Ops, x.length ≤ 9223372036854775807) : braidref07_Same f g = some (decide (f = g)) := by
  unfold braidref07_Same
  rw [sameIDs_eq _ _ h1]
  by_cases c1 : f.Kind = g.Kind
  · by_cases c2 : f.N = g.N
    · by_cases c3 : f.IDs = g.IDs
      · rw [if_neg (by simp [c1]), if_neg (by simp [c2]), decide_eq_true c3]
        simp only [bs, Bool.not_true, Bool.false_eq_true, if_false]
        by_cases hl : f.Ops.length = g.Ops.length
        · rw [if_neg (by simp [hl])]
          have := sops_from f g hl h2 h3 _ 0 rfl (by omega) (by simp)
          rw [show (0 : Int) = ((0 : Nat) : Int) from rfl, this]
          by_cases h : f.Ops = g.Ops
          · rw [if_pos h, decide_eq_true (frame_ext c1 c2 c3 h)]; rfl
          · rw [if_neg h, decide_eq_false (fun e => h (by rw [e]))]; rfl
        · rw [if_pos (by simp; omega), decide_eq_false (fun e => hl (by rw [e]))]
      · rw [if_neg (by simp [c1]), if_neg (by simp [c2]), decide_eq_false c3, decide_eq_false (fun e => c3 (by rw [e]))]; rfl
    · rw [if_neg (by simp [c1]), if_pos (by simp [c2]), decide_eq_false (fun e => c2 (by rw [e]))]; rfl
  · rw [if_pos (by simp [c1]), decide_eq_false (fun e => c1 (by rw [e]))]; rfl
end Go.Proofs.Ytklfgpdfongaeaa
namespace Go.Proofs.Ytklfgpdfongaeaa
open Go
set_option linter.unusedSimpArgs false
set_option linter.unusedVariables false
theorem pos0 {α : Type} (l : List α) : decide (0 < (l.length : Int)) = !decide (l = []) := by
  cases l <;> simp
theorem encF_short {f : api_Frame} (h : goodF f = true) : (encF f).length ≤ 2000 := by
  rcases kinds f.Kind with k | k | k | k
  · rw [goodF_l k] at h
    simp only [Bool.and_eq_true, decide_eq_true_eq] at h
    obtain ⟨⟨⟨g1, g2⟩, g3⟩, g4⟩ := h
    have hn := numBytes_len f.IDs.length (by omega)
    have hd := idsL_len f.IDs
    rw [encF_l k]; simp; omega
  · rw [goodF_5 k] at h
    simp only [Bool.and_eq_true, decide_eq_true_eq] at h
    rw [encF_5 k]; simp; omega
  · have hn := numBytes_len f.N.toNat (UInt64.toNat_lt _)
    rw [encF_n k]; simp; omega
  · obtain ⟨h1, h2, h3⟩ := k
    unfold goodF at h; rw [if_neg h1, if_neg h2, if_neg h3] at h; cases h
theorem check_all (f : api_Frame) (h : okF f) : iter (braidref07_Check_L0 f) 0 = some (if f.Ops.all short then .inr () else .inl 8) := by
  simpa using check_L0 f h f.Ops [] rfl
set_option maxRecDepth 20000 in
theorem rcheck_eq (f : api_Frame) (h : okF f) : braidref07_Check f = some (if goodF f then 0 else 8) := by
  have h' := h
  obtain ⟨h1, h2, h3⟩ := h
  rcases kinds f.Kind with k | k | k | k
  · have e1 : decide (f.Kind < 1) = false := by rcases k with e | e | e <;> rw [e] <;> rfl
    have e6 : decide (6 < f.Kind) = false := by rcases k with e | e | e <;> rw [e] <;> rfl
    have k1 : (f.Kind == 1) = false := by rcases k with e | e | e <;> rw [e] <;> rfl
    have k6 : (f.Kind == 6) = false := by rcases k with e | e | e <;> rw [e] <;> rfl
    have k5 : (f.Kind != 5) = true := by rcases k with e | e | e <;> rw [e] <;> rfl
    have hB := Bytes_eq f h' (by rcases k with e | e | e <;> rw [e] <;> decide) (by rcases k with e | e | e <;> rw [e] <;> decide)
    unfold braidref07_Check
    rw [e1, e6, k1, k6, k5, Listed_eq, decide_eq_true k, Rising_eq _ (by omega), check_all f h', hB, pos0 f.IDs, pos0 f.Ops, goodF_l k]
    simp only [bs, Bool.false_eq_true, if_false, if_true, Bool.not_false, Bool.not_true]
    by_cases hN : f.N = 0
    · have hN' : (f.N != 0) = false := by simpa using hN
      rw [hN', decide_eq_true hN]
      by_cases hO : f.Ops = []
      · rw [decide_eq_true hO]
        simp only [Bool.not_true, Bool.false_eq_true, if_false, or_r, Bool.true_and]
        by_cases hI : f.IDs.length ≤ 40
        · have hI' : decide (40 < (f.IDs.length : Int)) = false := by simp; omega
          rw [hI', decide_eq_true hI]
          cases hi : incr f.IDs with
          | false => simp [bs]
          | true =>
            have hg : goodF f = true := by rw [goodF_l k, decide_eq_true hN, decide_eq_true hO, decide_eq_true hI, hi]; rfl
            have := encF_short hg
            simp [bs, hO, or_r]; omega
        · have hI' : decide (40 < (f.IDs.length : Int)) = true := by simp; omega
          rw [hI', decide_eq_false hI]; simp [bs]
      · rw [decide_eq_false hO]; simp [or_l]
    · have hN' : (f.N != 0) = true := by simpa using hN
      rw [hN', decide_eq_false hN]; simp [or_l]
  · have e1 : decide (f.Kind < 1) = false := by rw [k]; rfl
    have e6 : decide (6 < f.Kind) = false := by rw [k]; rfl
    have k1 : (f.Kind == 1) = false := by rw [k]; rfl
    have k6 : (f.Kind == 6) = false := by rw [k]; rfl
    have k5 : (f.Kind != 5) = false := by rw [k]; rfl
    have hB := Bytes_eq f h' (by rw [k]; decide) (by rw [k]; decide)
    have hL : ¬ (f.Kind = 2 ∨ f.Kind = 3 ∨ f.Kind = 4) := by rw [k]; decide
    unfold braidref07_Check
    rw [e1, e6, k1, k6, k5, Listed_eq, decide_eq_false hL, Rising_eq _ (by omega), check_all f h', hB, pos0 f.IDs, pos0 f.Ops, goodF_5 k]
    simp only [bs, Bool.false_eq_true, if_false, if_true, Bool.not_false, Bool.not_true]
    by_cases hN : f.N = 0
    · have hN' : (f.N != 0) = false := by simpa using hN
      rw [hN', decide_eq_true hN]
      by_cases hI : f.IDs = []
      · rw [decide_eq_true hI]
        simp only [Bool.not_true, Bool.false_eq_true, if_false, or_r, Bool.true_and]
        by_cases hO : f.Ops.length ≤ 8
        · have hO' : decide (8 < (f.Ops.length : Int)) = false := by simp; omega
          rw [hO', decide_eq_true hO]
          cases hs : f.Ops.all short with
          | false => simp [hI, incr, bs, or_l]
          | true =>
            have hl : (encF f).length = 1 + (numBytes f.Ops.length).length + (opsL f.Ops).length := by rw [encF_5 k]; simp; omega
            by_cases hz : (encF f).length ≤ 2000
            · have : ¬ 2000 < ((encF f).length : Int) := by omega
              rw [← hl]; simp [hI, incr, bs, or_r, this, hz]
            · have : 2000 < ((encF f).length : Int) := by omega
              rw [← hl]; simp [hI, incr, bs, or_r, this, hz]
        · have hO' : decide (8 < (f.Ops.length : Int)) = true := by simp; omega
          rw [hO', decide_eq_false hO]; simp [hI, incr, bs]
      · rw [decide_eq_false hI]; simp [or_l]
    · have hN' : (f.N != 0) = true := by simpa using hN
      rw [hN', decide_eq_false hN]; simp [or_l]
  · have e1 : decide (f.Kind < 1) = false := by rcases k with e | e <;> rw [e] <;> rfl
    have e6 : decide (6 < f.Kind) = false := by rcases k with e | e <;> rw [e] <;> rfl
    have k1 : (if (f.Kind == 1) = true then some true else some (f.Kind == 6) : Option Bool) = some true := by rcases k with e | e <;> rw [e] <;> rfl
    have k5 : (f.Kind != 5) = true := by rcases k with e | e <;> rw [e] <;> rfl
    have hB := Bytes_eq f h' (by rcases k with e | e <;> rw [e] <;> decide) (by rcases k with e | e <;> rw [e] <;> decide)
    have hL : ¬ (f.Kind = 2 ∨ f.Kind = 3 ∨ f.Kind = 4) := by rcases k with e | e <;> rw [e] <;> decide
    unfold braidref07_Check
    rw [e1, e6, k1, k5, Listed_eq, decide_eq_false hL, Rising_eq _ (by omega), check_all f h', hB, pos0 f.IDs, pos0 f.Ops, goodF_n k]
    simp only [bs, Bool.false_eq_true, if_false, if_true, Bool.not_false, Bool.not_true]
    by_cases hI : f.IDs = []
    · by_cases hO : f.Ops = []
      · have hg : goodF f = true := by rw [goodF_n k, decide_eq_true hI, decide_eq_true hO]; rfl
        have := encF_short hg
        simp [hI, hO, incr, bs, or_r]; omega
      · rw [decide_eq_true hI, decide_eq_false hO]; simp [or_l]
    · rw [decide_eq_false hI]; simp [or_l]
  · have hg : goodF f = false := by obtain ⟨h1, h2, h3⟩ := k; unfold goodF; rw [if_neg h1, if_neg h2, if_neg h3]
    rw [hg]
    have key : ∀ i : Fin 256, (¬ (UInt8.ofNat i.val = 2 ∨ UInt8.ofNat i.val = 3 ∨ UInt8.ofNat i.val = 4) ∧ UInt8.ofNat i.val ≠ 5 ∧ ¬ (UInt8.ofNat i.val = 1 ∨ UInt8.ofNat i.val = 6)) → decide (UInt8.ofNat i.val < 1) = true ∨ decide (6 < UInt8.ofNat i.val) = true := by decide +kernel
    have := key ⟨f.Kind.toNat, UInt8.toNat_lt f.Kind⟩ (by simpa using k)
    simp only [UInt8.ofNat_toNat] at this
    unfold braidref07_Check
    rcases this with e | e
    · rw [e]; rfl
    · rw [e]; cases decide (f.Kind < 1) <;> rfl
end Go.Proofs.Ytklfgpdfongaeaa
namespace Go.Proofs.Ytklfgpdfongaeaa
open Go
set_option linter.unusedSimpArgs false
set_option linter.unusedVariables false
def rdOps : Nat → List UInt8 → Option (List (List UInt8) × List UInt8)
  | 0, b => some ([], b)
  | n + 1, b => if (partL b 400 1).2.2 ≠ 0 then none else (rdOps n (b.drop (partL b 400 1).2.1)).map fun p => ((partL b 400 1).1 :: p.1, p.2)
theorem part_split {b : List UInt8} {most : Int} (h : (partL b most 1).2.2 = 0) : b = (numBytes (partL b most 1).1.length ++ (partL b most 1).1) ++ b.drop (partL b most 1).2.1 ∧ ((partL b most 1).1.length : Int) ≤ most ∧ (partL b most 1).2.1 ≤ b.length := by
  have hu := readN_used b
  by_cases h1 : most < 0
  · rw [partL_arg h1] at h; cases h
  by_cases h2 : (readN b).2.2 ≠ 0 ∨ most < ((readN b).1 : Int) ∨ (b.length - (readN b).2.1) / 1 < (readN b).1
  · rw [partL_bad h1 h2] at h; cases h
  · have hf := part_fits (b := b) (k := 1) (by omega)
    rw [partL_good h1 h2]
    have e0 : (readN b).2.2 = 0 := by omega
    rcases readN_cases b with ⟨h3, h4⟩ | ⟨n, u, h3, h4⟩
    · rw [h4] at e0; cases e0
    · obtain ⟨a1, a2, a3⟩ := (readNum_some_iff b n u).1 h3
      rw [h4] at hf h2 ⊢
      simp only [Nat.one_mul] at hf ⊢
      have hl : ((b.drop u).take n).length = n := by rw [List.length_take, List.length_drop]; omega
      simp only at h2
      refine ⟨?_, by rw [hl]; omega, by have := readNum_lt h3; omega⟩
      rw [hl, ← a3, ← List.take_add, List.take_append_drop]
theorem rdOps_ok : ∀ (n : Nat) (b : List UInt8) (ops : List (List UInt8)) (rest : List UInt8), rdOps n b = some (ops, rest) → ops.length = n ∧ b = opsL ops ++ rest ∧ ∀ x ∈ ops, x.length ≤ 400
  | 0, b, ops, rest, h => by
    simp only [rdOps, Option.some.injEq, Prod.mk.injEq] at h
    obtain ⟨rfl, rfl⟩ := h
    exact ⟨rfl, rfl, by simp⟩
  | n + 1, b, ops, rest, h => by
    unfold rdOps at h
    by_cases he : (partL b 400 1).2.2 ≠ 0
    · rw [if_pos he] at h; cases h
    · rw [if_neg he] at h
      cases hr : rdOps n (b.drop (partL b 400 1).2.1) with
      | none => rw [hr] at h; cases h
      | some p =>
        rw [hr] at h
        simp only [Option.map_some, Option.some.injEq, Prod.mk.injEq] at h
        obtain ⟨rfl, rfl⟩ := h
        obtain ⟨i1, i2, i3⟩ := rdOps_ok n _ p.1 p.2 hr
        obtain ⟨s1, s2, s3⟩ := part_split (b := b) (most := 400) (by omega)
        refine ⟨by simp [i1], ?_, ?_⟩
        · rw [opsL_cons, List.append_assoc, ← i2]; exact s1
        · intro x hx
          rcases List.mem_cons.1 hx with e | e
          · rw [e]; omega
          · exact i3 x e
theorem fread_L1 (k : UInt8) : ∀ (n : Nat) (b : List UInt8) (acc : List (List UInt8)) (u : UInt64), u.toNat = n → n + acc.length ≤ 100 → b.length ≤ 3000 →
    match rdOps n b with
    | some (ops, _) => iter (frame_read_L1 k) (b, acc, u) = some (.inr (0, [], acc ++ ops, 0))
    | none => ∃ f, iter (frame_read_L1 k) (b, acc, u) = some (.inl (f, 12))
  | 0, b, acc, u, hu, ha, hb => by
    simp only [rdOps]
    refine iter_l ?_
    unfold frame_read_L1
    have e : decide (0 < u) = false := by rw [decide_eq_false_iff_not, UInt64.lt_iff_toNat_lt, hu]; exact Nat.lt_irrefl _
    rw [e, if_neg (by simp)]; simp
  | n + 1, b, acc, u, hu, ha, hb => by
    have e : decide (0 < u) = true := by rw [decide_eq_true_eq, UInt64.lt_iff_toNat_lt, hu]; show 0 < n + 1; omega
    have hp := rdBytes_eq b (by omega) 400 (by decide)
    unfold rdOps
    by_cases he : (partL b 400 1).2.2 ≠ 0
    · rw [if_pos he]
      have h12 : (partL b 400 1).2.2 = 12 := by
        unfold partL at he ⊢
        split
        · rename_i h; exact absurd h (by decide)
        · split
          · rfl
          · rename_i h1 h2; rw [if_neg h1, if_neg h2] at he; exact absurd rfl he
      refine ⟨(⟨k, 0, [], acc⟩ : api_Frame), iter_l ?_⟩
      unfold frame_read_L1
      rw [e, if_pos rfl, hp]
      simp only [bs, h12]
      rfl
    · rw [if_neg he]
      obtain ⟨s1, s2, s3⟩ := part_split (b := b) (most := 400) (by omega)
      have hF : frame_read_L1 k (b, acc, u) = some (.inr (b.drop (partL b 400 1).2.1, acc ++ [(partL b 400 1).1], u - 1)) := by
        unfold frame_read_L1
        rw [e, if_pos rfl, hp]
        simp only [bs]
        rw [if_neg (by simp; omega), cut_eq s3 (Nat.le_refl _)]
        simp only [bs]
        rw [app_eq (by simp; omega)]
        simp only [bs]
        rw [List.take_of_length_le (by simp)]
      have hu2 : (u - 1).toNat = n := by rw [UInt64.toNat_sub_of_le _ _ (by rw [UInt64.le_iff_toNat_le, hu]; show 1 ≤ n + 1; omega), hu]; rfl
      have ih := fread_L1 k n (b.drop (partL b 400 1).2.1) (acc ++ [(partL b 400 1).1]) (u - 1) hu2 (by simp; omega) (by simp; omega)
      cases hr : rdOps n (b.drop (partL b 400 1).2.1) with
      | none =>
        rw [hr] at ih
        obtain ⟨f, ih⟩ := ih
        exact ⟨f, by rw [iter_r hF]; exact ih⟩
      | some p =>
        rw [hr] at ih
        simp only [Option.map_some]
        rw [iter_r hF]
        simp only at ih
        rw [ih]; simp
def rawF (k : UInt8) (r : List UInt8) : Option api_Frame :=
  if k = 2 ∨ k = 3 ∨ k = 4 then (if (rdIDs r 40).2.2 = 0 then some ⟨k, 0, (rdIDs r 40).1, []⟩ else none)
  else if k = 5 then (if (readN r).2.2 ≠ 0 ∨ 8 < (readN r).1 then none else (rdOps (readN r).1 (r.drop (readN r).2.1)).map fun p => ⟨k, 0, [], p.1⟩)
  else if (readN r).2.2 = 0 then some ⟨k, UInt64.ofNat (readN r).1, [], []⟩ else none
theorem rdIDs_small (r : List UInt8) (hr : r.length ≤ 3000) : (rdIDs r 40).1.length ≤ 40 := by
  unfold rdIDs
  by_cases h : (partL r 40 32).2.2 ≠ 0
  · rw [if_pos h]; simp
  · rw [if_neg h]
    obtain ⟨l1, l2, l3, l4, l5, l6⟩ := part_len32 (b := r) (most := 40) (by omega)
    split
    · simp only [idsOf_len]; omega
    · simp
theorem raw_ok {k : UInt8} {r : List UInt8} {f : api_Frame} (hr : r.length ≤ 3000) (h : rawF k r = some f) : okF f ∧ f.Kind = k := by
  unfold rawF at h
  by_cases k1 : k = 2 ∨ k = 3 ∨ k = 4
  · rw [if_pos k1] at h
    split at h
    · simp only [Option.some.injEq] at h; subst h
      have := rdIDs_small r hr
      exact ⟨⟨by show (rdIDs r 40).1.length ≤ 100; omega, by simp, by simp⟩, rfl⟩
    · cases h
  rw [if_neg k1] at h
  by_cases k2 : k = 5
  · rw [if_pos k2] at h
    split at h
    · cases h
    · rename_i h2
      cases hx : rdOps (readN r).1 (r.drop (readN r).2.1) with
      | none => rw [hx] at h; cases h
      | some p =>
        rw [hx] at h
        simp only [Option.map_some, Option.some.injEq] at h; subst h
        obtain ⟨i1, i2, i3⟩ := rdOps_ok _ _ p.1 p.2 hx
        exact ⟨⟨by simp, by show p.1.length ≤ 20; omega, fun x hx => by have := i3 x hx; omega⟩, rfl⟩
  · rw [if_neg k2] at h
    split at h
    · simp only [Option.some.injEq] at h; subst h
      exact ⟨⟨by simp, by simp, by simp⟩, rfl⟩
    · cases h
def parseF (b : List UInt8) : Option api_Frame :=
  match b with
  | [] => none
  | k :: r => match rawF k r with
    | none => none
    | some f => if goodF f = true ∧ encF f = k :: r then some f else none
def outF (o : Option api_Frame) : api_Frame × Int := match o with
  | some f => (f, 0)
  | none => (⟨0, 0, [], []⟩, 12)
theorem u64gt8 (n : Nat) (h : n < 18446744073709551616) : decide (8 < UInt64.ofNat n) = decide (8 < n) := by
  rw [decide_eq_decide, UInt64.lt_iff_toNat_lt]
  have : (UInt64.ofNat n).toNat = n := by simp; omega
  rw [this]; rfl
theorem read_eq (k : UInt8) (r : List UInt8) (hr : r.length ≤ 3000) : ∃ f e, frame_read k r = some (f, e) ∧ (e = 0 → rawF k r = some f) ∧ (e ≠ 0 → rawF k r = none) := by
  have hl := readN_lt r
  have hu := readN_used r
  unfold frame_read rawF
  rw [listed_eq, Listed_eq]
  simp only [bs]
  by_cases k1 : k = 2 ∨ k = 3 ∨ k = 4
  · rw [decide_eq_true k1, if_pos rfl, rdIDs_eq r (by omega) 40 (by decide)]
    simp only [bs, or_r, if_pos k1]
    refine ⟨_, _, rfl, fun h => ?_, fun h => ?_⟩
    · rw [if_pos (by omega)]
    · rw [if_neg (by omega)]
  rw [decide_eq_false k1]
  simp only [Bool.false_eq_true, if_false, if_neg k1]
  by_cases k2 : k = 5
  · rw [if_pos (by simp [k2]), rdNum_eq r (by omega), if_pos k2]
    simp only [bs]
    rw [u64gt8 _ hl.1]
    by_cases hb : (readN r).2.2 ≠ 0 ∨ 8 < (readN r).1
    · have hs : (if ((((readN r).2.2 : Nat) : Int) != 0) = true then some true else some (decide (8 < (readN r).1))) = some true := by
        by_cases c : (readN r).2.2 = 0
        · rw [if_neg (by simp [c]), decide_eq_true (by omega)]
        · rw [if_pos (by simp; omega)]
      rw [hs, if_pos hb]
      exact ⟨_, _, rfl, fun h => (by cases h), fun _ => rfl⟩
    · have hs : (if ((((readN r).2.2 : Nat) : Int) != 0) = true then some true else some (decide (8 < (readN r).1))) = some false := by
        rw [if_neg (by simp; omega), decide_eq_false (by omega)]
      rw [hs, if_neg hb]
      simp only [bs, Bool.false_eq_true, if_false]
      rw [cut_eq hu (Nat.le_refl _)]
      simp only [bs]
      rw [List.take_of_length_le (by simp)]
      have hloop := fread_L1 k (readN r).1 (r.drop (readN r).2.1) [] (UInt64.ofNat (readN r).1) (by simp; omega) (by simp; omega) (by simp; omega)
      cases hx : rdOps (readN r).1 (r.drop (readN r).2.1) with
      | none =>
        rw [hx] at hloop
        obtain ⟨f, hloop⟩ := hloop
        rw [hloop]
        exact ⟨_, _, rfl, fun h => (by cases h), fun _ => rfl⟩
      | some p =>
        rw [hx] at hloop
        simp only at hloop
        rw [hloop]
        exact ⟨_, _, rfl, fun _ => rfl, fun h => absurd rfl h⟩
  · rw [if_neg (by simpa using k2), rdNum_eq r (by omega), if_neg k2]
    simp only [bs, or_r]
    refine ⟨_, _, rfl, fun h => ?_, fun h => ?_⟩
    · rw [if_pos (by omega)]
    · rw [if_neg (by omega)]
theorem parse_eq (b : List UInt8) (hb : b.length ≤ 2600) : frame_Parse b = some (outF (parseF b)) := by
  unfold frame_Parse
  match b, hb with
  | [], _ => rfl
  | k :: r, hb =>
    simp only [List.length_cons] at hb
    have hlen : (((k :: r).length : Int) == 0) = false := by simp; omega
    rw [hlen]
    simp only [Bool.false_eq_true, if_false, bs]
    by_cases hbig : 2000 < (k :: r).length
    · rw [decide_eq_true (by omega)]
      have : parseF (k :: r) = none := by
        unfold parseF
        simp only
        cases hx : rawF k r with
        | none => rfl
        | some f =>
          simp only
          rw [if_neg]
          intro h
          have := encF_short h.1
          rw [h.2] at this; omega
      rw [this]; rfl
    · rw [decide_eq_false (by omega)]
      simp only [Bool.false_eq_true, if_false]
      have i0 : idx (k :: r) 0 = some k := idx_nat (l := k :: r) (i := 0) (by simp)
      have hc : cut (k :: r) 1 ((k :: r).length : Int) = some r := by
        have := cut_eq (b := k :: r) (i := 1) (j := (k :: r).length) (by simp) (by simp)
        rw [show ((1 : Nat) : Int) = 1 from rfl] at this
        rw [this]; simp
      rw [i0]
      simp only [bs]
      rw [hc]
      simp only [bs]
      obtain ⟨f, e, h1, h2, h3⟩ := read_eq k r (by omega)
      rw [h1]
      simp only [bs]
      unfold parseF
      dsimp only
      by_cases he : e = 0
      · rw [if_neg (by simp [he]), h2 he]
        obtain ⟨hok, hk⟩ := raw_ok (by omega) (h2 he)
        obtain ⟨o, w1, w2⟩ := fwrite f hok
        rw [w1]
        simp only [bs]
        cases hg : goodF f
        · have hn : ¬ (false = true ∧ encF f = k :: r) := by simp
          rw [if_neg hn]; rfl
        · rw [w2 hg]
          simp only [Bool.not_true, Bool.false_eq_true, if_false, bytes_Equal, bs]
          by_cases heq : encF f = k :: r
          · rw [if_pos (⟨trivial, heq⟩ : True ∧ encF f = k :: r), heq]
            simp [outF]
          · have hn : ¬ (True ∧ encF f = k :: r) := fun h => heq h.2
            rw [if_neg hn]
            have : (encF f == k :: r) = false := by simpa using heq
            rw [this]; rfl
      · rw [if_pos (by simpa using he), h3 he]; rfl
theorem parse_ok {b : List UInt8} {f : api_Frame} (hb : b.length ≤ 2600) (h : parseF b = some f) : okF f ∧ goodF f = true ∧ encF f = b := by
  match b, hb, h with
  | k :: r, hb, h =>
    simp only [List.length_cons] at hb
    unfold parseF at h
    simp only at h
    cases hx : rawF k r with
    | none => rw [hx] at h; cases h
    | some g =>
      rw [hx] at h
      simp only at h
      split at h
      · rename_i hc
        cases h
        exact ⟨(raw_ok (by omega) hx).1, hc.1, hc.2⟩
      · cases h
end Go.Proofs.Ytklfgpdfongaeaa
namespace Go.Proofs.Ytklfgpdfongaeaa
open Go Go.RowKit
set_option linter.unusedSimpArgs false
set_option linter.unusedVariables false
def Cont.is (o0 : Obj) : Cont where
  nil _ _ _ := False
  nilm _ h := h
  nilb h := h.elim
  rel _ _ _ o := o = o0
  mono _ h := h
def Ent.clo (gf : FuncId) (pin : List Ent) : Ent := ⟨fun S w v => ∃ vs, holdsL S w pin vs ∧ v = .func (.func gf) #[] vs.toArray, fun k h => by obtain ⟨vs, h1, h2⟩ := h; exact ⟨vs, h1.mono k, h2⟩⟩
def Since (V : Blk) (W W' : World) : Blk := fun b => V b ∨ (W.heap.size ≤ b ∧ b < W'.heap.size)
structure ItC {α : Type} (P : Program) (gf : FuncId) (R : Rep α) (pin : List Ent) (it : ∀ {σ : Type}, (α → σ → Option σ) → σ → Option σ) : Prop where
  run : ∀ {σ : Type} (Y : α → σ → Option σ) (J : Blk → σ → World → Prop) (V : Blk) (l : Nat) (vs : List Value) (w : World) (s s' : σ), it Y s = some s' →
    holdsL V w pin vs → J V s w → (∀ V s W, J V s W → ∀ b, V b → b < W.heap.size) → (∀ V s W W', J V s W → Ext W W' → J (Since V W W') s W') →
    (∀ V s s' x u W, Y x s = some s' → J V s W → (Ent.rd R x).holds V W u → YieldAt Fence.wide 0 P l #[u] W fun e W' => e = .returned (.bool true) ∧ J V s' W' ∧ Keep V W W') →
    Calls P gf (#[.func (.yield l) #[] #[]] ++ vs.toArray) w fun e W' => (∃ v, e = .returned v) ∧ ∃ V', J V' s' W'
abbrev ctxD (n : Nat) (H : Blk) (rin : Res) (w : World) (ds : List Deferred) : Ctx := ⟨n, fun b => b < w.heap.size ∧ ¬ Bof rin b, H, w, ds⟩
section
variable {ρ α σ : Type} {P : Program} {Γ : Ctx} {l L : Slots} {res : Res} {A : Asn} {Q : ρ → Exit → Act → World → Prop}
theorem Sta.react {a a' : Act} {w : World} {H : Blk} {n : Nat} {ds ds' : List Deferred} (ha : Sta (ctxD n H res w ds) l res a w) (hz : a'.tmps.size = n) (hd : a'.defers = ds') {L : Slots}
    (hs : ∀ t e, lk L t = some e → ∃ v, a'.tmps[t]? = some v ∧ e.holds (Shr H res w) w v) : Sta (ctxD n H res w ds') L res a' w :=
  ⟨hz, hd, hs, ha.conts, ha.excl, ha.own, Keep.rfl', fun b hb => hb.1, ha.hid⟩
structure RngJ (P : Program) (Γ : Ctx) (L : Slots) (a0 : Act) (H V : Blk) (lp D : Nat) (rec : Loop) (res : Res) (W : World) : Prop where
  st : Sta (ctxD Γ.n H res W Γ.ds) L res a0 W
  keep : Keep Γ.K Γ.w0 W
  own : ∀ r v c b, lr res r = some (v, c) → rblk v = some b → ¬ Γ.K b ∧ ¬ V b
  hl : W.heap[lp]? = some (.loop rec)
  hD : W.heap[D]? = some (.deferred (some []))
  vlt : ∀ b, V b → b < W.heap.size ∧ ¬ H b
theorem Sta.extR {a : Act} {w w' : World} {H : Blk} {n : Nat} {ds : List Deferred} (h : Sta (ctxD n H res w ds) l res a w) (k : Ext w w') : Sta (ctxD n H res w' ds) l res a w' := by
  have h2 := h.ext k
  exact ⟨h2.size, h2.defers, h2.slots, h2.conts, h2.excl, fun r v c h b hb hk => hk.2 ⟨r, v, c, h, hb⟩, Keep.rfl', fun b hb => hb.1, fun b hb => ⟨Nat.lt_of_lt_of_le (h.hid b hb).1 k.size, (h.hid b hb).2⟩⟩
theorem RngJ.ext {a0 : Act} {H V : Blk} {lp D : Nat} {rec : Loop} {W W' : World} (h : RngJ P Γ L a0 H V lp D rec res W) (hK : ∀ b, Γ.K b → b < Γ.w0.heap.size) (k : Ext W W') : RngJ P Γ L a0 H (Since V W W') lp D rec res W' :=
  ⟨h.st.extR k, h.keep.ext hK k, fun r v c b h1 h2 => ⟨(h.own r v c b h1 h2).1, fun hb => by
      rcases hb with hb | hb
      · exact (h.own r v c b h1 h2).2 hb
      · have := (h.st.conts r v c h1).lt h2; omega⟩, (k.block lp (Array.getElem?_eq_some_iff.1 h.hl).1).trans h.hl, (k.block D (Array.getElem?_eq_some_iff.1 h.hD).1).trans h.hD,
    fun b hb => by
      rcases hb with hb | hb
      · exact ⟨Nat.lt_of_lt_of_le (h.vlt b hb).1 k.size, (h.vlt b hb).2⟩
      · exact ⟨hb.2, fun hh => by have := (h.st.hid b hh).1; omega⟩⟩
def beginQ (lp : Nat) (P : Program) (body : Code) (Qb : ρ → Exit → Act → World → Prop) : ρ → Exit → Act → World → Prop := fun r e a w => e = .normal ∧ ∃ w₂, (Instr.beginRound lp).run P w = .ok () w₂ ∧ wpM (some lp) P body (Qb r) a w₂
def roundAs (n : Nat) (H : Blk) (lp : Nat) (rec : Loop) (W : World) (res0 : Res) (res' : (Nat → Value) → Res) : Asn := fun a w =>
  ∃ (res2 : Res) (W2 : World), Keep (fun b => b < W.heap.size ∧ ¬ Bof res0 b ∧ b ≠ lp) W W2 ∧ (∀ b, b < W.heap.size → ¬ Bof res0 b → ¬ Bof res2 b) ∧ W2.heap[lp]? = some (.loop { rec with state := .busy }) ∧ ∃ nv', Sta (ctx n H res2 W2) [] (res' nv') a w
def RoundOk (P : Program) (n : Nat) (R : Rep α) (p : Tmp) (L : Slots) (assign body : Code) (Bs : σ → (Nat → Value) → Res) (Y : α → σ → Option σ) : Prop :=
  ∀ (lp : Nat) (rec : Loop) (H : Blk) (W : World) (nv : Nat → Value) (x : α) (s : σ), rec.state = .ready → H lp → W.heap[lp]? = some (.loop rec) →
    G (some lp) P (Sta (ctx n H (Bs s nv) W) ((p, .rd R x) :: L) (Bs s nv)) assign (beginQ lp P body (midQ fun s' => roundAs n H lp rec W (Bs s nv) (Bs s'))) (Y x s)
theorem Sta.turn {a : Act} {w : World} {H : Blk} {n lp : Nat} {ds : List Deferred} {res0 : Res} {w0 : World} (h : Sta (ctxD n H res0 w0 ds) l res a w) (hlp : H lp) (o : Obj) (hK : ∀ b, H b → b < (w.putObj lp o).heap.size ∧ ¬ Bof res b) : Sta (ctxD n H res (w.putObj lp o) ds) l res a (w.putObj lp o) := by
  have hst : Stay (Shr H res w) (Shr H res (w.putObj lp o)) w (w.putObj lp o) := fun b hb => ⟨⟨by simpa using hb.1, hb.2⟩, World.putObj_heap_other (fun e => hb.2.2 (e ▸ hlp))⟩
  refine ⟨h.size, h.defers, fun t e ht => ?_, fun r v c hr => (h.conts r v c hr).mono hst (fun b hb => World.putObj_heap_other (fun e => (hK lp hlp).2 ⟨r, v, c, hr, e ▸ hb⟩)), h.excl, fun r v c h b hb hk => hk.2 ⟨r, v, c, h, hb⟩, Keep.rfl', fun b hb => hb.1, hK⟩
  obtain ⟨u, h1, h2⟩ := h.slots t e ht
  exact ⟨u, h1, e.mono hst h2⟩
theorem eBegin {n lp : Nat} {rec : Loop} {H : Blk} {W : World} {res0 res : Res} {τ : Type} {body : Code} {Bst : τ → Asn} {m : Option τ} (hr : rec.state = .ready) (hlp : H lp) (hl : W.heap[lp]? = some (.loop rec))
    (h : ∀ W2, Keep (fun b => b < W.heap.size ∧ ¬ Bof res0 b ∧ b ≠ lp) W W2 → (∀ b, b < W.heap.size → ¬ Bof res0 b → ¬ Bof res b) → W2.heap[lp]? = some (.loop { rec with state := .busy }) → G (some lp) P (Sta (ctx n H res W2) l res) body (midQ Bst) m) :
    GE (Sta (ctx n H res0 W) l res) .normal (beginQ lp P body (midQ Bst)) m := fun a w ha r hm => by
  have hin : lp < W.heap.size := (Array.getElem?_eq_some_iff.1 hl).1
  have hKl : (ctx n H res0 W).K lp := ha.hid lp hlp
  have hl2 : w.heap[lp]? = some (.loop rec) := (ha.keep.block lp hKl).trans hl
  have hin2 : lp < w.heap.size := (Array.getElem?_eq_some_iff.1 hl2).1
  have hno : ∀ b, H b → b < w.heap.size ∧ ¬ Bof res b := fun b hb => by
    have hk := ha.hid b hb
    exact ⟨Nat.lt_of_lt_of_le hk.1 ha.keep.size, fun ⟨r, v, c, h1, h2⟩ => ha.own r v c h1 b h2 hk⟩
  refine ⟨rfl, _, run_beginRound hl2 hr, ?_⟩
  refine h (w.putObj lp (.loop { rec with state := .busy })) ?_ (fun b h1 h2 ⟨r, v, c, h3, h4⟩ => ha.own r v c h3 b h4 ⟨h1, h2⟩) (World.putObj_heap_same hin2) a _ ?_ r hm
  · exact ⟨ha.keep.os, ha.keep.tape, ha.keep.output, by simpa using ha.keep.size, fun b hb => (World.putObj_heap_other hb.2.2).trans (ha.keep.block b ⟨hb.1, hb.2.1⟩)⟩
  · exact ha.turn hlp _ (fun b hb => by have := hno b hb; exact ⟨by simpa using this.1, this.2⟩)
theorem RngJ.round {n : Nat} {R : Rep α} {p : Tmp} {assign body : Code} {Bs : σ → (Nat → Value) → Res} {Y : α → σ → Option σ} (hok : RoundOk P n R p L assign body Bs Y) (hn : Γ.n = n) (hp : Nat.blt p n = true) {a0 : Act} {H V : Blk} {lp D : Nat} {rec : Loop} {W : World} {s s' : σ} {x : α} {u : Value} {fn : Nat} {nv : Nat → Value}
    (hrec : rec = { state := .ready, pending := none, fn, tmps := a0.tmps, params := #[p], assign, body, defers := D }) (hlp : H lp) (hDp : H D) (hne : D ≠ lp)
    (hK : ∀ b, Γ.K b → b ≠ lp ∧ b ≠ D) (hold : ∀ b, Γ.K b → b < Γ.w0.heap.size) (hJ : RngJ P Γ L a0 H V lp D rec (Bs s nv) W) (hu : (Ent.rd R x).holds (Shr H (Bs s nv) W) W u) (hY : Y x s = some s') :
    YieldAt Fence.wide 0 P lp #[u] W fun e W' => e = .returned (.bool true) ∧ (∃ nv', RngJ P Γ L a0 H V lp D rec (Bs s' nv') W') ∧ Keep V W W' := by
  subst hn
  have hy := run_yield (P := P) (args := #[u]) hJ.hl (by rw [hrec]; rfl)
  refine ⟨_, _, _, _, hy, roundIn_of_wpIn trivial ?_⟩
  have htm : (rec.params.zip #[u]).foldl (fun tmps (t, a) => tmps.setIfInBounds t a) rec.tmps = a0.tmps.setIfInBounds p u := by subst hrec; simp
  rw [htm, show rec.assign = assign by rw [hrec], show rec.body = body by rw [hrec]]
  have hst := hJ.st
  have hp' : p < Γ.n := Eq.mp Nat.blt_eq hp
  have hz : a0.tmps.size = Γ.n := hst.size
  have hslots : ∀ t e, lk ((p, .rd R x) :: L) t = some e → ∃ v, (a0.tmps.setIfInBounds p u)[t]? = some v ∧ e.holds (Shr H (Bs s nv) W) W v := fun t e ht => by
    rw [lk_cons] at ht
    by_cases hh : p = t
    · subst hh
      rw [if_pos rfl] at ht; cases ht
      exact ⟨u, by rw [Array.getElem?_setIfInBounds, if_pos rfl, if_pos (by rw [hz]; exact hp')], hu⟩
    · rw [if_neg hh] at ht
      obtain ⟨v, h1, h2⟩ := hst.slots t e ht
      exact ⟨v, by rw [Array.getElem?_setIfInBounds_ne hh]; exact h1, h2⟩
  have hround : Sta (ctx Γ.n H (Bs s nv) W) ((p, .rd R x) :: L) (Bs s nv) { tmps := a0.tmps.setIfInBounds p u, defers := [] } W := hst.react (ds' := []) (by simpa using hst.size) rfl hslots
  have hready : rec.state = .ready := by rw [hrec]
  have hb := hok lp rec H W nv x s hready hlp hJ.hl _ W hround s' hY (fun a w h => absurd h.1 (by simp))
  refine wpIn_mono hb ?_
  rintro e a₁ wa ⟨rfl, w₂, hrun, hbody⟩
  refine ⟨w₂, hrun, ?_⟩
  refine wpIn_mono (hbody (fun a w h => absurd h.1 (by simp))) ?_
  rintro e a₃ W3 ⟨rfl, res2, W2, hk2, hr2, hl2, nv', hS⟩
  have hkl : (ctx Γ.n H res2 W2).K lp := hS.hid lp hlp
  have hl3 : W3.heap[lp]? = some (.loop { rec with state := .busy }) := (hS.keep.block lp hkl).trans hl2
  have hend := run_endRound (P := P) none hl3
  have hback : (Obj.loop { { rec with state := .busy } with state := if (none : Option Code).isNone = true then .ready else .done, pending := none }) = .loop rec := by rw [hrec]; rfl
  rw [hback] at hend
  have hlp3 : lp < W3.heap.size := (Array.getElem?_eq_some_iff.1 hl3).1
  have hkeep : Keep (fun b => b < W.heap.size ∧ ¬ Bof (Bs s nv) b ∧ b ≠ lp) W (W3.putObj lp (.loop rec)) := by
    refine ⟨hS.keep.os.trans hk2.os, hS.keep.tape.trans hk2.tape, hS.keep.output.trans hk2.output, ?_, fun b hb => ?_⟩
    · have := Nat.le_trans hk2.size hS.keep.size; simpa using this
    · have h1 : (ctx Γ.n H res2 W2).K b := ⟨Nat.lt_of_lt_of_le hb.1 hk2.size, hr2 b hb.1 hb.2.1⟩
      exact (World.putObj_heap_other hb.2.2).trans ((hS.keep.block b h1).trans (hk2.block b hb))
  have hnB : ∀ b, b < W.heap.size → ¬ Bof (Bs s nv) b → ¬ Bof (Bs s' nv') b := fun b h1 h2 ⟨r, v, c, h3, h4⟩ => hS.own r v c h3 b h4 ⟨Nat.lt_of_lt_of_le h1 hk2.size, hr2 b h1 h2⟩
  have hKn : ∀ b, Γ.K b → b < W.heap.size ∧ ¬ Bof (Bs s nv) b := fun b hb => ⟨Nat.lt_of_lt_of_le (hold b hb) hJ.keep.size, fun ⟨r, v, c, h1, h2⟩ => (hJ.own r v c b h1 h2).1 hb⟩
  have hVn : ∀ b, V b → b < W.heap.size ∧ ¬ Bof (Bs s nv) b := fun b hb => ⟨(hJ.vlt b hb).1, fun ⟨r, v, c, h1, h2⟩ => (hJ.own r v c b h1 h2).2 hb⟩
  have hVl : ∀ b, V b → b ≠ lp := fun b hb e => (hJ.vlt b hb).2 (e ▸ hlp)
  have hDn : D < W.heap.size ∧ ¬ Bof (Bs s nv) D := hst.hid D hDp
  have hturn := hS.turn hlp (.loop rec) (fun b hb => by
    have hk := hS.hid b hb
    exact ⟨by have := Nat.lt_of_lt_of_le hk.1 hS.keep.size; simpa using this, fun ⟨r, v, c, h1, h2⟩ => hS.own r v c h1 b h2 hk⟩)
  have hstay : Stay (Shr H (Bs s nv) W) (Shr H (Bs s' nv') (W3.putObj lp (.loop rec))) W (W3.putObj lp (.loop rec)) := fun b hb => by
    have hbn : ¬ Bof (Bs s nv) b := fun ⟨r, v, c, h1, h2⟩ => hb.2.1 r v c h1 h2
    have hbl : b ≠ lp := fun e => hb.2.2 (e ▸ hlp)
    exact ⟨⟨Nat.lt_of_lt_of_le hb.1 hkeep.size, fun r v c h1 h2 => hnB b hb.1 hbn ⟨r, v, c, h1, h2⟩, hb.2.2⟩, hkeep.block b ⟨hb.1, hbn, hbl⟩⟩
  refine ⟨_, _, hend, rfl, ⟨nv', ?_⟩, ?_⟩
  · refine ⟨hturn.react hst.size hst.defers (fun t e ht => ?_), ?_, ?_, World.putObj_heap_same hlp3, ?_, ?_⟩
    · obtain ⟨v, h1, h2⟩ := hst.slots t e ht
      exact ⟨v, h1, e.mono hstay h2⟩
    · exact hJ.keep.tr hkeep (fun b hb => ⟨(hKn b hb).1, (hKn b hb).2, (hK b hb).1⟩)
    · intro r v c b h1 h2
      exact ⟨fun hb => hnB b (hKn b hb).1 (hKn b hb).2 ⟨r, v, c, h1, h2⟩, fun hb => hnB b (hVn b hb).1 (hVn b hb).2 ⟨r, v, c, h1, h2⟩⟩
    · exact (hkeep.block D ⟨hDn.1, hDn.2, hne⟩).trans hJ.hD
    · exact fun b hb => ⟨Nat.lt_of_lt_of_le (hVn b hb).1 hkeep.size, (hJ.vlt b hb).2⟩
  · exact ⟨hkeep.os, hkeep.tape, hkeep.output, hkeep.size, fun b hb => hkeep.block b ⟨(hVn b hb).1, (hVn b hb).2, hVl b hb⟩⟩
theorem eRound {n lp : Nat} {rec : Loop} {H : Blk} {W W2 : World} {res0 res2 : Res} {Bs : σ → (Nat → Value) → Res} {s' : σ} (vs : List Value) (ns : List Nat)
    (hk : Keep (fun b => b < W.heap.size ∧ ¬ Bof res0 b ∧ b ≠ lp) W W2) (ho : ∀ b, b < W.heap.size → ¬ Bof res0 b → ¬ Bof res2 b) (hl : W2.heap[lp]? = some (.loop { rec with state := .busy })) (hs : SubR res (Bs s' (nvl vs)) ns) :
    GE (Sta (ctx n H res2 W2) l res) .normal (midQ fun s' => roundAs n H lp rec W res0 (Bs s')) (some s') :=
  eMid fun a w ha => ⟨res2, W2, hk, ho, hl, nvl vs, ha.sub ns trivial hs⟩
def dmark (v : Value) : Deferred := { target := .collected ((rblk v).getD 0), args := #[] }
def Cont.mark : Cont := .is (.deferred (some []))
def rngAs (n : Nat) (H : Blk) (rin : Res) (w0 : World) (L : Slots) (rm : Nat) (res : (Nat → Value) → Res) : Asn := fun a w => ∃ (nv : Nat → Value) (d : Value), Sta (ctxD n H rin w0 [dmark d]) L ((rm, some (d, .mark)) :: res nv) a w
theorem gRange {n : Nat} {H : Blk} {rin : Res} {w0 : World} {ib : Nat} {t p : Tmp} {assign body : Code} {R : Rep α} {gf : FuncId} {pin : List Ent} {it : ∀ {σ : Type}, (α → σ → Option σ) → σ → Option σ} {Y : α → σ → Option σ} {s0 : σ}
    (Bs : σ → (Nat → Value) → Res) (L : Slots) (rm : Nat) (vs0 : List Value) (ns : List Nat) (hC : ItC P gf R pin it) (heg : ∀ args w, (callFunc gf args).run P w = .ok (.enter gf args) w) (ht : lk l t = some (.clo gf pin)) (hL : SubS l L) (hS : SubR res (Bs s0 (nvl vs0)) ns)
    (hp : Nat.blt p n = true) (hrm : ∀ s nv, lr (Bs s nv) rm = none) (hok : RoundOk P n R p L assign body Bs Y) :
    G none P (Sta (ctx n H rin w0) l res) (.block ib (.rangeFunc (.tmp t) #[p] assign body)) (midQ fun s' => rngAs n H rin w0 L rm (Bs s')) (it Y s0) := by
  refine gBlk ?_
  intro a w ha s' hit
  refine (wpIn_wide (n := 0)).1 (wpIn_rangeFunc ?_)
  intro fn hfn
  obtain ⟨vs, hvs, hev⟩ := ha.vl (x := .tmp t) (e := .clo gf pin) ht
  have hsub : Sta (ctx n H rin w0) L (Bs s0 (nvl vs0)) a w := ha.sub ns hL hS
  obtain ⟨rec, hrec⟩ : ∃ rec : Loop, rec = { state := .ready, pending := none, fn, tmps := a.tmps, params := #[p], assign, body, defers := w.heap.size } := ⟨_, rfl⟩
  obtain ⟨W1, hW1⟩ : ∃ W1, (w.alloc (.deferred (some []))).alloc (.loop rec) = W1 := ⟨_, rfl⟩
  have hL1 : W1.heap[w.heap.size + 1]? = some (.loop rec) := by
    rw [← hW1]; have := World.alloc_heap_new (w.alloc (.deferred (some []))) (.loop rec); rwa [World.size_alloc] at this
  have hK1 : W1.heap[w.heap.size]? = some (.deferred (some [])) := by
    rw [← hW1]; exact (Below.heap_alloc _ _ _ (by simp)).trans (World.alloc_heap_new w _)
  have hext : Ext w W1 := by
    rw [← hW1]
    have h2 := (((Below.refl _ w).alloc (Nat.le_refl _) (.deferred (some []))).alloc (by simp) (.loop rec))
    exact h2
  have hsz : W1.heap.size = w.heap.size + 2 := by rw [← hW1]; simp
  obtain ⟨H', hH'⟩ : ∃ H' : Blk, H' = fun b => H b ∨ b = w.heap.size ∨ b = w.heap.size + 1 := ⟨_, rfl⟩
  obtain ⟨V, hV⟩ : ∃ V : Blk, V = Shr H (Bs s0 (nvl vs0)) w := ⟨_, rfl⟩
  have hVlt : ∀ b, V b → b < w.heap.size := fun b hb => by rw [hV] at hb; exact hb.1
  have hold : ∀ b, (ctx n H rin w0).K b → b < w.heap.size := fun b hb => Nat.lt_of_lt_of_le hb.1 ha.keep.size
  have hst : Stay (Shr H (Bs s0 (nvl vs0)) w) (Shr H' (Bs s0 (nvl vs0)) W1) w W1 := fun b hb => ⟨⟨by have := hb.1; omega, hb.2.1, fun hh => by rw [hH'] at hh; rcases hh with hh | hh | hh; exact hb.2.2 hh; have := hb.1; omega; have := hb.1; omega⟩, hext.block b hb.1⟩
  have hown1 : ∀ r v c b, lr (Bs s0 (nvl vs0)) r = some (v, c) → rblk v = some b → b < w.heap.size := fun r v c b h1 h2 => (hsub.conts r v c h1).lt h2
  have hJ0 : RngJ P (ctx n H rin w0) L a H' V (w.heap.size + 1) w.heap.size rec (Bs s0 (nvl vs0)) W1 := by
    refine ⟨⟨hsub.size, hsub.defers, fun t e h => ?_, fun r v c h => ?_, hsub.excl, fun r v c h b hb hk => hk.2 ⟨r, v, c, h, hb⟩, Keep.rfl', fun b hb => hb.1, fun b hb => ?_⟩, ?_, ?_, hL1, hK1, fun b hb => ⟨by have := hVlt b hb; omega, fun hh => ?_⟩⟩
    · obtain ⟨v, h1, h2⟩ := hsub.slots t e h; exact ⟨v, h1, e.mono hst h2⟩
    · exact (hsub.conts r v c h).mono hst (fun b hb => hext.block b (hown1 r v c b h hb))
    · rw [hH'] at hb
      rcases hb with hb | hb | hb
      · have hk := hsub.hid b hb
        exact ⟨by have := hold b hk; omega, fun ⟨r, v, c, h1, h2⟩ => hsub.own r v c h1 b h2 hk⟩
      · subst hb; exact ⟨by omega, fun ⟨r, v, c, h1, h2⟩ => by have := hown1 r v c _ h1 h2; omega⟩
      · subst hb; exact ⟨by omega, fun ⟨r, v, c, h1, h2⟩ => by have := hown1 r v c _ h1 h2; omega⟩
    · exact hsub.keep.ext hsub.old hext
    · intro r v c b h1 h2
      exact ⟨hsub.own r v c h1 b h2, fun hb => by rw [hV] at hb; exact hb.2.1 r v c h1 h2⟩
    · have hb2 := hVlt b hb
      rw [hV] at hb
      rw [hH'] at hh
      rcases hh with hh | hh | hh
      · exact hb.2.2 hh
      · omega
      · omega
  have hpinV : holdsL V W1 pin vs := by
    refine hvs.mono (fun b hb => ⟨?_, hext.block b hb.1⟩)
    rw [hV]; exact (hS.stay b hb).1
  refine ⟨w.heap.size + 1, [{ target := .collected w.heap.size, args := #[] }], W1, { target := .fn (.func gf) vs.toArray, args := #[.func (.yield (w.heap.size + 1)) #[] #[]] }, W1, gf,
    #[.func (.yield (w.heap.size + 1)) #[] #[]] ++ vs.toArray, W1, ?_, ?_, fun _ _ => trivial, ?_, (fun h => by cases h), ?_⟩
  · rw [← hW1, hrec]; exact run_enterLoop_outer _ _ _ _ _
  · simp only [rangeCall, resolve, hev]
    simp [go_sem]
  · simp [invoke, go_sem, heg]
  · refine callsIn_wide.2 ?_
    refine (hC.run Y (fun V s W => ∃ nv, RngJ P (ctx n H rin w0) L a H' V (w.heap.size + 1) w.heap.size rec (Bs s nv) W) V (w.heap.size + 1) vs W1 s0 s' hit hpinV ⟨_, hJ0⟩ (fun V s W h b hb => by obtain ⟨nv, h⟩ := h; exact (h.vlt b hb).1) ?_ ?_).mono ?_
    · rintro V s W W' ⟨nv, h⟩ k
      exact ⟨nv, h.ext (fun b hb => hb.1) k⟩
    · rintro V s s2 x u W hY ⟨nv, h⟩ hu
      have hr := RngJ.round (Γ := ctx n H rin w0) (V := V) hok rfl hp hrec (by rw [hH']; exact .inr (.inr rfl)) (by rw [hH']; exact .inr (.inl rfl)) (by omega) (fun b hb => by have := hold b hb; exact ⟨by omega, by omega⟩) (fun b hb => hb.1) h
        ((Ent.rd R x).mono (S := V) (fun b hb => ⟨⟨(h.vlt b hb).1, fun r v c h1 h2 => (h.own r v c b h1 h2).2 hb, (h.vlt b hb).2⟩, rfl⟩) hu) hY
      exact hr
    · rintro e W' ⟨⟨v, rfl⟩, V', nv, hj⟩
      have hend := run_endLoop (P := P) hj.hl (by rw [hrec]; simp)
      have hpn : rec.pending = none := by rw [hrec]
      generalize hoo : Obj.loop { rec with state := .exhausted } = o at hend
      rw [hpn] at hend
      refine ⟨none, _, hend, rfl, nv, .pointer (some ⟨w.heap.size, 0, none⟩), ?_⟩
      have hturn := hj.st.turn (by rw [hH']; exact .inr (.inr rfl)) o (fun b hb => by
        have := hj.st.hid b hb
        exact ⟨by simpa using this.1, this.2⟩)
      have hDn := hj.st.hid w.heap.size (by rw [hH']; exact .inr (.inl rfl))
      have hlr : ∀ r v c, lr ((rm, some (Value.pointer (some ⟨w.heap.size, 0, none⟩), Cont.mark)) :: Bs s' nv) r = some (v, c) → (r = rm ∧ v = .pointer (some ⟨w.heap.size, 0, none⟩) ∧ c = .mark) ∨ (r ≠ rm ∧ lr (Bs s' nv) r = some (v, c)) := fun r v c h => by
        rw [lr_cons] at h
        split at h
        · rename_i hh; cases h; exact .inl ⟨hh.symm, rfl, rfl⟩
        · rename_i hh; exact .inr ⟨fun e => hh e.symm, h⟩
      have hstay : Stay (Shr H' (Bs s' nv) (W'.putObj (w.heap.size + 1) o)) (Shr H ((rm, some (Value.pointer (some ⟨w.heap.size, 0, none⟩), Cont.mark)) :: Bs s' nv) (W'.putObj (w.heap.size + 1) o)) (W'.putObj (w.heap.size + 1) o) (W'.putObj (w.heap.size + 1) o) := fun b hb => ⟨⟨hb.1, fun r v c h1 h2 => by
        rcases hlr r v c h1 with ⟨_, rfl, _⟩ | ⟨_, h3⟩
        · simp only [rblk, Option.some.injEq] at h2
          exact hb.2.2 (by rw [hH']; exact .inr (.inl h2.symm))
        · exact hb.2.1 r v c h3 h2, fun hh => hb.2.2 (by rw [hH']; exact .inl hh)⟩, rfl⟩
      have hD2 : (W'.putObj (w.heap.size + 1) o).heap[w.heap.size]? = some (.deferred (some [])) := (World.putObj_heap_other (by omega)).trans hj.hD
      refine ⟨hsub.size, by simp [dmark, rblk, hsub.defers], fun t e h => ?_, fun r v c h => ?_, fun r v c r2 v2 c2 h h' hne b hb hb2 => ?_, fun r v c h b hb hk => ?_, ?_, fun b hb => hb.1, hsub.hid⟩
      · obtain ⟨v, h1, h2⟩ := hturn.slots t e h; exact ⟨v, h1, e.mono hstay h2⟩
      · rcases hlr r v c h with ⟨_, rfl, rfl⟩ | ⟨_, h3⟩
        · exact .inr ⟨w.heap.size, _, rfl, hD2, rfl⟩
        · exact (hturn.conts r v c h3).mono hstay (fun _ _ => rfl)
      · rcases hlr r v c h with ⟨e1, rfl, _⟩ | ⟨_, h3⟩ <;> rcases hlr r2 v2 c2 h' with ⟨e2, rfl, _⟩ | ⟨_, h4⟩
        · exact hne (e1.trans e2.symm)
        · simp only [rblk, Option.some.injEq] at hb; subst hb; exact hDn.2 ⟨_, _, _, h4, hb2⟩
        · simp only [rblk, Option.some.injEq] at hb2; subst hb2; exact hDn.2 ⟨_, _, _, h3, hb⟩
        · exact hturn.excl r v c r2 v2 c2 h3 h4 hne b hb hb2
      · rcases hlr r v c h with ⟨_, rfl, _⟩ | ⟨_, h3⟩
        · simp only [rblk, Option.some.injEq] at hb; subst hb; have := hold _ hk; omega
        · exact (hj.own r v c b h3 hb).1 hk
      · exact ⟨hj.keep.os, hj.keep.tape, hj.keep.output, by have := hj.keep.size; simpa using this, fun b hb => (World.putObj_heap_other (by have := hold b hb; omega)).trans (hj.keep.block b hb)⟩
def endM {ρ : Type} (P : Program) (fn : Func) (H : Blk) (rin : Res) (q : ρ → (Nat → Value) → Post) (w : World) : ρ → Exit → Act → World → Prop := fun r => bodyPostM Fence.wide 0 P fn (endR H rin (q r) w)
theorem specM {ρ : Type} {P : Program} {f : FuncId} {fn : Func} {c : Code} {pin : List Ent} {rin : Res} {m : Option ρ} {q : ρ → (Nat → Value) → Post} (n : Nat) (hf : P.funcs[f]? = some fn) (hb : fn.body = some c) (hn : fn.ntmps = n) (hl : Nat.ble pin.length n = true)
    (h : ∀ H w, G none P (Sta (ctx n H rin w) (argS 0 pin) rin) c (endM P fn H rin q w) m) : Spec P f pin rin m q := by
  intro r hr H vs w hvs hR
  have hl : pin.length ≤ n := Nat.le_of_ble_eq_true hl
  have hlen := hvs.length
  subst hn
  refine (callsIn_wide (n := 0)).1 (callsIn_of_wp_marks hf hb trivial (wpIn_wide.2 (h H w _ w ?_ r hr)))
  refine ⟨by simp; omega, rfl, fun t e ht => ?_, hR.conts, hR.excl, fun r v c h1 b h2 h3 => h3.2 ⟨r, v, c, h1, h2⟩, Keep.rfl', fun b hb => hb.1, fun b hb => hR.hid b hb⟩
  obtain ⟨-, v, h1, h2⟩ := argS_get hvs ht
  refine ⟨v, ?_, h2⟩
  simp only [Nat.sub_zero] at h1
  have hlt : t < vs.length := (List.getElem?_eq_some_iff.1 h1).1
  rw [Array.getElem?_append_left (by simpa using hlt)]
  simpa using h1
theorem eRet0 {ρ : Type} {P : Program} {fn : Func} {n : Nat} {H : Blk} {rin : Res} {w0 : World} {q : ρ → (Nat → Value) → Post} {r : ρ} {l : Slots} {res : Res} {rs : List ResultVar} (vs : List Value) (ns : List Nat) (hr : fn.results = rs.toArray) (h : ResE P l res rs (q r (nvl vs)).ret) (hs : SubR res (q r (nvl vs)).res ns) :
    GE (Sta (ctx n H rin w0) l res) .ret (endM P fn H rin q w0) (some r) := fun a w ha r' hr' => by
  obtain ⟨hd, h2⟩ := eRet vs ns hr h hs a w ha r' hr'
  show LeavesInM Fence.wide 0 P fn a.tmps _ a.defers .returning w
  rw [hd]; exact h2
theorem dmark_target (d : Value) : (dmark d).target = .collected ((rblk d).getD 0) := rfl
theorem Sta.close {n : Nat} {H : Blk} {rin : Res} {w0 : World} {a : Act} {w : World} {d : Value} (rm : Nat) (h : Sta (ctxD n H rin w0 [dmark d]) l res a w) (hr : lr res rm = some (d, .mark)) : ∃ w', (Instr.takeDeferred ((rblk d).getD 0)).run P w = .ok [] w' ∧ Sta (ctx n H rin w0) l ((rm, none) :: res) { a with defers := [] } w' := by
  rcases h.conts rm d _ hr with h0 | ⟨b, o, hb, ho, hoo⟩
  · exact h0.elim
  · have hoo : o = .deferred (some []) := hoo
    subst hoo
    refine ⟨_, by rw [hb]; exact run_takeDeferred ho, ?_⟩
    simp only [Option.getD_some]
    have hlr : ∀ r v c, lr ((rm, none) :: res) r = some (v, c) → r ≠ rm ∧ lr res r = some (v, c) := fun r v c h => by
      rw [lr_cons] at h
      split at h
      · cases h
      · rename_i hh; exact ⟨fun e => hh e.symm, h⟩
    have hoth : ∀ c, c ≠ b → (w.putObj b (.deferred none)).heap[c]? = w.heap[c]? := fun c hc => World.putObj_heap_other hc
    have hstay : Stay (Shr H res w) (Shr H ((rm, none) :: res) (w.putObj b (.deferred none))) w (w.putObj b (.deferred none)) := fun c hc => ⟨⟨by simpa using hc.1, fun r v c' h1 => hc.2.1 r v c' (hlr r v c' h1).2, hc.2.2⟩, hoth c (fun e => hc.2.1 rm d _ hr (e ▸ hb))⟩
    have hbK := h.own rm d _ hr b hb
    refine ⟨h.size, rfl, fun t e ht => ?_, fun r v c h1 => ?_, fun r v c r2 v2 c2 h1 h2 hne => h.excl r v c r2 v2 c2 (hlr r v c h1).2 (hlr r2 v2 c2 h2).2 hne, fun r v c h1 => h.own r v c (hlr r v c h1).2, ⟨h.keep.os, h.keep.tape, h.keep.output, by simpa using h.keep.size, fun c hc => (hoth c (fun e => hbK (e ▸ hc))).trans (h.keep.block c hc)⟩, h.old, h.hid⟩
    · obtain ⟨v, h1, h2⟩ := h.slots t e ht; exact ⟨v, h1, e.mono hstay h2⟩
    · obtain ⟨hne, h2⟩ := hlr r v c h1
      exact (h.conts r v c h2).mono hstay (fun c' hc' => hoth c' (fun e => h.excl r v c rm d _ h2 hr hne b (e ▸ hc') hb))
theorem eRetM {ρ : Type} {P : Program} {fn : Func} {n : Nat} {H : Blk} {rin : Res} {w0 : World} {q : ρ → (Nat → Value) → Post} {r : ρ} {l : Slots} {res : Res} {rs : List ResultVar} {d : Value} (rm : Nat) (vs : List Value) (ns : List Nat) (hm : lr res rm = some (d, .mark)) (hr : fn.results = rs.toArray) (h : ResE P l ((rm, none) :: res) rs (q r (nvl vs)).ret) (hs : SubR ((rm, none) :: res) (q r (nvl vs)).res ns) :
    GE (Sta (ctxD n H rin w0 [dmark d]) l res) .ret (endM P fn H rin q w0) (some r) := fun a w ha r' hr' => by
  obtain ⟨w', h1, h2⟩ := ha.close (P := P) rm hm
  obtain ⟨-, h3⟩ := eRet vs ns hr h hs _ w' h2 r' hr'
  show LeavesInM Fence.wide 0 P fn a.tmps _ a.defers .returning w
  rw [ha.defers]
  exact ⟨by simp, .inl ⟨_, w', dmark_target d, h1, h3⟩⟩
end
end Go.Proofs.Ytklfgpdfongaeaa
namespace Go.Proofs.Ytklfgpdfongaeaa
open Go Go.RowKit
set_option linter.unusedSimpArgs false
set_option linter.unusedVariables false
section
variable {P : Program} {ops : Array Oper} {Q : Exit → Act → World → Prop}
theorem op_wide {o : Oper} {a : Act} {w : World} {Q0 : Exit → Act → World → Prop} {next next' : Act → World → Prop} (hn : ∀ a w, next a w → next' a w) (hq : ∀ e a w, Q0 e a w → Q e a w) (h : o.wp P a w next Q0) : o.wpIn Fence.wide 0 P a w next' Q := by
  refine ⟨fun _ _ => trivial, ?_⟩
  have e : o.semAt Fence.wide.round a.eval = execOp a.eval o := rfl
  rw [e]
  unfold Oper.wp at h
  generalize (execOp a.eval o).run P w = r at h ⊢
  cases r with
  | ok x w' =>
    cases x with
    | enter f args =>
      refine ⟨fun hh => (by cases hh), callsIn_wide.2 ?_⟩
      have h : Calls P f args w' _ := h
      refine h.mono ?_
      intro e w'' he
      cases e with
      | returned v => exact hn _ _ he
      | panicked ch => exact hq _ _ _ he
      | outgrown => obtain ⟨a1, w1, h1⟩ := he; exact ⟨a1, w1, hq _ _ _ h1⟩
    | row r args => exact ⟨fun hh => (by cases hh), fun c cs _ => let ⟨v, w'', r, st⟩ := h c cs; ⟨v, w'', hn _ _ r, stepsIn_wide.2 st⟩⟩
    | round l f tmps assign body => exact False.elim h
    | value v => exact hn _ _ h
    | skip => exact hn _ _ h
    | defer d => exact hn _ _ h
    | _ => exact False.elim h
  | halt x w' => cases x <;> first | exact hq _ _ _ h | exact h
def restX (P : Program) (ops : Array Oper) (Q : Exit → Act → World → Prop) (os : List Oper) (e : Exit) (a : Act) (w : World) : Prop := e = .normal ∧ wpListIn Fence.wide 0 P ops Q os a w
theorem list_then {os2 : List Oper} : ∀ (os1 : List Oper) (a : Act) (w : World), wpList P ops (restX P ops Q os2) os1 a w → wpListIn Fence.wide 0 P ops Q (os1 ++ os2) a w
  | [], _, _, h => h.2
  | o :: os, a, w, h => by
    unfold wpList at h
    simp only [List.cons_append]
    unfold wpListIn
    have hno : ∀ a w, ¬ restX P ops Q os2 .outgrown a w := fun a w hh => absurd hh.1 (by simp)
    by_cases hw : Region.wanted o (yielded ops a.tmps) = true
    · rw [if_pos hw] at h ⊢
      rcases h with h | ⟨-, a', w', hh⟩
      · have h2 : o.wpIn Fence.wide 0 P a w (wpListIn Fence.wide 0 P ops Q (os ++ os2)) (restX P ops Q os2) := op_wide (fun a w => list_then os a w) (fun _ _ _ h => h) h
        unfold Oper.wpIn at h2 ⊢
        refine ⟨h2.1, ?_⟩
        have h2 := h2.2
        generalize (o.semAt Fence.wide.round a.eval).run P w = r at h2 ⊢
        have hx : ∀ ch, ¬ restX P ops Q os2 (.panic ch) a w := fun ch hh => absurd hh.1 (by simp)
        cases r with
        | ok x w' =>
          cases x with
          | enter f args => exact ⟨h2.1, CallsIn.mono h2.2 (fun e w'' he => by
              cases e with
              | returned v => exact he
              | panicked ch => exact absurd he.1 (by simp)
              | outgrown => obtain ⟨a1, w1, h1⟩ := he; exact absurd h1.1 (by simp))⟩
          | row r args => exact h2
          | round l f tmps assign body => exact ⟨h2.1, RoundIn.mono h2.2 (fun e w'' he => by
              cases e with
              | returned v => exact he
              | panicked ch => exact absurd he.1 (by simp)
              | outgrown => obtain ⟨a1, w1, h1⟩ := he; exact absurd h1.1 (by simp))⟩
          | value v => exact h2
          | skip => exact h2
          | defer d => exact h2
          | _ => exact h2
        | halt x w' => cases x <;> first | exact absurd h2.1 (by simp) | exact h2
      · exact absurd hh (hno _ _)
    · rw [if_neg hw] at h ⊢
      exact ⟨fun _ _ => trivial, list_then os _ w h⟩
theorem list_wide (ho : ∀ a w, ¬ Q .outgrown a w) : ∀ (os : List Oper) (a : Act) (w : World), wpList P ops Q os a w → wpListIn Fence.wide 0 P ops Q os a w
  | [], _, _, h => h
  | o :: os, a, w, h => by
    unfold wpList at h
    unfold wpListIn
    by_cases hw : Region.wanted o (yielded ops a.tmps) = true
    · rw [if_pos hw] at h ⊢
      rcases h with h | ⟨-, a', w', hh⟩
      · exact op_wide (fun a w => list_wide ho os a w) (fun _ _ _ h => h) h
      · exact absurd hh (ho _ _)
    · rw [if_neg hw] at h ⊢
      exact ⟨fun _ _ => trivial, list_wide ho os _ w h⟩
end
structure IEnv (P : Program) {α : Type} (R : Rep α) (σ : Type) where
  Y : α → σ → Option σ
  J : Blk → σ → World → Prop
  l : Nat
  hV : ∀ V s W, J V s W → ∀ b, V b → b < W.heap.size
  hext : ∀ V s W W', J V s W → Ext W W' → J (Since V W W') s W'
  round : ∀ V s s' x u W, Y x s = some s' → J V s W → (Ent.rd R x).holds V W u → YieldAt Fence.wide 0 P l #[u] W fun e W' => e = .returned (.bool true) ∧ J V s' W' ∧ Keep V W W'
section
variable {P : Program} {α σ ρ : Type} {R : Rep α}
abbrev ctxI (n : Nat) (V : Blk) (W : World) : Ctx := ⟨n, fun b => b < W.heap.size, fun b => b < W.heap.size ∧ ¬ V b, W, []⟩
def endI (P : Program) (fn : Func) (E : IEnv P R σ) : σ → Exit → Act → World → Prop := fun s' => bodyPost P fn (fun e W' => (∃ v, e = .returned v) ∧ ∃ V, E.J V s' W')
def iAs (E : IEnv P R σ) (n : Nat) (l : Slots) (s : σ) : Asn := fun a w => ∃ V W, E.J V s W ∧ Sta (ctxI n V W) l [] a w
theorem gExI {E : IEnv P R σ} {n : Nat} {l : Slots} {s : σ} {c : Code} {Q : ρ → Exit → Act → World → Prop} {m : Option ρ} (h : ∀ V W, E.J V s W → G none P (Sta (ctxI n V W) l []) c Q m) : G none P (iAs E n l s) c Q m := fun a w ⟨V, W, h1, h2⟩ => h V W h1 a w h2
theorem sinceI {V : Blk} {W w : World} {n b : Nat} (h : Shr (ctxI n V W).H [] w b) : Since V W w b := by
  by_cases hb : b < W.heap.size
  · exact .inl (Classical.byContradiction fun hv => h.2.2 ⟨hb, hv⟩)
  · exact .inr ⟨by omega, h.1⟩
theorem specI {gf : FuncId} {fn : Func} {c : Code} {pin : List Ent} {it : ∀ {σ : Type}, (α → σ → Option σ) → σ → Option σ} (n : Nat) (hf : P.funcs[gf]? = some fn) (hb : fn.body = some c) (hn : fn.ntmps = n) (hl : Nat.ble (pin.length + 1) n = true)
    (h : ∀ {σ : Type} (E : IEnv P R σ) (V : Blk) (W : World) (s : σ), E.J V s W → G none P (Sta (ctxI n V W) (argS 0 (.val (.func (.yield E.l) #[] #[]) :: pin)) []) c (endI P fn E) (it E.Y s)) : ItC P gf R pin it := by
  refine ⟨?_⟩
  intro σ Y J V l vs w s s' hit hvs hJ hV hext hround
  have hl : pin.length + 1 ≤ n := Nat.le_of_ble_eq_true hl
  have hlen := hvs.length
  subst hn
  obtain ⟨E, hE⟩ : ∃ E : IEnv P R σ, E = ⟨Y, J, l, hV, hext, hround⟩ := ⟨_, rfl⟩
  have hat : E.J V s w := by rw [hE]; exact hJ
  have hw := h E V w s hat
  have e1 : it E.Y s = some s' := by rw [hE]; exact hit
  have hargs : (#[Value.func (.yield l) #[] #[]] ++ vs.toArray) = ((Value.func (.yield l) #[] #[] :: vs).toArray) := by simp
  rw [hargs]
  have hcall : Calls P gf (Value.func (.yield l) #[] #[] :: vs).toArray w (fun e W' => (∃ v, e = .returned v) ∧ ∃ V', E.J V' s' W') := by
    refine calls_of_wp hf hb (hw _ w ?_ s' e1)
    have hvs2 : holdsL (Shr (ctxI fn.ntmps V w).H [] w) w (.val (.func (.yield E.l) #[] #[]) :: pin) (Value.func (.yield l) #[] #[] :: vs) := by
      refine ⟨⟨by rw [hE], rfl⟩, hvs.mono (fun b hb => ⟨⟨hV _ _ _ hJ b hb, fun r v c h => by (cases h), fun hh => hh.2 hb⟩, rfl⟩)⟩
    refine ⟨by simp; omega, rfl, fun t e ht => ?_, fun r v c h => by (cases h), fun r v c r' v' c' h => by (cases h), fun r v c h => by (cases h), Keep.rfl', fun b hb => hb, fun b hb => hb.1⟩
    obtain ⟨-, v, h1, h2⟩ := argS_get hvs2 ht
    refine ⟨v, ?_, h2⟩
    simp only [Nat.sub_zero] at h1
    have hlt : t < (Value.func (.yield l) #[] #[] :: vs).length := (List.getElem?_eq_some_iff.1 h1).1
    rw [Array.getElem?_append_left (by simpa using hlt)]
    simpa using h1
  have hEJ : E.J = J := by rw [hE]
  rw [hEJ] at hcall
  exact hcall
variable {E : IEnv P R σ} {V : Blk} {W : World} {l : Slots} {res : Res} {n : Nat} {s : σ}
theorem Sta.atI {a : Act} {w : World} (h : Sta (ctxI n V W) l res a w) : Ext W w := by
  have k := h.keep
  exact ⟨k.os, k.tape, k.output, k.size, fun b hb => k.block b hb⟩
theorem eEndI {fn : Func} (hat : E.J V s W) (hr : fn.results = #[]) : GE (Sta (ctxI n V W) l res) .normal (endI P fn E) (some s) := fun a w ha r' hr' => by
  cases hr'
  exact bodyPost_end (v := .tuple #[]) (by rw [results_none hr]) ha.defers ⟨⟨_, rfl⟩, _, E.hext _ _ _ _ hat ha.atI⟩
def OutF {ρ : Type} (Q : ρ → Exit → Act → World → Prop) : Prop := ∀ r a w, ¬ Q r .outgrown a w
variable {Q : ρ → Exit → Act → World → Prop}
theorem out_then {ro : Option Nat} {y : Code} (h : OutF Q) : OutF (thenQ ro P y Q) := h
theorem out_blk {i : Nat} (h : OutF Q) : OutF (blkQ i Q) := h
theorem out_mid {τ : Type} {Bs : τ → Asn} : OutF (midQ Bs) := fun r a w h => absurd h.1 (by simp)
theorem out_midR {τ : Type} {Bs : τ → Asn} (h : OutF Q) : OutF (midR Bs Q) := fun r a w hh => by
  cases r with
  | inl r => exact h _ _ _ hh.2
  | inr t => exact absurd hh.1 (by simp)
theorem out_loop {β τ : Type} {i : Nat} {As : τ → Asn} {M : β → Exit → Act → World → Prop} (h : OutF M) : OutF (loopQ i As M) := fun r a w hh => by
  cases r with
  | inl r => exact h _ _ _ hh.2
  | inr t => exact absurd hh.1 (by simp)
theorem out_endI {fn : Func} : OutF (endI P fn E) := fun r a w h => by
  obtain ⟨⟨v, h⟩, -⟩ : ((∃ v, Ending.outgrown = .returned v) ∧ ∃ V, E.J V r w) := h
  cases h
class OutC {ρ : Type} (Q : ρ → Exit → Act → World → Prop) : Prop where
  out : OutF Q
instance outc_then {ro : Option Nat} {y : Code} [h : OutC Q] : OutC (thenQ ro P y Q) := ⟨out_then h.out⟩
instance outc_blk {i : Nat} [h : OutC Q] : OutC (blkQ i Q) := ⟨out_blk h.out⟩
instance outc_mid {τ : Type} {Bs : τ → Asn} : OutC (midQ Bs) := ⟨out_mid⟩
instance outc_midR {τ : Type} {Bs : τ → Asn} [h : OutC Q] : OutC (midR Bs Q) := ⟨out_midR h.out⟩
instance outc_loop {β τ : Type} {i : Nat} {As : τ → Asn} {M : β → Exit → Act → World → Prop} [h : OutC M] : OutC (loopQ i As M) := ⟨out_loop h.out⟩
instance outc_endI {fn : Func} : OutC (endI P fn E) := ⟨out_endI⟩
def restQ (P : Program) (ops : List Oper) (os : List Oper) (Q : ρ → Exit → Act → World → Prop) : ρ → Exit → Act → World → Prop := fun r => restX P ops.toArray (Q r) os
theorem gRegY {A : Asn} {m : Option ρ} {id : Nat} {os : List Oper} (k : Nat) (h : GL P os A (os.take k) (restQ P os (os.drop k) Q) m) : G none P A (.region id os.toArray false) Q m := fun a w ha r hr => by
  refine (wpIn_wide (n := 0)).1 (wpIn_region_lit ?_)
  have := list_then (os2 := os.drop k) (os.take k) a w (h a w ha r hr)
  rwa [List.take_append_drop] at this
theorem eYield {κ : σ → Option ρ} {ops rest : List Oper} {d : Tmp} {t xo : Operand} {T ty : TypeId} {pos : String} {after : Array Edge} {x : α} (hat : E.J V s W)
    (ht : opE l t = some (.val (.func (.yield E.l) #[] #[]))) (hx : opE l xo = some (.rd R x)) (hd : Nat.blt d n = true)
    (k : ∀ s' V' W', E.J V' s' W' → GL P ops (Sta (ctxI n V' W') ((d, .rd boolR true) :: l) []) rest Q (κ s')) [hoc : OutC Q] :
    GE (Sta (ctxI n V W) l []) .normal (restQ P ops (⟨some d, .call ⟨.value t, #[xo], #[T]⟩, ty, pos, after, none⟩ :: rest) Q) (E.Y x s >>= κ) := fun a w ha r hr => by
  cases hy : E.Y x s with
  | none => rw [hy] at hr; cases hr
  | some s' =>
    rw [hy] at hr
    have hr : κ s' = some r := hr
    refine ⟨rfl, ?_⟩
    unfold wpListIn
    rw [if_pos (by rfl)]
    refine ⟨fun _ _ => trivial, ?_⟩
    obtain ⟨fn, tmps, assign, body, hyr, hri⟩ := E.round _ _ _ _ (a.eval xo) _ hy (E.hext _ _ _ _ hat ha.atI) ((Ent.rd R x).mono (fun b hb => ⟨sinceI hb, rfl⟩) (ha.vl hx))
    have hrun : (execOp a.eval ⟨some d, .call ⟨.value t, #[xo], #[T]⟩, ty, pos, after, none⟩).run P w = .ok (.round E.l fn tmps assign body) w := by
      have e1 : a.eval t = .func (.yield E.l) #[] #[] := (ha.vl ht).1
      simp [execOp, resolve, e1, Deferred.ofValue, invoke, hyr]
    have e : (Oper.semAt Fence.wide.round a.eval ⟨some d, .call ⟨.value t, #[xo], #[T]⟩, ty, pos, after, none⟩) = execOp a.eval ⟨some d, .call ⟨.value t, #[xo], #[T]⟩, ty, pos, after, none⟩ := rfl
    rw [e, hrun]
    refine ⟨fun hh => by (cases hh), hri.mono ?_⟩
    rintro e' W' ⟨rfl, hJ', hK⟩
    refine list_wide (fun a w => hoc.out r a w) _ _ _ (k s' _ _ hJ' _ W' ?_ r hr)
    have hst : Stay (Shr (ctxI n V W).H [] w) (Shr (ctxI n (Since V W w) W').H [] W') w W' := fun b hb => ⟨⟨Nat.lt_of_lt_of_le hb.1 hK.size, fun r v c h => by (cases h), fun hh => hh.2 (sinceI hb)⟩, hK.block b (sinceI hb)⟩
    have h0 : Sta (ctxI n (Since V W w) W') l [] a W' := ⟨ha.size, ha.defers, fun t e h => by obtain ⟨v, h1, h2⟩ := ha.slots t e h; exact ⟨v, h1, e.mono hst h2⟩, fun r v c h => by (cases h), fun r v c r' v' c' h => by (cases h), fun r v c h => by (cases h), Keep.rfl', fun b hb => hb, fun b hb => hb.1⟩
    exact h0.put hd ⟨_, rfl, rfl⟩
end
theorem Rd.top {w : World} {p : Option Addr} {m c sz j : Nat} {xs : List Value} (h : Rd w (.slice p m c) m sz xs) (hj : j ≤ m) : Rd w (.slice p j j) j sz (xs.take (j * sz)) := by
  have hl := h.1
  have : j * sz ≤ m * sz := Nat.mul_le_mul_right _ hj
  refine ⟨by rw [List.length_take, hl]; exact Nat.min_eq_left this, ?_⟩
  rcases h.2 with ⟨hv, rfl⟩ | ⟨b, o, sp, cap, hv, h2, h3, hsp, h4⟩
  · simp only [Value.slice.injEq] at hv
    have : j = 0 := by omega
    subst j
    exact .inl ⟨by rw [hv.1], rfl⟩
  · simp only [Value.slice.injEq, true_and] at hv
    obtain ⟨rfl, rfl⟩ := hv
    refine .inr ⟨b, o, sp, j, rfl, Nat.le_refl _, by omega, hsp.imp (fun e => by simp [e]) id, fun q u hu => h4 q u ?_⟩
    rw [List.getElem?_take] at hu
    split at hu
    · exact hu
    · cases hu
section
variable {C : World → World → Prop} {P : Program} {Γ : Ctx} {l : Slots} {res : Res} {d : Tmp} {ty : TypeId} {pos : String} {after : Array Edge} {g : Option (Nat × Bool)}
theorem cut3 {α : Type} {R : Rep α} {b b' : List α} {x lo hi mx : Operand} {i j : Int} {T e : TypeId} {z : Value} {by_ : Nat} (hx : opE l x = some (.rd (sliceR R) b)) (hlo : opE l lo = some (.rd i64R i)) (hhi : opE l hi = some (.rd i64R j)) (hmx : opE l mx = some (.rd i64R j)) (hb : cut b i j = some b')
    (hT : P.underlying T = some (.slice e)) (hE : TI P e z R.sz by_) : Run C P Γ l res ⟨some d, .slice T x (some lo) (some hi) (some mx), ty, pos, after, g⟩ (.rd (sliceR R) b') := fun a w ha => by
  obtain ⟨h1, h2, h3, rfl⟩ := cut_some hb
  obtain ⟨cs, ⟨p, c, xs, k1, k2, k3, k4⟩, k5⟩ := ha.vl hx
  subst k1
  have k5 : a.eval x = .slice p b.length c := k5
  have hcap : b.length ≤ c := by
    rcases k2.2 with ⟨hv, h0⟩ | ⟨_, o, sp, cap, hv, g1, _⟩
    · omega
    · simp only [Value.slice.injEq, true_and] at hv; omega
  have hlen : ((b.drop i.toNat).take (j.toNat - i.toNat)).length = j.toNat - i.toNat := by simp; omega
  have htop := k2.top (j := j.toNat) (by omega)
  have hsub := htop.sub rfl (i := i.toNat) (j := j.toNat) (by omega) (Nat.le_refl _)
  have hlst : (b.drop i.toNat).take (j.toNat - i.toNat) = ((b.take j.toNat).drop i.toNat).take (j.toNat - i.toNat) := by
    rw [List.drop_take, List.take_take]; simp
  have elo : a.eval lo = .int .i64 i := rd_num (ha.vl hlo)
  have ehi : a.eval hi = .int .i64 j := rd_num (ha.vl hhi)
  have emx : a.eval mx = .int .i64 j := rd_num (ha.vl hmx)
  refine ⟨.slice (if j.toNat = i.toNat then p else p.map (·.add (i.toNat * R.sz))) ((b.drop i.toNat).take (j.toNat - i.toNat)).length (j.toNat - i.toNat), fun w' _ => ?_, _, ⟨_, _, _, rfl, by rw [hlen]; exact hsub, ?_, fun hne bb hbb => ?_⟩, rfl⟩
  · obtain ⟨i', rfl⟩ : ∃ i' : Nat, i = (i' : Int) := ⟨i.toNat, by omega⟩
    obtain ⟨j', rfl⟩ : ∃ j' : Nat, j = (j' : Int) := ⟨j.toNat, by omega⟩
    have e2 : i' ≤ j' := by omega
    have e3 : j' ≤ c := by omega
    rw [hlen]
    have hb : (Instr.sliceBounds true b.length c (some (a.eval lo)) (some (a.eval hi)) (some (a.eval mx))).run P w' = .ok (i', j', j') w' := by
      simp [Instr.sliceBounds, elo, ehi, emx, Instr.sliceBound, asIntOf, e2, e3]
    simp only [execOp, Instr.sliceAt, k5, Sem.run_bind, run_underlying hT, Result.andThen, Instr.slice, Option.map_some, hb, run_sizeOf hE, Sem.run_pure, Int.toNat_natCast]
  · rw [hlst]
    exact ((k3.take j.toNat).drop i.toNat).take (j.toNat - i.toNat)
  · refine k4 (fun e0 => hne (by rw [e0]; simp)) bb ?_
    have h7 := sub_own (p := p) (m := j.toNat) (cp := j.toNat) (i := i.toNat) (j := j.toNat - i.toNat) (k := j.toNat - i.toNat) (sz := R.sz)
    rw [sblk_own, sblk_own] at h7
    rw [← h7]; exact hbb
theorem box_rp {α : Type} {R : Rep α} {x : α} {T : TypeId} {S S' : Blk} {w : World} {v : Value} (h : (Cont.box T [.rd R x]).holds S w v) (hst : Stay S S' w w) (hS : ∀ b, rblk v = some b → S' b) : (Ent.rp R x).holds S' w (ptrTo v 0) := by
  rcases h with h2 | ⟨b, o, h2, h3, b', vs, rfl, rfl, h4⟩
  · exact h2.elim
  · match vs, h4 with
    | [y], ⟨⟨cs, h5, h6⟩, _⟩ =>
      simp only [rblk, Option.some.injEq] at h2
      subst h2
      refine ⟨b', 0, cs, rfl, hS b' rfl, R.mono hst h5, fun j q hq => ?_⟩
      have hB : Bx w b' (catC [y]).toArray T := h3
      have hcl : catC [y] = cs := by rw [h6]; simp [catC, Rep.val_cells h5]
      rw [hB.cell, hcl]; simpa using hq
theorem Sta.clo2 {α β : Type} {R1 : Rep α} {R2 : Rep β} {x1 : α} {x2 : β} {T1 T2 : TypeId} {v1 v2 : Value} {gf : FuncId} {a : Act} {w : World} (ha : Sta Γ l res a w) (t r1 r2 : Nat) (ht : lk l t = some (.val (.func (.func gf) #[] #[ptrTo v1 0, ptrTo v2 0]))) (h1 : lr res r1 = some (v1, .box T1 [.rd R1 x1])) (h2 : lr res r2 = some (v2, .box T2 [.rd R2 x2])) :
    Sta Γ ((t, .clo gf [.rp R1 x1, .rp R2 x2]) :: l) ((r2, none) :: (r1, none) :: res) a w := by
  have hsub : ∀ r' v' c', lr ((r2, none) :: (r1, none) :: res) r' = some (v', c') → r2 ≠ r' ∧ r1 ≠ r' ∧ lr res r' = some (v', c') := fun r' v' c' hr' => by
    rw [lr_cons] at hr'
    split at hr'
    · cases hr'
    · rename_i g1
      rw [lr_cons] at hr'
      split at hr'
      · cases hr'
      · rename_i g2; exact ⟨g1, g2, hr'⟩
  have hst : Stay (Shr Γ.H res w) (Shr Γ.H ((r2, none) :: (r1, none) :: res) w) w w := fun bb hb => ⟨⟨hb.1, fun r' v' c' hr' => hb.2.1 r' v' c' (hsub _ _ _ hr').2.2, hb.2.2⟩, rfl⟩
  have hS : ∀ r v c, lr res r = some (v, c) → (r = r1 ∨ r = r2) → ∀ b, rblk v = some b → Shr Γ.H ((r2, none) :: (r1, none) :: res) w b := fun r v c hr hrr b hb =>
    ⟨(ha.conts r v c hr).lt hb, fun r' v' c' hr' e => by
      obtain ⟨k1, k2, k3⟩ := hsub _ _ _ hr'
      refine ha.excl r v c r' v' c' hr k3 (fun e => ?_) b hb e
      rcases hrr with rfl | rfl
      · exact k2 e
      · exact k1 e, fun hH => ha.own r v c hr b hb (ha.hid b hH)⟩
  refine ⟨ha.size, ha.defers, fun t' e ht' => ?_, fun r' v' c' hr' => (ha.conts r' v' c' (hsub _ _ _ hr').2.2).mono hst (fun _ _ => rfl), fun r1 v1 c1 r2 v2 c2 h1 h2 hne => ha.excl r1 v1 c1 r2 v2 c2 (hsub _ _ _ h1).2.2 (hsub _ _ _ h2).2.2 hne, fun r' v' c' hr' => ha.own r' v' c' (hsub _ _ _ hr').2.2, ha.keep, ha.old, ha.hid⟩
  rw [lk_cons] at ht'
  split at ht'
  · rename_i hh; subst hh; cases ht'
    obtain ⟨u, k1, rfl, -⟩ := ha.slots t _ ht
    exact ⟨_, k1, [ptrTo v1 0, ptrTo v2 0], ⟨box_rp (ha.conts _ _ _ h1) hst (hS _ _ _ h1 (.inl rfl)), box_rp (ha.conts _ _ _ h2) hst (hS _ _ _ h2 (.inr rfl)), trivial⟩, rfl⟩
  · obtain ⟨u, k1, k2⟩ := ha.slots t' e ht'
    exact ⟨u, k1, e.mono hst k2⟩
theorem eClo2 {ρ α β : Type} {R1 : Rep α} {R2 : Rep β} {x1 : α} {x2 : β} {T1 T2 : TypeId} {v1 v2 : Value} {gf : FuncId} {e : Exit} {Q : ρ → Exit → Act → World → Prop} {m : Option ρ} (t r1 r2 : Nat) (ht : lk l t = some (.val (.func (.func gf) #[] #[ptrTo v1 0, ptrTo v2 0]))) (h1 : lr res r1 = some (v1, .box T1 [.rd R1 x1])) (h2 : lr res r2 = some (v2, .box T2 [.rd R2 x2]))
    (k : GE (Sta Γ ((t, .clo gf [.rp R1 x1, .rp R2 x2]) :: l) ((r2, none) :: (r1, none) :: res)) e Q m) : GE (Sta Γ l res) e Q m := fun a w ha => k a w (ha.clo2 t r1 r2 ht h1 h2)
theorem gMidE {ρ τ : Type} {ro : Option Nat} {A : Asn} {x : Code} {Q : ρ → Exit → Act → World → Prop} {Bs : τ → Asn} {m : Option τ} {k : τ → Option ρ} (hx : G ro P A x (midQ Bs) m) (hy : ∀ t, GE (Bs t) .normal Q (k t)) : G ro P A x Q (m >>= k) := fun a w ha r hr => by
  cases hm : m with
  | none => rw [hm] at hr; cases hr
  | some t =>
    rw [hm] at hr
    refine wpM_mono (fun e a w h => ?_) (hx a w ha t hm)
    obtain ⟨rfl, h⟩ := h
    exact hy t a w h r hr
theorem eRng {ρ : Type} {n : Nat} {H : Blk} {rin : Res} {w0 : World} {L : Slots} {rm : Nat} {rs : (Nat → Value) → Res} {e : Exit} {Q : ρ → Exit → Act → World → Prop} {m : Option ρ} (h : ∀ nv d, GE (Sta (ctxD n H rin w0 [dmark d]) L ((rm, some (d, .mark)) :: rs nv)) e Q m) : GE (rngAs n H rin w0 L rm rs) e Q m := fun a w ⟨nv, d, ha⟩ => h nv d a w ha
end
end Go.Proofs.Ytklfgpdfongaeaa
namespace Go.Proofs.Ytklfgpdfongaeaa
open Go Go.RowKit
set_option linter.unusedSimpArgs false
set_option linter.unusedVariables false
def slices_Chunk_api_ID_api_ID (a0 : List (Vector UInt8 32)) (a1 : Int) : Option (((List (Vector UInt8 32)) × Int)) :=
  if decide (a1 < 1) then
    none
  else
    some (a0, a1)
set_option maxRecDepth 100000 in
theorem slices_Chunk_api_ID_api_ID_ok (a0 : List (Vector UInt8 32)) (a1 : Int) : Spec Try.prog 123 [.rd (sliceR (arrR 32 u8R)) a0, .rd i64R a1] [] (slices_Chunk_api_ID_api_ID a0 a1) (fun r nv => ⟨[.clo 137 [.rp (sliceR (arrR 32 u8R)) r.1, .rp i64R r.2]], []⟩) := by
  refine spec 9 Try.func123 rfl rfl rfl fun H w => ?_
  refine gSeq <| gReg <| Eb rfl (bx 1 rfl) fun v1 => Eb rfl (bx 2 rfl) fun v2 => R rfl (asg rfl) <| gNil <| eThen <| gSeq <| gSeq <| gReg <| R rfl (ld 2 rfl rfl Foc.here ty3 rfl) <| R rfl (I.lss rfl rfl) <| gNil <| eThen <| gIf rfl rfl (fun h3 => ?_) (fun h3 => ?_)
  · skip
    refine gVoid
  · skip
    refine gSkip <| eThen <| gSeq <| gReg <| R rfl (mkf mp0 (mp2 rfl rfl)) <| R rfl (asg rfl) <| gNil <| eThen <| gRet <| eClo2 4 1 2 rfl rfl rfl <| eRet [] [] rfl (eE rfl <| eN) (rN)
def slices_Chunk_api_ID_api_ID_1_L0 {σ : Type} (Y : (List (Vector UInt8 32)) → σ → Option σ) (a1 : List (Vector UInt8 32)) (a2 : Int) (s1 : Int × σ) : Option (Sum σ (Int × σ)) :=
  if decide (s1.1 < (a1.length : Int)) then
    cut a1 s1.1 (a1.length : Int) >>= fun x6 =>
    some (min a2 (x6.length : Int)) >>= fun y8 =>
    cut a1 s1.1 (w64 (s1.1 + y8)) >>= fun x9 =>
    Y x9 s1.2 >>= fun s11 =>
    some (w64 (s1.1 + a2)) >>= fun y15 =>
    some (.inr (y15, s11))
  else
    some (.inl s1.2)
def slices_Chunk_api_ID_api_ID_1 {σ : Type} (a1 : List (Vector UInt8 32)) (a2 : Int) (Y : (List (Vector UInt8 32)) → σ → Option σ) (s0 : σ) : Option σ :=
  iter (slices_Chunk_api_ID_api_ID_1_L0 Y a1 a2) (0, s0)
set_option maxRecDepth 100000 in
theorem slices_Chunk_api_ID_api_ID_1_it (a1 : List (Vector UInt8 32)) (a2 : Int) : ItC Try.prog 137 (sliceR (arrR 32 u8R)) [.rp (sliceR (arrR 32 u8R)) a1, .rp i64R a2] (fun {σ} Y s => slices_Chunk_api_ID_api_ID_1 (σ := σ) a1 a2 Y s) := by
  refine specI 31 Try.func137 rfl rfl rfl ?_
  intro σ E V0 W0 s0 hJ0
  refine gSeq <| gReg <| R rfl (asg rfl) <| gNil <| eThen <| gLoop (fun (s1 : Int × σ) => iAs E 31 [(0, .val (.func (.yield E.l) #[] #[])), (1, .rp (sliceR (arrR 32 u8R)) a1), (2, .rp i64R a2), (4, .rd i64R s1.1)] s1.2) (fun aa ww h => ⟨_, _, hJ0, h.sub [] (sS rfl <| sS rfl <| sS rfl <| sS rfl <| sN) rN⟩) (fun s1 => ?_)
  refine gExI fun V2 W3 hJ4 => gSeq <| gSeq <| gReg <| R rfl (mv rfl) <| R rfl (ldR rfl ty83) <| R rfl (len' rfl .rd rfl Try.underlying83) <| R rfl (I.lss rfl rfl) <| gNil <| eThen <| gIf rfl rfl (fun h5 => ?_) (fun h5 => ?_)
  · skip
    refine gSkip <| eThen <| gSeq <| gBlk <| gSeq <| gRegQ mixed (by kernel_rfl) <| Rq rfl (ldR rfl ty3) <| Rq rfl (ldR rfl ty83) <| Rq rfl (mv rfl) <| qBind fun x6 h7 => Rq rfl (cut' rfl (.to rfl) .no h7 Try.underlying83 ti102) <| Rq rfl (len' rfl .rd rfl Try.underlying83) <| Rq rfl (I.min rfl rfl) <| Rq rfl (asg rfl) <| qName 5 rfl fun y8 => qNil <| eThen <| gSeq <| gRegY 10 <| R rfl (mv rfl) <| R rfl (ldR rfl ty83) <| R rfl (mv rfl) <| R rfl (mv rfl) <| R rfl (mv rfl) <| R rfl (I.add rfl rfl) <| R rfl (mv rfl) <| R rfl (mv rfl) <| R rfl (I.add rfl rfl) <| lBind fun x9 h10 => R rfl (cut3 rfl rfl rfl rfl h10 Try.underlying83 ti102) <| gNil <| eYield hJ4 rfl rfl rfl fun s11 V12 W13 hJ14 => R rfl (not' rfl) <| gNil <| eThen <| gFalse rfl <| gSkip <| eBlk <| eThen <| gReg <| R rfl (mv rfl) <| R rfl (ldR rfl ty3) <| R rfl (I.add rfl rfl) <| R rfl (asg rfl) <| lName 4 rfl fun y15 => gNil <| eNext (fun aa ww h => ⟨_, _, hJ14, h.sub [] (sS rfl <| sS rfl <| sS rfl <| sS rfl <| sN) rN⟩)
  · skip
    refine gExit <| eTexit <| eLeave <| eEndI hJ4 rfl
def frame_Split_R1 (a1 : UInt8) (x22 : List (Vector UInt8 32)) (s16 : (List api_Frame)) : Option ((List api_Frame)) :=
  slices_Clone_api_ID_api_ID x22 >>= fun r31 =>
  app 64 s16 [(⟨a1, 0, r31, []⟩ : api_Frame)] >>= fun x34 =>
  some x34
def frame_Split (a0 : List (Vector UInt8 32)) (a1 : UInt8) : Option ((List api_Frame) × Int) :=
  frame_listed a1 >>= fun r2 =>
  if !r2 then
    some ([], 2)
  else
    some (decide (60 < (a0.length : Int))) >>= fun y5 =>
    if y5 then
      some ([], 4)
    else
      frame_rising a0 >>= fun r7 =>
      if !r7 then
        some ([], 32)
      else
        some ((a0.length : Int) == 0) >>= fun y10 =>
        if y10 then
          some ([(⟨a1, 0, [], []⟩ : api_Frame)], 0)
        else
          slices_Chunk_api_ID_api_ID a0 40 >>= fun r14 =>
          slices_Chunk_api_ID_api_ID_1 r14.1 r14.2 (frame_Split_R1 a1) [] >>= fun s26 =>
          some (s26, 0)
set_option maxRecDepth 100000 in
theorem frame_Split_ok (a0 : List (Vector UInt8 32)) (a1 : UInt8) : Spec Try.prog 74 [.rd (sliceR (arrR 32 u8R)) a0, .rd u8R a1] [] (frame_Split a0 a1) (fun r nv => ⟨[.val (nv 0), .rd i64R r.2], [(100, some (nv 0, .list R_api_Frame 105 r.1))]⟩) := by
  refine specM 38 Try.func74 rfl rfl rfl fun H w => ?_
  refine gSeq <| gReg <| Eb rfl (bx 1 rfl) fun v1 => R rfl (asg rfl) <| R rfl (asg rfl) <| gNil <| eThen <| gSeq <| gBlk <| gSeq <| gReg <| R rfl (ld 1 rfl rfl Foc.here ty5 rfl) <| call [] [] rfl Try.func121 rfl rfl (frame_listed_ok _) (aQ rfl <| aN) rN fun r2 n3 => R rfl (not' rfl) <| R rfl (asg rfl) <| gNil <| eThen <| gIf rfl rfl (fun h4 => ?_) (fun h4 => ?_)
  · skip
    refine gKn 11 rfl h4 <| gSeq <| gReg <| R rfl (asg rfl) <| R rfl (asg rfl) <| gNil <| eThen <| gRet <| eBret <| eTret <| eNew R_api_Frame 105 2 <| eRet0 [(.slice none 0 0)] [2] rfl (eE rfl <| eE rfl <| eN) (rR rfl rfl <| rN)
  · skip
    refine gKn 11 rfl h4 <| gSeq <| gReg <| R rfl (mv rfl) <| R rfl (len' rfl .rd rfl Try.underlying83) <| R rfl (I.gtr rfl rfl) <| R rfl (asg rfl) <| lName 12 rfl fun y5 => gNil <| eThen <| gIf rfl rfl (fun h6 => ?_) (fun h6 => ?_)
    · skip
      refine gSeq <| gReg <| R rfl (asg rfl) <| R rfl (asg rfl) <| gNil <| eThen <| gRet <| eBret <| eTret <| eNew R_api_Frame 105 3 <| eRet0 [(.slice none 0 0)] [3] rfl (eE rfl <| eE rfl <| eN) (rR rfl rfl <| rN)
    · skip
      refine gSeq <| gReg <| R rfl (mv rfl) <| call [] [] rfl Try.func122 rfl rfl (frame_rising_ok _) (aQ rfl <| aN) rN fun r7 n8 => R rfl (not' rfl) <| R rfl (asg rfl) <| gNil <| eThen <| gIf rfl rfl (fun h9 => ?_) (fun h9 => ?_)
      · skip
        refine gKn 19 rfl h9 <| gSeq <| gReg <| R rfl (asg rfl) <| R rfl (asg rfl) <| gNil <| eThen <| gRet <| eBret <| eTret <| eNew R_api_Frame 105 4 <| eRet0 [(.slice none 0 0)] [4] rfl (eE rfl <| eE rfl <| eN) (rR rfl rfl <| rN)
      · skip
        refine gKn 19 rfl h9 <| gSeq <| gReg <| R rfl (mv rfl) <| R rfl (len' rfl .rd rfl Try.underlying83) <| R rfl (I.eql rfl rfl) <| R rfl (asg rfl) <| lName 20 rfl fun y10 => gNil <| eThen <| gIf rfl rfl (fun h11 => ?_) (fun h11 => ?_)
        · skip
          refine gSeq <| gReg <| R rfl (ld 1 rfl rfl Foc.here ty5 rfl) <| R rfl (bld (x' := (⟨a1, 0, [], []⟩ : api_Frame)) [(0, 1), (1, 1), (2, 1), (3, 1)] Try.underlying105 ti105 rfl zr105 rfl (Bld.cons (pt_api_Frame_Kind _) rfl rfl <| Bld.done rfl)) <| Ef rfl (lit (R := R_api_Frame) ([(⟨a1, 0, [], []⟩ : api_Frame)] : List api_Frame) 5 (pP rfl rfl <| pN) rfl Try.underlying110 ti105 rfl rfl) fun v12 => R rfl (asg rfl) <| R rfl (asg rfl) <| gNil <| eThen <| gRet <| eBret <| eTret <| eRet0 [v12] [5] rfl (eE rfl <| eE rfl <| eN) (rR rfl rfl <| rN)
        · skip
          refine gSkip <| eBlk <| eThen <| gSeq <| gReg <| Eb rfl (allc 6 ti110 (.val rfl)) fun v13 => gNil <| eThen <| gSeq <| gSeq <| gReg <| R rfl (mv rfl) <| call [] [] rfl Try.func123 rfl rfl (slices_Chunk_api_ID_api_ID_ok _ _) (aQ rfl <| aQ rfl <| aN) rN fun r14 n15 => gNil <| eThen <| gNew R_api_Frame 105 26 <| gMidE (gRange (it := fun {σ} Y s => slices_Chunk_api_ID_api_ID_1 (σ := σ) r14.1 r14.2 Y s) (fun (s16 : (List api_Frame)) (n17 : Nat → Value) => [(1, some (v1, .box 5 [.rd u8R a1])), (25, some ((n17 0), .list R_api_Frame 105 s16)), (6, some (v13, .box 110 [.val (n17 0)]))]) [(3, .val (ptrTo v1 0)), (6, .val (ptrTo v13 0))] 7 [(.slice none 0 0)] [1, 26, 6] (slices_Chunk_api_ID_api_ID_1_it r14.1 r14.2) (fun _ _ => run_callF Try.func137 rfl rfl) rfl (sS rfl <| sS rfl <| sN) (rR rfl rfl <| rR rfl rfl <| rR rfl rfl <| rN) rfl (fun _ _ => rfl) ?_) (fun s26 => ?_)
          · intro lp18 rec19 H20 W21 n17 x22 s16 hr23 hlp24 hl25
            refine gReg <| R rfl (asg rfl) <| gNil <| eBegin hr23 hlp24 hl25 fun W27 hk28 ho29 hl30 => gBlk <| gRegH [6, 25, 36, 42] mixed rfl rfl <| hTake 1 rfl (by kernel_rfl) (by kernel_rfl) (by kernel_rfl) (gd0 rfl) rfl rfl (ld 1 rfl rfl Foc.here ty5 rfl) <| hTake 2 rfl (by kernel_rfl) (by kernel_rfl) (by kernel_rfl) (gd0 rfl) rfl rfl (mv rfl) <| hAlt [0, 3] (by kernel_rfl) rfl ⟨?_, ?_, trivial⟩
            · skip
              refine oRun 0 rfl (gd0 rfl) rfl rfl flat_val (ldV 6 rfl rfl .here sc110 rfl) <| hCallF 3 [] [(100, 36)] rfl (by kernel_rfl) rfl (gd0 rfl) rfl Try.func124 rfl rfl (slices_Clone_api_ID_api_ID_ok _) (aQ rfl <| aN) rN rfl (fun _ _ => flat_val) fun r31 n32 => hFrz 36 [33] rfl (fS rfl <| fN) <| hTakeP 4 rfl (by kernel_rfl) (by kernel_rfl) (by kernel_rfl) (gd0 rfl) rfl rfl (bld (x' := (⟨a1, 0, r31, []⟩ : api_Frame)) [(0, 1), (1, 1), (2, 1), (3, 1)] Try.underlying105 ti105 rfl zr105 rfl (Bld.cons (pt_api_Frame_Kind _) rfl rfl <| Bld.cons (pt_api_Frame_IDs _) rfl rfl <| Bld.done rfl)) <| hDo 5 rfl (by kernel_rfl) (gd0 rfl) rfl rfl rfl (lit (R := R_api_Frame) ([(⟨a1, 0, r31, []⟩ : api_Frame)] : List api_Frame) 42 (pP rfl rfl <| pN) rfl Try.underlying110 ti105 rfl rfl) (fun _ => rfl) fun v33 => hFrz 42 [35] rfl (fS rfl <| fN) <| hBind fun x34 h35 => hDo 6 rfl (by kernel_rfl) (gd0 rfl) rfl rfl rfl (apn 25 rfl rfl rfl .rd h35 Try.underlying110 ti105 rfl rfl rfl) (fun _ => rfl) fun v36 => hDoS 7 rfl (by kernel_rfl) (gd0 rfl) rfl rfl rfl rfl (stoE 6 rfl rfl (.here fills_val) rfl ones_val fills_val ti110) <| hDone (by kernel_rfl) <| eBlk <| eRound [v36] [1, 25, 6] hk28 ho29 hl30 (rR rfl rfl <| rR rfl rfl <| rR rfl rfl <| rN)
            · skip
              refine oCallF 3 [] [(100, 36)] rfl rfl (gd0 rfl) rfl Try.func124 rfl rfl (slices_Clone_api_ID_api_ID_ok _) (aQ rfl <| aN) rN rfl (fun _ _ => flat_val) fun r37 n38 => hFrz 36 [33] rfl (fS rfl <| fN) <| hTakeP 4 rfl (by kernel_rfl) (by kernel_rfl) (by kernel_rfl) (gd0 rfl) rfl rfl (bld (x' := (⟨a1, 0, r37, []⟩ : api_Frame)) [(0, 1), (1, 1), (2, 1), (3, 1)] Try.underlying105 ti105 rfl zr105 rfl (Bld.cons (pt_api_Frame_Kind _) rfl rfl <| Bld.cons (pt_api_Frame_IDs _) rfl rfl <| Bld.done rfl)) <| hAlt [0, 5] (by kernel_rfl) rfl ⟨?_, ?_, trivial⟩
              · skip
                refine oRun 0 rfl (gd0 rfl) rfl rfl flat_val (ldV 6 rfl rfl .here sc110 rfl) <| hDo 5 rfl (by kernel_rfl) (gd0 rfl) rfl rfl rfl (lit (R := R_api_Frame) ([(⟨a1, 0, r37, []⟩ : api_Frame)] : List api_Frame) 42 (pP rfl rfl <| pN) rfl Try.underlying110 ti105 rfl rfl) (fun _ => rfl) fun v39 => hFrz 42 [35] rfl (fS rfl <| fN) <| hBind fun x40 h41 => hDo 6 rfl (by kernel_rfl) (gd0 rfl) rfl rfl rfl (apn 25 rfl rfl rfl .rd h41 Try.underlying110 ti105 rfl rfl rfl) (fun _ => rfl) fun v42 => hDoS 7 rfl (by kernel_rfl) (gd0 rfl) rfl rfl rfl rfl (stoE 6 rfl rfl (.here fills_val) rfl ones_val fills_val ti110) <| hDone (by kernel_rfl) <| eBlk <| eRound [v42] [1, 25, 6] hk28 ho29 hl30 (rR rfl rfl <| rR rfl rfl <| rR rfl rfl <| rN)
              · skip
                refine oDo 5 rfl (gd0 rfl) rfl rfl rfl (lit (R := R_api_Frame) ([(⟨a1, 0, r37, []⟩ : api_Frame)] : List api_Frame) 42 (pP rfl rfl <| pN) rfl Try.underlying110 ti105 rfl rfl) (fun _ => rfl) fun v43 => hRun 0 rfl (by kernel_rfl) (gd0 rfl) rfl rfl flat_val (ldV 6 rfl rfl .here sc110 rfl) <| hFrz 42 [35] rfl (fS rfl <| fN) <| hBind fun x44 h45 => hDo 6 rfl (by kernel_rfl) (gd0 rfl) rfl rfl rfl (apn 25 rfl rfl rfl .rd h45 Try.underlying110 ti105 rfl rfl rfl) (fun _ => rfl) fun v46 => hDoS 7 rfl (by kernel_rfl) (gd0 rfl) rfl rfl rfl rfl (stoE 6 rfl rfl (.here fills_val) rfl ones_val fills_val ti110) <| hDone (by kernel_rfl) <| eBlk <| eRound [v46] [1, 25, 6] hk28 ho29 hl30 (rR rfl rfl <| rR rfl rfl <| rR rfl rfl <| rN)
          · skip
            refine eRng fun n47 d48 => eThen <| gSeq <| gReg <| R rfl (ldV 6 rfl rfl .here sc110 rfl) <| R rfl (asg rfl) <| R rfl (asg rfl) <| gNil <| eThen <| gRet <| eRetM 7 [(n47 0)] [25] rfl rfl (eE rfl <| eE rfl <| eN) (rR rfl rfl <| rN)
end Go.Proofs.Ytklfgpdfongaeaa
namespace Go.Proofs.Ytklfgpdfongaeaa
open Go Go.RowKit
set_option linter.unusedSimpArgs false
set_option linter.unusedVariables false
def braidref07_Great_L0 (a0 : api_Frame) (s3 : Int) : Option (Sum (Sum Bool Unit) Int) :=
  if decide (s3 < (a0.Ops.length : Int)) then
    if decide (s3 ≤ 20) then
      idx a0.Ops s3 >>= fun x6 =>
      if decide (1000 < (x6.length : Int)) then
        some (.inl (.inl true))
      else
        some (.inr (w64 (s3 + 1)))
    else
      some (.inl (.inr ()))
  else
    some (.inl (.inr ()))
def braidref07_Great (a0 : api_Frame) : Option (Bool) :=
  orRet (iter (braidref07_Great_L0 a0) 0) fun s2 =>
  if decide (100 < (a0.IDs.length : Int)) then
    some true
  else
    some (decide (20 < (a0.Ops.length : Int))) >>= fun y10 =>
    some y10
set_option maxRecDepth 100000 in
theorem braidref07_Great_ok (a0 : api_Frame) : Spec Try.prog 70 [.rd R_api_Frame a0] [] (braidref07_Great a0) (fun r nv => ⟨[.rd boolR r], []⟩) := by
  refine spec 32 Try.func70 rfl rfl rfl fun H w => ?_
  refine gSeq <| gReg <| Eb rfl (bx 1 rfl) fun v1 => R rfl (asg rfl) <| gNil <| eThen <| gMidR (fun (s2 : Unit) aa ww => Sta (ctx 32 H [] w) [(1, .val (ptrTo v1 0))] [(1, some (v1, .box 105 [.rd R_api_Frame a0]))] aa ww) ?_ (fun s2 => ?_)
  · skip
    refine gSeq <| gReg <| R rfl (asg rfl) <| gNil <| eThen <| gLoop (fun (s3 : Int) aa ww => Sta (ctx 32 H [] w) [(1, .val (ptrTo v1 0)), (3, .rd i64R s3)] [(1, some (v1, .box 105 [.rd R_api_Frame a0]))] aa ww) (fun aa ww h => h.sub [1] (sS rfl <| sS rfl <| sN) (rR rfl rfl <| rN)) (fun s3 => ?_)
    refine gSeq <| gSeq <| gReg <| R rfl (mv rfl) <| R rfl (faB 1 rfl rfl Try.underlying105 rfl (by exact ti103)) <| R rfl (ld 1 rfl rfl ((Foc.here).part (pt_api_Frame_Ops _)) ty103 rfl) <| R rfl (len' rfl .rd rfl Try.underlying103) <| R rfl (I.lss rfl rfl) <| R rfl (mv rfl) <| lSplit 9 rfl (fun h4 => ?_) (fun h4 => ?_)
    · skip
      refine lKn 8 rfl h4 <| lRun (gd rfl rfl rfl rfl) rfl rfl (mv rfl) <| lRun (gd rfl rfl rfl rfl) rfl rfl (I.leq rfl rfl) <| R rfl (pkT rfl rfl) <| gNil <| eThen <| gIf rfl rfl (fun h5 => ?_) (fun h5 => ?_)
      · skip
        refine gKn 11 rfl h5 <| gSkip <| eThen <| gSeq <| gBlk <| gSeq <| gReg <| R rfl (faB 1 rfl rfl Try.underlying105 rfl (by exact ti103)) <| R rfl (ld 1 rfl rfl ((Foc.here).part (pt_api_Frame_Ops _)) ty103 rfl) <| R rfl (mv rfl) <| lBind fun x6 h7 => R rfl (ixR rfl rfl h7 Try.underlying103 ti32 rfl) <| R rfl (ldR rfl ty32) <| R rfl (len' rfl .rd rfl Try.underlying32) <| R rfl (I.gtr rfl rfl) <| gNil <| eThen <| gIf rfl rfl (fun h8 => ?_) (fun h8 => ?_)
        · skip
          refine gSeq <| gReg <| R rfl (asg rfl) <| gNil <| eThen <| gRet <| eBret <| eTret <| eLret <| eMret <| eRet [] [] rfl (eE rfl <| eN) (rN)
        · skip
          refine gSkip <| eBlk <| eThen <| gReg <| R rfl (mv rfl) <| R rfl (I.add rfl rfl) <| R rfl (asg rfl) <| gNil <| eNext (fun aa ww h => h.sub [1] (sS rfl <| sS rfl <| sN) (rR rfl rfl <| rN))
      · skip
        refine gKn 11 rfl h5 <| gExit <| eTexit <| eLeave <| eMidR (fun aa ww h => h.sub [1] (sS rfl <| sN) (rR rfl rfl <| rN))
    · skip
      refine lKn 8 rfl h4 <| lSkip (gd rfl rfl rfl rfl) rfl rfl <| lSkip (gd rfl rfl rfl rfl) rfl rfl <| R rfl (pkF rfl rfl) <| gNil <| eThen <| gFalse rfl <| gExit <| eTexit <| eLeave <| eMidR (fun aa ww h => h.sub [1] (sS rfl <| sN) (rR rfl rfl <| rN))
  · skip
    refine gSeq <| gReg <| R rfl (faB 1 rfl rfl Try.underlying105 rfl (by exact ti83)) <| R rfl (ld 1 rfl rfl ((Foc.here).part (pt_api_Frame_IDs _)) ty83 rfl) <| R rfl (len' rfl .rd rfl Try.underlying83) <| R rfl (I.gtr rfl rfl) <| R rfl (mv rfl) <| lSplit 26 rfl (fun h9 => ?_) (fun h9 => ?_)
    · skip
      refine lKn 25 rfl h9 <| lSkip (gd rfl rfl rfl rfl) rfl rfl <| lSkip (gd rfl rfl rfl rfl) rfl rfl <| lSkip (gd rfl rfl rfl rfl) rfl rfl <| lSkip (gd rfl rfl rfl rfl) rfl rfl <| R rfl (pkT rfl rfl) <| R rfl (asg rfl) <| gNil <| eThen <| gRet <| eRet [] [] rfl (eE rfl <| eN) (rN)
    · skip
      refine lKn 25 rfl h9 <| lRun (gd rfl rfl rfl rfl) rfl rfl (faB 1 rfl rfl Try.underlying105 rfl (by exact ti103)) <| lRun (gd rfl rfl rfl rfl) rfl rfl (ld 1 rfl rfl ((Foc.here).part (pt_api_Frame_Ops _)) ty103 rfl) <| lRun (gd rfl rfl rfl rfl) rfl rfl (len' rfl .rd rfl Try.underlying103) <| lRun (gd rfl rfl rfl rfl) rfl rfl (I.gtr rfl rfl) <| R rfl (pkF rfl rfl) <| R rfl (asg rfl) <| lName 2 rfl fun y10 => gNil <| eThen <| gRet <| eRet [] [] rfl (eE rfl <| eN) (rN)
def frame_Encode (a0 : api_Frame) : Option ((List UInt8) × Int) :=
  frame_write a0 >>= fun r2 =>
  if !r2.2 then
    some ([], 8)
  else
    some (r2.1, 0)
set_option maxRecDepth 100000 in
theorem frame_Encode_ok (a0 : api_Frame) : Spec Try.prog 72 [.rd R_api_Frame a0] [] (frame_Encode a0) (fun r nv => ⟨[.val (nv 0), .rd i64R r.2], [(100, some (nv 0, .list u8R 5 r.1))]⟩) := by
  refine spec 14 Try.func72 rfl rfl rfl fun H w => ?_
  refine gSeq <| gReg <| Eb rfl (bx 1 rfl) fun v1 => R rfl (asg rfl) <| R rfl (asg rfl) <| gNil <| eThen <| gSeq <| gReg <| R rfl (ld 1 rfl rfl Foc.here ty105 rfl) <| call [] [(100, 2)] rfl Try.func119 rfl rfl (frame_write_ok _) (aQ rfl <| aN) rN fun r2 n3 => R rfl (mv rfl) <| R rfl (ext rfl rfl) <| R rfl (ext rfl rfl) <| R rfl (asg rfl) <| R rfl (asg rfl) <| gNil <| eThen <| gSeq <| gSeq <| gReg <| R rfl (mv rfl) <| R rfl (not' rfl) <| gNil <| eThen <| gIf rfl rfl (fun h4 => ?_) (fun h4 => ?_)
  · skip
    refine gSeq <| gReg <| R rfl (asg rfl) <| R rfl (asg rfl) <| gNil <| eThen <| gRet <| eTret <| eNew u8R 5 3 <| eRet [(.slice none 0 0)] [3] rfl (eE rfl <| eE rfl <| eN) (rR rfl rfl <| rN)
  · skip
    refine gSkip <| eThen <| gSeq <| gReg <| R rfl (mv rfl) <| R rfl (asg rfl) <| R rfl (asg rfl) <| gNil <| eThen <| gRet <| eRet [(n3 0)] [2] rfl (eE rfl <| eE rfl <| eN) (rR rfl rfl <| rN)
end Go.Proofs.Ytklfgpdfongaeaa
namespace Go.Proofs.Ytklfgpdfongaeaa
open Go Go.RowKit
set_option linter.unusedSimpArgs false
set_option linter.unusedVariables false
theorem great7_L0 (f : api_Frame) (hl : f.Ops.length ≤ 9223372036854775807) : ∀ (rest pre : List (List UInt8)), f.Ops = pre ++ rest → ∃ r, iter (braidref07_Great_L0 f) (pre.length : Int) = some r ∧ (r = .inl true ∨ (r = .inr () ∧ (f.Ops.length ≤ 20 → ∀ b ∈ rest, b.length ≤ 1000)))
  | [], pre, e => by
    refine ⟨.inr (), iter_l ?_, .inr ⟨rfl, by simp⟩⟩
    unfold braidref07_Great_L0
    rw [if_neg (by simp [e])]
  | b :: rest, pre, e => by
    have hlen : pre.length < f.Ops.length := by rw [e]; simp
    have hget : f.Ops[pre.length]'hlen = b := by simp [e]
    by_cases h20 : pre.length ≤ 20
    · by_cases hs : b.length ≤ 1000
      · have hF : braidref07_Great_L0 f (pre.length : Int) = some (.inr ((pre.length + 1 : Nat) : Int)) := by
          unfold braidref07_Great_L0
          rw [if_pos (by simp; omega), if_pos (by simp; omega)]
          simp only [idx_nat hlen, hget, bs, w64_nat (show pre.length < 9223372036854775807 by omega)]
          rw [if_neg (by simp; omega)]
        rw [iter_r hF]
        obtain ⟨r, h1, h2⟩ := great7_L0 f hl rest (pre ++ [b]) (by simp [e])
        simp only [List.length_append, List.length_cons, List.length_nil, Nat.zero_add] at h1
        refine ⟨r, h1, ?_⟩
        rcases h2 with h2 | ⟨h2, h3⟩
        · exact .inl h2
        · refine .inr ⟨h2, fun h x hx => ?_⟩
          rcases List.mem_cons.1 hx with rfl | hx
          · exact hs
          · exact h3 h x hx
      · refine ⟨.inl true, iter_l ?_, .inl rfl⟩
        unfold braidref07_Great_L0
        rw [if_pos (by simp; omega), if_pos (by simp; omega)]
        simp only [idx_nat hlen, hget, bs]
        rw [if_pos (by simp; omega)]
    · refine ⟨.inr (), iter_l ?_, .inr ⟨rfl, fun h => by omega⟩⟩
      unfold braidref07_Great_L0
      rw [if_pos (by simp; omega), if_neg (by simp; omega)]
theorem great7_eq (f : api_Frame) (h : f.Ops.length ≤ 9223372036854775807) : ∃ b, braidref07_Great f = some b ∧ (b = false → okF f) := by
  obtain ⟨r, h1, h2⟩ := great7_L0 f h f.Ops [] rfl
  simp only [List.length_nil] at h1
  have h1 : iter (braidref07_Great_L0 f) 0 = some r := h1
  unfold braidref07_Great
  rw [h1]
  rcases h2 with rfl | ⟨rfl, h3⟩
  · exact ⟨true, rfl, fun h => by cases h⟩
  · rw [or_r]
    by_cases h4 : 100 < f.IDs.length
    · exact ⟨true, by rw [if_pos (by simp; omega)], fun h => by cases h⟩
    · rw [if_neg (by simp; omega)]
      refine ⟨_, rfl, fun h5 => ⟨by omega, ?_, fun b hb => ?_⟩⟩
      · simp at h5; omega
      · have : f.Ops.length ≤ 20 := by simp at h5; omega
        have := h3 this b hb; omega
theorem encode_eq (f : api_Frame) (h : okF f) : frame_Encode f = some (if goodF f then (encF f, 0) else ([], 8)) := by
  obtain ⟨o, h1, h2⟩ := fwrite f h
  unfold frame_Encode
  rw [h1]
  simp only [bs]
  cases hg : goodF f with
  | false => rfl
  | true => rw [h2 hg]; rfl
abbrev ids := List (Vector UInt8 32)
def splitL (l : ids) (k : UInt8) : List api_Frame := ⟨k, 0, l.take 40, []⟩ :: (if 40 < l.length then [⟨k, 0, l.drop 40, []⟩] else [])
def splitF (l : ids) (k : UInt8) : List api_Frame × Int :=
  if ¬ (k = 2 ∨ k = 3 ∨ k = 4) then ([], 2) else if 60 < l.length then ([], 4) else if incr l = false then ([], 32) else (splitL l k, 0)
theorem R1_eq (k : UInt8) (x : ids) (s : List api_Frame) (hx : x.length ≤ 100) (hs : s.length ≤ 10) : frame_Split_R1 k x s = some (s ++ [⟨k, 0, x, []⟩]) := by
  unfold frame_Split_R1 slices_Clone_api_ID_api_ID
  rw [app_eq (by simp; omega)]
  simp only [bs, List.nil_append]
  rw [app_eq (by simp; omega)]
  rfl
theorem chunk_step {σ : Type} (l : ids) (Y : ids → σ → Option σ) (i : Nat) (s s' : σ) (hi : i < l.length) (hl : l.length ≤ 100) (hY : Y ((l.drop i).take 40) s = some s') :
    iter (slices_Chunk_api_ID_api_ID_1_L0 Y l 40) ((i : Int), s) = iter (slices_Chunk_api_ID_api_ID_1_L0 Y l 40) (((i + 40 : Nat) : Int), s') := by
  refine iter_r ?_
  unfold slices_Chunk_api_ID_api_ID_1_L0
  rw [if_pos (by simp; omega)]
  simp only []
  rw [cut_eq (by omega) (Nat.le_refl _)]
  simp only [bs]
  have e1 : min (40 : Int) ((((l.drop i).take (l.length - i)).length : Nat) : Int) = ((min 40 (l.length - i) : Nat) : Int) := by
    simp; omega
  rw [e1, w64_eq (by omega) (by omega), show (i : Int) + ((min 40 (l.length - i) : Nat) : Int) = ((i + min 40 (l.length - i) : Nat) : Int) by omega, cut_eq (by omega) (by omega)]
  simp only [bs]
  have e2 : (l.drop i).take (i + min 40 (l.length - i) - i) = (l.drop i).take 40 := by
    rw [show i + min 40 (l.length - i) - i = min 40 (l.drop i).length by simp]
    rw [List.take_eq_take_iff]; simp
  rw [e2, hY]
  simp only [bs]
  rw [w64_eq (by omega) (by omega)]
  simp
theorem chunk_end {σ : Type} (l : ids) (Y : ids → σ → Option σ) (i : Nat) (s : σ) (hi : l.length ≤ i) : iter (slices_Chunk_api_ID_api_ID_1_L0 Y l 40) ((i : Int), s) = some s := by
  refine iter_l ?_
  unfold slices_Chunk_api_ID_api_ID_1_L0
  rw [if_neg (by simp; omega)]
theorem chunks_eq (l : ids) (k : UInt8) (h : l.length ≤ 60) (h0 : l ≠ []) : slices_Chunk_api_ID_api_ID_1 l 40 (frame_Split_R1 k) [] = some (splitL l k) := by
  have hp : 0 < l.length := List.length_pos_iff.2 h0
  unfold slices_Chunk_api_ID_api_ID_1
  have h1 := chunk_step l (frame_Split_R1 k) 0 [] _ hp (by omega) (R1_eq k _ [] (by simp; omega) (by simp))
  rw [show ((0 : Int), ([] : List api_Frame)) = (((0 : Nat) : Int), []) from rfl, h1]
  unfold splitL
  by_cases h2 : 40 < l.length
  · rw [if_pos h2, chunk_step l (frame_Split_R1 k) 40 _ _ h2 (by omega) (R1_eq k _ _ (by simp; omega) (by simp)), chunk_end l _ _ _ (by omega)]
    simp only [List.drop_zero, List.nil_append, List.cons_append]
    rw [List.take_of_length_le (show (l.drop 40).length ≤ 40 by simp; omega)]
  · rw [if_neg h2, chunk_end l _ _ _ (by omega)]
    simp
theorem split_eq (l : ids) (k : UInt8) (h : l.length ≤ 9223372036854775807) : frame_Split l k = some (splitF l k) := by
  unfold frame_Split splitF
  rw [listed_eq, Listed_eq]
  simp only [bs]
  by_cases hk : k = 2 ∨ k = 3 ∨ k = 4
  · rw [decide_eq_true hk, if_neg (by simp), if_neg (not_not_intro hk)]
    by_cases h1 : 60 < l.length
    · rw [if_pos h1, decide_eq_true (by omega)]; rfl
    · rw [if_neg h1, decide_eq_false (by omega)]
      rw [if_neg (by simp), frising_eq l h]
      simp only [bs]
      cases hi : incr l with
      | false => rfl
      | true =>
        rw [show (!true) = false from rfl, if_neg Bool.false_ne_true, if_neg (show ¬ (true = false) by decide)]
        by_cases h0 : l = []
        · subst h0; rfl
        · have : ((l.length : Int) == 0) = false := by
            cases hb : ((l.length : Int) == 0) with
            | false => rfl
            | true => exact absurd ((len0 l).1 hb) h0
          rw [this]
          unfold slices_Chunk_api_ID_api_ID
          rw [if_neg Bool.false_ne_true, if_neg (show ¬ (decide ((40 : Int) < 1) = true) by decide)]
          simp only [bs]
          rw [chunks_eq l k (by omega) h0]
          rfl
  · rw [decide_eq_false hk, if_pos (by rfl), if_pos hk]
end Go.Proofs.Ytklfgpdfongaeaa
namespace Go.Proofs.Ytklfgpdfongaeaa
open Go Go.RowKit
set_option linter.unusedSimpArgs false
set_option linter.unusedVariables false
def braidlaw07_rising_L0 (a0 : Int) (s2 : (List (Vector UInt8 32)) × Int) : Option (Sum ((List (Vector UInt8 32))) ((List (Vector UInt8 32)) × Int)) :=
  if decide (s2.2 < a0) then
    app 32 s2.1 [vset (Vector.replicate 32 0) ((0 : Nat) : Int) (UInt8.ofInt s2.2)] >>= fun x6 =>
    some (w64 (s2.2 + 1)) >>= fun y9 =>
    some (.inr (x6, y9))
  else
    some (.inl s2.1)
def braidlaw07_rising (a0 : Int) : Option ((List (Vector UInt8 32))) :=
  (iter (braidlaw07_rising_L0 a0) ([], 0)) >>= fun s1 =>
  some s1
set_option maxRecDepth 100000 in
theorem braidlaw07_rising_ok (a0 : Int) : Spec Try.prog 94 [.rd i64R a0] [] (braidlaw07_rising a0) (fun r nv => ⟨[.val (nv 0)], [(100, some (nv 0, .list (arrR 32 u8R) 102 r))]⟩) := by
  refine spec 17 Try.func94 rfl rfl rfl fun H w => ?_
  refine gSeq <| gReg <| R rfl (asg rfl) <| gNil <| eThen <| gSeq <| gReg <| R rfl (asg rfl) <| gNil <| eThen <| gMid (fun (s1 : (List (Vector UInt8 32))) aa ww => ∃ nv : Nat → Value, Sta (ctx 17 H [] w) [(3, .val (nv 0))] [(2, some ((nv 0), .list (arrR 32 u8R) 102 s1))] aa ww) ?_ (fun s1 => ?_)
  · skip
    refine gSeq <| gReg <| R rfl (asg rfl) <| gNil <| eThen <| gNew (arrR 32 u8R) 102 5 <| gLoop (fun (s2 : (List (Vector UInt8 32)) × Int) aa ww => ∃ nv : Nat → Value, Sta (ctx 17 H [] w) [(0, .rd i64R a0), (3, .val (nv 0)), (4, .rd i64R s2.2)] [(4, some ((nv 0), .list (arrR 32 u8R) 102 s2.1))] aa ww) (fun aa ww h => ⟨nvl [(.slice none 0 0)], h.sub [5] (sS rfl <| sS rfl <| sS rfl <| sN) (rR rfl rfl <| rN)⟩) (fun s2 => ?_)
    refine gEx fun n3 => gSeq <| gSeq <| gReg <| R rfl (mv rfl) <| R rfl (mv rfl) <| R rfl (I.lss rfl rfl) <| gNil <| eThen <| gIf rfl rfl (fun h4 => ?_) (fun h4 => ?_)
    · skip
      refine gSkip <| eThen <| gSeq <| gBlk <| gReg <| R rfl (mv rfl) <| R rfl (mv rfl) <| R rfl (I.toB rfl Try.underlying3 Try.underlying5) <| R rfl (bldG (x' := (vset (Vector.replicate 32 0) ((0 : Nat) : Int) (UInt8.ofInt s2.2) : Vector UInt8 32)) Try.underlying102 ti102 zr101 ti5 (Bld.cons (Part.el (vidx_ok (k := 0) (by decide))) rfl rfl <| Bld.done rfl)) <| Ef rfl (lit (R := (arrR 32 u8R)) ([vset (Vector.replicate 32 0) ((0 : Nat) : Int) (UInt8.ofInt s2.2)] : List (Vector UInt8 32)) 6 (pP rfl rfl <| pN) rfl Try.underlying83 ti102 rfl rfl) fun v5 => lFrz 6 [14] rfl (fS rfl <| fN) <| lBind fun x6 h7 => Ef rfl (apn 4 rfl rfl rfl .rd h7 Try.underlying83 ti102 rfl rfl rfl) fun v8 => R rfl (asg rfl) <| gNil <| eBlk <| eThen <| gReg <| R rfl (mv rfl) <| R rfl (I.add rfl rfl) <| R rfl (asg rfl) <| lName 4 rfl fun y9 => gNil <| eNext (fun aa ww h => ⟨nvl [v8], h.sub [4] (sS rfl <| sS rfl <| sS rfl <| sN) (rR rfl rfl <| rN)⟩)
    · skip
      refine gExit <| eTexit <| eLeave <| eMid (fun aa ww h => ⟨nvl [(n3 0)], h.sub [4] (sS rfl <| sN) (rR rfl rfl <| rN)⟩)
  · skip
    refine gEx fun n10 => gSeq <| gReg <| R rfl (mv rfl) <| R rfl (asg rfl) <| gNil <| eThen <| gRet <| eRet [(n10 0)] [2] rfl (eE rfl <| eN) (rR rfl rfl <| rN)
def braidlaw07_is (a0 : api_Frame) (a1 : List UInt8) : Option (Bool) :=
  frame_Encode a0 >>= fun r2 =>
  frame_Parse a1 >>= fun r4 =>
  if r2.2 == 0 then
    braidref01_SameBytes r2.1 a1 >>= fun r8 =>
    if r8 then
      if r4.2 == 0 then
        braidref07_Same a0 r4.1 >>= fun r12 =>
        some r12
      else
        some false
    else
      some false
  else
    some false
set_option maxRecDepth 100000 in
theorem braidlaw07_is_ok (a0 : api_Frame) (a1 : List UInt8) : Spec Try.prog 96 [.rd R_api_Frame a0, .rd (sliceR u8R) a1] [] (braidlaw07_is a0 a1) (fun r nv => ⟨[.rd boolR r], []⟩) := by
  refine spec 35 Try.func96 rfl rfl rfl fun H w => ?_
  refine gSeq <| gReg <| Eb rfl (bx 1 rfl) fun v1 => R rfl (asg rfl) <| gNil <| eThen <| gSeq <| gReg <| R rfl (ld 1 rfl rfl Foc.here ty105 rfl) <| call [] [(100, 2)] rfl Try.func72 rfl rfl (frame_Encode_ok _) (aQ rfl <| aN) rN fun r2 n3 => R rfl (mv rfl) <| R rfl (ext rfl rfl) <| R rfl (ext rfl rfl) <| R rfl (asg rfl) <| R rfl (asg rfl) <| gNil <| eThen <| gSeq <| gReg <| R rfl (mv rfl) <| call [] [] rfl Try.func79 rfl rfl (frame_Parse_ok _) (aQ rfl <| aN) rN fun r4 n5 => R rfl (mv rfl) <| R rfl (ext rfl rfl) <| R rfl (ext rfl rfl) <| Eb rfl (allc 3 ti105 (ZrE.rd (R := u8R) (x := 0) (Zr.num rfl) (ZrE.rd (R := u64R) (x := 0) (Zr.num rfl) (ZrE.nilS (ZrE.nilS ZrE.nil)) rfl) rfl)) fun v6 => lPnl (arrR 32 u8R) [.rd u8R 0, .rd u64R 0, .rd (sliceR (arrR 32 u8R)) [], .val (.slice none 0 0)] 3 [.rd u8R 0, .rd u64R 0] [.val (.slice none 0 0)] rfl rfl rfl <| lPnl (sliceR u8R) [.rd u8R 0, .rd u64R 0, .rd (sliceR (arrR 32 u8R)) [], .rd (sliceR (sliceR u8R)) []] 3 [.rd u8R 0, .rd u64R 0, .rd (sliceR (arrR 32 u8R)) []] [] rfl rfl rfl <| lJoi (R := R_api_Frame) (⟨0, 0, [], []⟩ : api_Frame) 3 rfl (Sp.via (Sp.prod (Sp.prod (Sp.prod (Sp.prod Sp.unit))))) <| Es (sto 3 rfl rfl Foc.here rfl ti105) <| R rfl (asg rfl) <| gNil <| eThen <| gSeq <| gReg <| R rfl (mv rfl) <| R rfl (I.eql rfl rfl) <| R rfl (mv rfl) <| lSplit 21 rfl (fun h7 => ?_) (fun h7 => ?_)
  · skip
    refine lKn 20 rfl h7 <| lRun (gd rfl rfl rfl rfl) rfl rfl (mv rfl) <| lRun (gd rfl rfl rfl rfl) rfl rfl (mv rfl) <| lFrz 2 [12, 5, 22] rfl (fS rfl <| fS rfl <| fS rfl <| fN) <| callg [] [] (gd rfl rfl rfl rfl) rfl Try.func30 rfl rfl (braidref01_SameBytes_ok _ _) (aQ rfl <| aQ rfl <| aN) rN fun r8 n9 => R rfl (pkT rfl rfl) <| R rfl (mv rfl) <| lSplit 26 rfl (fun h10 => ?_) (fun h10 => ?_)
    · skip
      refine lKn 24 rfl h10 <| lKn 25 rfl h10 <| lRun (gd rfl rfl rfl rfl) rfl rfl (mv rfl) <| lRun (gd rfl rfl rfl rfl) rfl rfl (I.eql rfl rfl) <| R rfl (pkT rfl rfl) <| R rfl (mv rfl) <| lSplit 30 rfl (fun h11 => ?_) (fun h11 => ?_)
      · skip
        refine lKn 28 rfl h11 <| lKn 29 rfl h11 <| lRun (gd rfl rfl rfl rfl) rfl rfl (ld 1 rfl rfl Foc.here ty105 rfl) <| lRun (gd rfl rfl rfl rfl) rfl rfl (ld 3 rfl rfl Foc.here ty105 rfl) <| callg [] [] (gd rfl rfl rfl rfl) rfl Try.func78 rfl rfl (braidref07_Same_ok _ _) (aQ rfl <| aQ rfl <| aN) rN fun r12 n13 => R rfl (pkT rfl rfl) <| R rfl (asg rfl) <| gNil <| eThen <| gRet <| eRet [] [] rfl (eE rfl <| eN) (rN)
      · skip
        refine lKn 28 rfl h11 <| lKn 29 rfl h11 <| lSkip (gd rfl rfl rfl rfl) rfl rfl <| lSkip (gd rfl rfl rfl rfl) rfl rfl <| lSkip (gd rfl rfl rfl rfl) rfl rfl <| R rfl (pkF rfl rfl) <| R rfl (asg rfl) <| gNil <| eThen <| gRet <| eRet [] [] rfl (eE rfl <| eN) (rN)
    · skip
      refine lKn 24 rfl h10 <| lKn 25 rfl h10 <| lSkip (gd rfl rfl rfl rfl) rfl rfl <| lSkip (gd rfl rfl rfl rfl) rfl rfl <| R rfl (pkF rfl rfl) <| R rfl (mv rfl) <| lSkip (gd rfl rfl rfl rfl) rfl rfl <| lSkip (gd rfl rfl rfl rfl) rfl rfl <| lSkip (gd rfl rfl rfl rfl) rfl rfl <| R rfl (pkF rfl rfl) <| R rfl (asg rfl) <| gNil <| eThen <| gRet <| eRet [] [] rfl (eE rfl <| eN) (rN)
  · skip
    refine lKn 20 rfl h7 <| lSkip (gd rfl rfl rfl rfl) rfl rfl <| lSkip (gd rfl rfl rfl rfl) rfl rfl <| lSkip (gd rfl rfl rfl rfl) rfl rfl <| R rfl (pkF rfl rfl) <| R rfl (mv rfl) <| lSkip (gd rfl rfl rfl rfl) rfl rfl <| lSkip (gd rfl rfl rfl rfl) rfl rfl <| R rfl (pkF rfl rfl) <| R rfl (mv rfl) <| lSkip (gd rfl rfl rfl rfl) rfl rfl <| lSkip (gd rfl rfl rfl rfl) rfl rfl <| lSkip (gd rfl rfl rfl rfl) rfl rfl <| R rfl (pkF rfl rfl) <| R rfl (asg rfl) <| gNil <| eThen <| gRet <| eRet [] [] rfl (eE rfl <| eN) (rN)
def braidlaw07_refused (a0 : List UInt8) : Option (Bool) :=
  frame_Parse a0 >>= fun r1 =>
  some (r1.2 == 12)
set_option maxRecDepth 100000 in
theorem braidlaw07_refused_ok (a0 : List UInt8) : Spec Try.prog 95 [.rd (sliceR u8R) a0] [] (braidlaw07_refused a0) (fun r nv => ⟨[.rd boolR r], []⟩) := by
  refine spec 12 Try.func95 rfl rfl rfl fun H w => ?_
  refine gSeq <| gReg <| R rfl (asg rfl) <| gNil <| eThen <| gSeq <| gReg <| R rfl (mv rfl) <| call [] [] rfl Try.func79 rfl rfl (frame_Parse_ok _) (aQ rfl <| aN) rN fun r1 n2 => R rfl (mv rfl) <| R rfl (ext rfl rfl) <| R rfl (ext rfl rfl) <| Eb rfl (allc 1 ti105 (ZrE.rd (R := u8R) (x := 0) (Zr.num rfl) (ZrE.rd (R := u64R) (x := 0) (Zr.num rfl) (ZrE.nilS (ZrE.nilS ZrE.nil)) rfl) rfl)) fun v3 => lPnl (arrR 32 u8R) [.rd u8R 0, .rd u64R 0, .rd (sliceR (arrR 32 u8R)) [], .val (.slice none 0 0)] 1 [.rd u8R 0, .rd u64R 0] [.val (.slice none 0 0)] rfl rfl rfl <| lPnl (sliceR u8R) [.rd u8R 0, .rd u64R 0, .rd (sliceR (arrR 32 u8R)) [], .rd (sliceR (sliceR u8R)) []] 1 [.rd u8R 0, .rd u64R 0, .rd (sliceR (arrR 32 u8R)) []] [] rfl rfl rfl <| lJoi (R := R_api_Frame) (⟨0, 0, [], []⟩ : api_Frame) 1 rfl (Sp.via (Sp.prod (Sp.prod (Sp.prod (Sp.prod Sp.unit))))) <| Es (sto 1 rfl rfl Foc.here rfl ti105) <| R rfl (asg rfl) <| gNil <| eThen <| gSeq <| gReg <| R rfl (mv rfl) <| R rfl (I.eql rfl rfl) <| R rfl (asg rfl) <| gNil <| eThen <| gRet <| eRet [] [] rfl (eE rfl <| eN) (rN)
def braidlaw07_alive  : Option (Bool) :=
  braidlaw07_rising 41 >>= fun r1 =>
  frame_Split r1 2 >>= fun r3 =>
  braidlaw07_is (⟨1, 300, [], []⟩ : api_Frame) [1, 249, 1, 44] >>= fun r6 =>
  if r6 then
    braidlaw07_is (⟨3, 0, [], []⟩ : api_Frame) [3, 0] >>= fun r10 =>
    if r10 then
      braidlaw07_is (⟨5, 0, [], [[97, 98], []]⟩ : api_Frame) [5, 2, 2, 97, 98, 0] >>= fun r16 =>
      if r16 then
        braidlaw07_refused [7, 0] >>= fun r20 =>
        if r20 then
          braidlaw07_refused [1] >>= fun r24 =>
          if r24 then
            if r3.2 == 0 then
              if (r3.1.length : Int) == 2 then
                idx r3.1 0 >>= fun x29 =>
                if (x29.IDs.length : Int) == 40 then
                  idx r3.1 1 >>= fun x32 =>
                  some ((x32.IDs.length : Int) == 1) >>= fun y34 =>
                  some y34
                else
                  some false
              else
                some false
            else
              some false
          else
            some false
        else
          some false
      else
        some false
    else
      some false
  else
    some false
set_option maxRecDepth 100000 in
theorem braidlaw07_alive_ok  : Spec Try.prog 92 [] [] (braidlaw07_alive) (fun r nv => ⟨[.rd boolR r], []⟩) := by
  refine spec 56 Try.func92 rfl rfl rfl fun H w => ?_
  refine gSeq <| gReg <| R rfl (asg rfl) <| gNil <| eThen <| gSeq <| gReg <| call [] [(100, 1)] rfl Try.func94 rfl rfl (braidlaw07_rising_ok _) (aQ rfl <| aN) rN fun r1 n2 => lFrz 1 [4] rfl (fS rfl <| fN) <| call [] [(100, 2)] rfl Try.func74 rfl rfl (frame_Split_ok _ _) (aQ rfl <| aQ rfl <| aN) rN fun r3 n4 => R rfl (mv rfl) <| R rfl (ext rfl rfl) <| R rfl (ext rfl rfl) <| R rfl (asg rfl) <| R rfl (asg rfl) <| gNil <| eThen <| gSeq <| gReg <| R rfl (bld (x' := (⟨1, 300, [], []⟩ : api_Frame)) [(0, 1), (1, 1), (2, 1), (3, 1)] Try.underlying105 ti105 rfl zr105 rfl (Bld.cons (pt_api_Frame_Kind _) rfl rfl <| Bld.cons (pt_api_Frame_N _) rfl rfl <| Bld.done rfl)) <| Ef rfl (lit (R := u8R) ([1, 249, 1, 44] : List UInt8) 3 (pP rfl rfl <| pP rfl rfl <| pP rfl rfl <| pP rfl rfl <| pN) rfl Try.underlying32 ti5 rfl rfl) fun v5 => lFrz 3 [9] rfl (fS rfl <| fN) <| call [] [] rfl Try.func96 rfl rfl (braidlaw07_is_ok _ _) (aQ rfl <| aQ rfl <| aN) rN fun r6 n7 => R rfl (mv rfl) <| lSplit 11 rfl (fun h8 => ?_) (fun h8 => ?_)
  · skip
    refine lKn 10 rfl h8 <| lRun (gd rfl rfl rfl rfl) rfl rfl (bld (x' := (⟨3, 0, [], []⟩ : api_Frame)) [(0, 1), (1, 1), (2, 1), (3, 1)] Try.underlying105 ti105 rfl zr105 rfl (Bld.cons (pt_api_Frame_Kind _) rfl rfl <| Bld.done rfl)) <| Efg (gd rfl rfl rfl rfl) rfl rfl (lit (R := u8R) ([3, 0] : List UInt8) 4 (pP rfl rfl <| pP rfl rfl <| pN) rfl Try.underlying32 ti5 rfl rfl) fun v9 => lFrz 4 [13] rfl (fS rfl <| fN) <| callg [] [] (gd rfl rfl rfl rfl) rfl Try.func96 rfl rfl (braidlaw07_is_ok _ _) (aQ rfl <| aQ rfl <| aN) rN fun r10 n11 => R rfl (pkT rfl rfl) <| R rfl (mv rfl) <| lSplit 16 rfl (fun h12 => ?_) (fun h12 => ?_)
    · skip
      refine lKn 14 rfl h12 <| lKn 15 rfl h12 <| Efg (gd rfl rfl rfl rfl) rfl rfl (lit (R := u8R) ([97, 98] : List UInt8) 5 (pP rfl rfl <| pP rfl rfl <| pN) rfl Try.underlying32 ti5 rfl rfl) fun v13 => lFrz 5 [17] rfl (fS rfl <| fN) <| Efg (gd rfl rfl rfl rfl) rfl rfl (lit (R := (sliceR u8R)) ([[97, 98], []] : List (List UInt8)) 6 (pP rfl rfl <| pNil rfl <| pN) rfl Try.underlying103 ti32 rfl rfl) fun v14 => lFrz 6 [18] rfl (fS rfl <| fN) <| lRun (gd rfl rfl rfl rfl) rfl rfl (bld (x' := (⟨5, 0, [], [[97, 98], []]⟩ : api_Frame)) [(0, 1), (1, 1), (2, 1), (3, 1)] Try.underlying105 ti105 rfl zr105 rfl (Bld.cons (pt_api_Frame_Kind _) rfl rfl <| Bld.cons (pt_api_Frame_Ops _) rfl rfl <| Bld.done rfl)) <| Efg (gd rfl rfl rfl rfl) rfl rfl (lit (R := u8R) ([5, 2, 2, 97, 98, 0] : List UInt8) 7 (pP rfl rfl <| pP rfl rfl <| pP rfl rfl <| pP rfl rfl <| pP rfl rfl <| pP rfl rfl <| pN) rfl Try.underlying32 ti5 rfl rfl) fun v15 => lFrz 7 [20] rfl (fS rfl <| fN) <| callg [] [] (gd rfl rfl rfl rfl) rfl Try.func96 rfl rfl (braidlaw07_is_ok _ _) (aQ rfl <| aQ rfl <| aN) rN fun r16 n17 => R rfl (pkT rfl rfl) <| R rfl (mv rfl) <| lSplit 23 rfl (fun h18 => ?_) (fun h18 => ?_)
      · skip
        refine lKn 21 rfl h18 <| lKn 22 rfl h18 <| Efg (gd rfl rfl rfl rfl) rfl rfl (lit (R := u8R) ([7, 0] : List UInt8) 8 (pP rfl rfl <| pP rfl rfl <| pN) rfl Try.underlying32 ti5 rfl rfl) fun v19 => lFrz 8 [24] rfl (fS rfl <| fN) <| callg [] [] (gd rfl rfl rfl rfl) rfl Try.func95 rfl rfl (braidlaw07_refused_ok _) (aQ rfl <| aN) rN fun r20 n21 => R rfl (pkT rfl rfl) <| R rfl (mv rfl) <| lSplit 27 rfl (fun h22 => ?_) (fun h22 => ?_)
        · skip
          refine lKn 25 rfl h22 <| lKn 26 rfl h22 <| Efg (gd rfl rfl rfl rfl) rfl rfl (lit (R := u8R) ([1] : List UInt8) 9 (pP rfl rfl <| pN) rfl Try.underlying32 ti5 rfl rfl) fun v23 => lFrz 9 [28] rfl (fS rfl <| fN) <| callg [] [] (gd rfl rfl rfl rfl) rfl Try.func95 rfl rfl (braidlaw07_refused_ok _) (aQ rfl <| aN) rN fun r24 n25 => R rfl (pkT rfl rfl) <| R rfl (mv rfl) <| lSplit 31 rfl (fun h26 => ?_) (fun h26 => ?_)
          · skip
            refine lKn 29 rfl h26 <| lKn 30 rfl h26 <| lRun (gd rfl rfl rfl rfl) rfl rfl (mv rfl) <| lRun (gd rfl rfl rfl rfl) rfl rfl (I.eql rfl rfl) <| R rfl (pkT rfl rfl) <| R rfl (mv rfl) <| lSplit 35 rfl (fun h27 => ?_) (fun h27 => ?_)
            · skip
              refine lKn 33 rfl h27 <| lKn 34 rfl h27 <| lRun (gd rfl rfl rfl rfl) rfl rfl (mv rfl) <| lRun (gd rfl rfl rfl rfl) rfl rfl (len' rfl (.own 2 rfl) rfl Try.underlying110) <| lRun (gd rfl rfl rfl rfl) rfl rfl (I.eql rfl rfl) <| R rfl (pkT rfl rfl) <| R rfl (mv rfl) <| lSplit 40 rfl (fun h28 => ?_) (fun h28 => ?_)
              · skip
                refine lKn 38 rfl h28 <| lKn 39 rfl h28 <| lRun (gd rfl rfl rfl rfl) rfl rfl (mv rfl) <| lBind fun x29 h30 => lRun (gd rfl rfl rfl rfl) rfl rfl (ixO 2 rfl rfl rfl h30 Try.underlying110 ti105) <| lRun (gd rfl rfl rfl rfl) rfl rfl (fa 2 rfl rfl list_base (nonil h30) Try.underlying105 rfl (by exact ti83)) <| lRun (gd rfl rfl rfl rfl) rfl rfl (ld 2 rfl rfl ((Foc.el h30).part (pt_api_Frame_IDs _)) ty83 rfl) <| lRun (gd rfl rfl rfl rfl) rfl rfl (len' rfl .rd rfl Try.underlying83) <| lRun (gd rfl rfl rfl rfl) rfl rfl (I.eql rfl rfl) <| R rfl (pkT rfl rfl) <| R rfl (mv rfl) <| lSplit 48 rfl (fun h31 => ?_) (fun h31 => ?_)
                · skip
                  refine lKn 46 rfl h31 <| lKn 47 rfl h31 <| lRun (gd rfl rfl rfl rfl) rfl rfl (mv rfl) <| lBind fun x32 h33 => lRun (gd rfl rfl rfl rfl) rfl rfl (ixO 2 rfl rfl rfl h33 Try.underlying110 ti105) <| lRun (gd rfl rfl rfl rfl) rfl rfl (fa 2 rfl rfl list_base (nonil h33) Try.underlying105 rfl (by exact ti83)) <| lRun (gd rfl rfl rfl rfl) rfl rfl (ld 2 rfl rfl ((Foc.el h33).part (pt_api_Frame_IDs _)) ty83 rfl) <| lRun (gd rfl rfl rfl rfl) rfl rfl (len' rfl .rd rfl Try.underlying83) <| lRun (gd rfl rfl rfl rfl) rfl rfl (I.eql rfl rfl) <| R rfl (pkT rfl rfl) <| R rfl (asg rfl) <| lName 0 rfl fun y34 => gNil <| eThen <| gRet <| eRet [] [] rfl (eE rfl <| eN) (rN)
                · skip
                  refine lKn 46 rfl h31 <| lKn 47 rfl h31 <| lSkip (gd rfl rfl rfl rfl) rfl rfl <| lSkip (gd rfl rfl rfl rfl) rfl rfl <| lSkip (gd rfl rfl rfl rfl) rfl rfl <| lSkip (gd rfl rfl rfl rfl) rfl rfl <| lSkip (gd rfl rfl rfl rfl) rfl rfl <| lSkip (gd rfl rfl rfl rfl) rfl rfl <| R rfl (pkF rfl rfl) <| R rfl (asg rfl) <| gNil <| eThen <| gRet <| eRet [] [] rfl (eE rfl <| eN) (rN)
              · skip
                refine lKn 38 rfl h28 <| lKn 39 rfl h28 <| lSkip (gd rfl rfl rfl rfl) rfl rfl <| lSkip (gd rfl rfl rfl rfl) rfl rfl <| lSkip (gd rfl rfl rfl rfl) rfl rfl <| lSkip (gd rfl rfl rfl rfl) rfl rfl <| lSkip (gd rfl rfl rfl rfl) rfl rfl <| lSkip (gd rfl rfl rfl rfl) rfl rfl <| R rfl (pkF rfl rfl) <| R rfl (mv rfl) <| lSkip (gd rfl rfl rfl rfl) rfl rfl <| lSkip (gd rfl rfl rfl rfl) rfl rfl <| lSkip (gd rfl rfl rfl rfl) rfl rfl <| lSkip (gd rfl rfl rfl rfl) rfl rfl <| lSkip (gd rfl rfl rfl rfl) rfl rfl <| lSkip (gd rfl rfl rfl rfl) rfl rfl <| R rfl (pkF rfl rfl) <| R rfl (asg rfl) <| gNil <| eThen <| gRet <| eRet [] [] rfl (eE rfl <| eN) (rN)
            · skip
              refine lKn 33 rfl h27 <| lKn 34 rfl h27 <| lSkip (gd rfl rfl rfl rfl) rfl rfl <| lSkip (gd rfl rfl rfl rfl) rfl rfl <| lSkip (gd rfl rfl rfl rfl) rfl rfl <| R rfl (pkF rfl rfl) <| R rfl (mv rfl) <| lSkip (gd rfl rfl rfl rfl) rfl rfl <| lSkip (gd rfl rfl rfl rfl) rfl rfl <| lSkip (gd rfl rfl rfl rfl) rfl rfl <| lSkip (gd rfl rfl rfl rfl) rfl rfl <| lSkip (gd rfl rfl rfl rfl) rfl rfl <| lSkip (gd rfl rfl rfl rfl) rfl rfl <| R rfl (pkF rfl rfl) <| R rfl (mv rfl) <| lSkip (gd rfl rfl rfl rfl) rfl rfl <| lSkip (gd rfl rfl rfl rfl) rfl rfl <| lSkip (gd rfl rfl rfl rfl) rfl rfl <| lSkip (gd rfl rfl rfl rfl) rfl rfl <| lSkip (gd rfl rfl rfl rfl) rfl rfl <| lSkip (gd rfl rfl rfl rfl) rfl rfl <| R rfl (pkF rfl rfl) <| R rfl (asg rfl) <| gNil <| eThen <| gRet <| eRet [] [] rfl (eE rfl <| eN) (rN)
          · skip
            refine lKn 29 rfl h26 <| lKn 30 rfl h26 <| lSkip (gd rfl rfl rfl rfl) rfl rfl <| lSkip (gd rfl rfl rfl rfl) rfl rfl <| R rfl (pkF rfl rfl) <| R rfl (mv rfl) <| lSkip (gd rfl rfl rfl rfl) rfl rfl <| lSkip (gd rfl rfl rfl rfl) rfl rfl <| lSkip (gd rfl rfl rfl rfl) rfl rfl <| R rfl (pkF rfl rfl) <| R rfl (mv rfl) <| lSkip (gd rfl rfl rfl rfl) rfl rfl <| lSkip (gd rfl rfl rfl rfl) rfl rfl <| lSkip (gd rfl rfl rfl rfl) rfl rfl <| lSkip (gd rfl rfl rfl rfl) rfl rfl <| lSkip (gd rfl rfl rfl rfl) rfl rfl <| lSkip (gd rfl rfl rfl rfl) rfl rfl <| R rfl (pkF rfl rfl) <| R rfl (mv rfl) <| lSkip (gd rfl rfl rfl rfl) rfl rfl <| lSkip (gd rfl rfl rfl rfl) rfl rfl <| lSkip (gd rfl rfl rfl rfl) rfl rfl <| lSkip (gd rfl rfl rfl rfl) rfl rfl <| lSkip (gd rfl rfl rfl rfl) rfl rfl <| lSkip (gd rfl rfl rfl rfl) rfl rfl <| R rfl (pkF rfl rfl) <| R rfl (asg rfl) <| gNil <| eThen <| gRet <| eRet [] [] rfl (eE rfl <| eN) (rN)
        · skip
          refine lKn 25 rfl h22 <| lKn 26 rfl h22 <| lSkip (gd rfl rfl rfl rfl) rfl rfl <| lSkip (gd rfl rfl rfl rfl) rfl rfl <| R rfl (pkF rfl rfl) <| R rfl (mv rfl) <| lSkip (gd rfl rfl rfl rfl) rfl rfl <| lSkip (gd rfl rfl rfl rfl) rfl rfl <| R rfl (pkF rfl rfl) <| R rfl (mv rfl) <| lSkip (gd rfl rfl rfl rfl) rfl rfl <| lSkip (gd rfl rfl rfl rfl) rfl rfl <| lSkip (gd rfl rfl rfl rfl) rfl rfl <| R rfl (pkF rfl rfl) <| R rfl (mv rfl) <| lSkip (gd rfl rfl rfl rfl) rfl rfl <| lSkip (gd rfl rfl rfl rfl) rfl rfl <| lSkip (gd rfl rfl rfl rfl) rfl rfl <| lSkip (gd rfl rfl rfl rfl) rfl rfl <| lSkip (gd rfl rfl rfl rfl) rfl rfl <| lSkip (gd rfl rfl rfl rfl) rfl rfl <| R rfl (pkF rfl rfl) <| R rfl (mv rfl) <| lSkip (gd rfl rfl rfl rfl) rfl rfl <| lSkip (gd rfl rfl rfl rfl) rfl rfl <| lSkip (gd rfl rfl rfl rfl) rfl rfl <| lSkip (gd rfl rfl rfl rfl) rfl rfl <| lSkip (gd rfl rfl rfl rfl) rfl rfl <| lSkip (gd rfl rfl rfl rfl) rfl rfl <| R rfl (pkF rfl rfl) <| R rfl (asg rfl) <| gNil <| eThen <| gRet <| eRet [] [] rfl (eE rfl <| eN) (rN)
      · skip
        refine lKn 21 rfl h18 <| lKn 22 rfl h18 <| lSkip (gd rfl rfl rfl rfl) rfl rfl <| lSkip (gd rfl rfl rfl rfl) rfl rfl <| R rfl (pkF rfl rfl) <| R rfl (mv rfl) <| lSkip (gd rfl rfl rfl rfl) rfl rfl <| lSkip (gd rfl rfl rfl rfl) rfl rfl <| R rfl (pkF rfl rfl) <| R rfl (mv rfl) <| lSkip (gd rfl rfl rfl rfl) rfl rfl <| lSkip (gd rfl rfl rfl rfl) rfl rfl <| R rfl (pkF rfl rfl) <| R rfl (mv rfl) <| lSkip (gd rfl rfl rfl rfl) rfl rfl <| lSkip (gd rfl rfl rfl rfl) rfl rfl <| lSkip (gd rfl rfl rfl rfl) rfl rfl <| R rfl (pkF rfl rfl) <| R rfl (mv rfl) <| lSkip (gd rfl rfl rfl rfl) rfl rfl <| lSkip (gd rfl rfl rfl rfl) rfl rfl <| lSkip (gd rfl rfl rfl rfl) rfl rfl <| lSkip (gd rfl rfl rfl rfl) rfl rfl <| lSkip (gd rfl rfl rfl rfl) rfl rfl <| lSkip (gd rfl rfl rfl rfl) rfl rfl <| R rfl (pkF rfl rfl) <| R rfl (mv rfl) <| lSkip (gd rfl rfl rfl rfl) rfl rfl <| lSkip (gd rfl rfl rfl rfl) rfl rfl <| lSkip (gd rfl rfl rfl rfl) rfl rfl <| lSkip (gd rfl rfl rfl rfl) rfl rfl <| lSkip (gd rfl rfl rfl rfl) rfl rfl <| lSkip (gd rfl rfl rfl rfl) rfl rfl <| R rfl (pkF rfl rfl) <| R rfl (asg rfl) <| gNil <| eThen <| gRet <| eRet [] [] rfl (eE rfl <| eN) (rN)
    · skip
      refine lKn 14 rfl h12 <| lKn 15 rfl h12 <| lSkip (gd rfl rfl rfl rfl) rfl rfl <| lSkip (gd rfl rfl rfl rfl) rfl rfl <| lSkip (gd rfl rfl rfl rfl) rfl rfl <| lSkip (gd rfl rfl rfl rfl) rfl rfl <| lSkip (gd rfl rfl rfl rfl) rfl rfl <| R rfl (pkF rfl rfl) <| R rfl (mv rfl) <| lSkip (gd rfl rfl rfl rfl) rfl rfl <| lSkip (gd rfl rfl rfl rfl) rfl rfl <| R rfl (pkF rfl rfl) <| R rfl (mv rfl) <| lSkip (gd rfl rfl rfl rfl) rfl rfl <| lSkip (gd rfl rfl rfl rfl) rfl rfl <| R rfl (pkF rfl rfl) <| R rfl (mv rfl) <| lSkip (gd rfl rfl rfl rfl) rfl rfl <| lSkip (gd rfl rfl rfl rfl) rfl rfl <| R rfl (pkF rfl rfl) <| R rfl (mv rfl) <| lSkip (gd rfl rfl rfl rfl) rfl rfl <| lSkip (gd rfl rfl rfl rfl) rfl rfl <| lSkip (gd rfl rfl rfl rfl) rfl rfl <| R rfl (pkF rfl rfl) <| R rfl (mv rfl) <| lSkip (gd rfl rfl rfl rfl) rfl rfl <| lSkip (gd rfl rfl rfl rfl) rfl rfl <| lSkip (gd rfl rfl rfl rfl) rfl rfl <| lSkip (gd rfl rfl rfl rfl) rfl rfl <| lSkip (gd rfl rfl rfl rfl) rfl rfl <| lSkip (gd rfl rfl rfl rfl) rfl rfl <| R rfl (pkF rfl rfl) <| R rfl (mv rfl) <| lSkip (gd rfl rfl rfl rfl) rfl rfl <| lSkip (gd rfl rfl rfl rfl) rfl rfl <| lSkip (gd rfl rfl rfl rfl) rfl rfl <| lSkip (gd rfl rfl rfl rfl) rfl rfl <| lSkip (gd rfl rfl rfl rfl) rfl rfl <| lSkip (gd rfl rfl rfl rfl) rfl rfl <| R rfl (pkF rfl rfl) <| R rfl (asg rfl) <| gNil <| eThen <| gRet <| eRet [] [] rfl (eE rfl <| eN) (rN)
  · skip
    refine lKn 10 rfl h8 <| lSkip (gd rfl rfl rfl rfl) rfl rfl <| lSkip (gd rfl rfl rfl rfl) rfl rfl <| lSkip (gd rfl rfl rfl rfl) rfl rfl <| R rfl (pkF rfl rfl) <| R rfl (mv rfl) <| lSkip (gd rfl rfl rfl rfl) rfl rfl <| lSkip (gd rfl rfl rfl rfl) rfl rfl <| lSkip (gd rfl rfl rfl rfl) rfl rfl <| lSkip (gd rfl rfl rfl rfl) rfl rfl <| lSkip (gd rfl rfl rfl rfl) rfl rfl <| R rfl (pkF rfl rfl) <| R rfl (mv rfl) <| lSkip (gd rfl rfl rfl rfl) rfl rfl <| lSkip (gd rfl rfl rfl rfl) rfl rfl <| R rfl (pkF rfl rfl) <| R rfl (mv rfl) <| lSkip (gd rfl rfl rfl rfl) rfl rfl <| lSkip (gd rfl rfl rfl rfl) rfl rfl <| R rfl (pkF rfl rfl) <| R rfl (mv rfl) <| lSkip (gd rfl rfl rfl rfl) rfl rfl <| lSkip (gd rfl rfl rfl rfl) rfl rfl <| R rfl (pkF rfl rfl) <| R rfl (mv rfl) <| lSkip (gd rfl rfl rfl rfl) rfl rfl <| lSkip (gd rfl rfl rfl rfl) rfl rfl <| lSkip (gd rfl rfl rfl rfl) rfl rfl <| R rfl (pkF rfl rfl) <| R rfl (mv rfl) <| lSkip (gd rfl rfl rfl rfl) rfl rfl <| lSkip (gd rfl rfl rfl rfl) rfl rfl <| lSkip (gd rfl rfl rfl rfl) rfl rfl <| lSkip (gd rfl rfl rfl rfl) rfl rfl <| lSkip (gd rfl rfl rfl rfl) rfl rfl <| lSkip (gd rfl rfl rfl rfl) rfl rfl <| R rfl (pkF rfl rfl) <| R rfl (mv rfl) <| lSkip (gd rfl rfl rfl rfl) rfl rfl <| lSkip (gd rfl rfl rfl rfl) rfl rfl <| lSkip (gd rfl rfl rfl rfl) rfl rfl <| lSkip (gd rfl rfl rfl rfl) rfl rfl <| lSkip (gd rfl rfl rfl rfl) rfl rfl <| lSkip (gd rfl rfl rfl rfl) rfl rfl <| R rfl (pkF rfl rfl) <| R rfl (asg rfl) <| gNil <| eThen <| gRet <| eRet [] [] rfl (eE rfl <| eN) (rN)
def braidlaw07_FrameOne (a0 : api_Frame) (a1 : List UInt8) : Option (Bool) :=
  (braidref07_Great a0 >>= fun r3 =>
  if r3 then
    some true
  else
    some (decide (2500 < (a1.length : Int)))) >>= fun s2 =>
  if s2 then
    braidlaw07_alive >>= fun r7 =>
    some r7
  else
    frame_Encode a0 >>= fun r9 =>
    braidref07_Check a0 >>= fun r11 =>
    if (r9.2 == 0) != (r11 == 0) then
      some false
    else
      orRet (if r9.2 == 0 then
        frame_Parse r9.1 >>= fun r16 =>
        (if r16.2 != 0 then
          some true
        else
          braidref07_Same a0 r16.1 >>= fun r21 =>
          if !r21 then
            some true
          else
            if decide (2000 < (r9.1.length : Int)) then
              some true
            else
              if (r9.1.length : Int) == 0 then
                some true
              else
                idx r9.1 0 >>= fun x26 =>
                some (x26 != a0.Kind)) >>= fun s19 =>
        if s19 then
          some (.inl false)
        else
          app 1 ([] : List UInt8) r9.1 >>= fun x30 =>
          app 1 x30 [0] >>= fun x34 =>
          frame_Parse x34 >>= fun r37 =>
          cut r9.1 0 (w64 ((r9.1.length : Int) - 1)) >>= fun x40 =>
          frame_Parse x40 >>= fun r42 =>
          if r37.2 != 12 then
            some (.inl false)
          else
            if r42.2 != 12 then
              some (.inl false)
            else
              some (.inr ())
      else
        some (.inr ())) fun s14 =>
      frame_Parse a1 >>= fun r47 =>
      if r47.2 != 0 then
        if r47.2 == 12 then
          braidlaw07_alive >>= fun r52 =>
          some r52
        else
          some false
      else
        frame_Encode r47.1 >>= fun r54 =>
        if r54.2 == 0 then
          braidref01_SameBytes r54.1 a1 >>= fun r57 =>
          if r57 then
            braidref07_Check r47.1 >>= fun r60 =>
            if r60 == 0 then
              braidlaw07_alive >>= fun r63 =>
              some r63
            else
              some false
          else
            some false
        else
          some false
set_option maxRecDepth 100000 in
theorem braidlaw07_FrameOne_ok (a0 : api_Frame) (a1 : List UInt8) : Spec Try.prog 19 [.rd R_api_Frame a0, .rd (sliceR u8R) a1] [] (braidlaw07_FrameOne a0 a1) (fun r nv => ⟨[.rd boolR r], []⟩) := by
  refine spec 125 Try.func19 rfl rfl rfl fun H w => ?_
  refine gSeq <| gReg <| Eb rfl (bx 1 rfl) fun v1 => R rfl (asg rfl) <| gNil <| eThen <| gSeq <| gMid (fun (s2 : Bool) aa ww => Sta (ctx 125 H [] w) [(1, .rd (sliceR u8R) a1), (2, .val (ptrTo v1 0)), (23, .rd boolR s2)] [(1, some (v1, .box 105 [.rd R_api_Frame a0]))] aa ww) ?_ (fun s2 => ?_)
  · skip
    refine gReg <| R rfl (ld 1 rfl rfl Foc.here ty105 rfl) <| call [] [] rfl Try.func70 rfl rfl (braidref07_Great_ok _) (aQ rfl <| aN) rN fun r3 n4 => R rfl (mv rfl) <| lSplit 19 rfl (fun h5 => ?_) (fun h5 => ?_)
    · skip
      refine lKn 18 rfl h5 <| lSkip (gd rfl rfl rfl rfl) rfl rfl <| lSkip (gd rfl rfl rfl rfl) rfl rfl <| lSkip (gd rfl rfl rfl rfl) rfl rfl <| R rfl (pkT rfl rfl) <| gNil <| eMid (fun aa ww h => h.sub [1] (sS rfl <| sS rfl <| sS rfl <| sN) (rR rfl rfl <| rN))
    · skip
      refine lKn 18 rfl h5 <| lRun (gd rfl rfl rfl rfl) rfl rfl (mv rfl) <| lRun (gd rfl rfl rfl rfl) rfl rfl (len' rfl .rd rfl Try.underlying32) <| lRun (gd rfl rfl rfl rfl) rfl rfl (I.gtr rfl rfl) <| R rfl (pkF rfl rfl) <| gNil <| eMid (fun aa ww h => h.sub [1] (sS rfl <| sS rfl <| sS rfl <| sN) (rR rfl rfl <| rN))
  · skip
    refine gIf rfl rfl (fun h6 => ?_) (fun h6 => ?_)
    · skip
      refine gSeq <| gReg <| call [] [] rfl Try.func92 rfl rfl (braidlaw07_alive_ok) (aN) rN fun r7 n8 => R rfl (asg rfl) <| gNil <| eThen <| gRet <| eTret <| eRet [] [] rfl (eE rfl <| eN) (rN)
    · skip
      refine gSkip <| eThen <| gSeq <| gReg <| R rfl (ld 1 rfl rfl Foc.here ty105 rfl) <| call [] [(100, 2)] rfl Try.func72 rfl rfl (frame_Encode_ok _) (aQ rfl <| aN) rN fun r9 n10 => R rfl (mv rfl) <| R rfl (ext rfl rfl) <| R rfl (ext rfl rfl) <| R rfl (asg rfl) <| R rfl (asg rfl) <| gNil <| eThen <| gSeq <| gSeq <| gReg <| R rfl (mv rfl) <| R rfl (I.eql rfl rfl) <| R rfl (ld 1 rfl rfl Foc.here ty105 rfl) <| call [] [] rfl Try.func77 rfl rfl (braidref07_Check_ok _) (aQ rfl <| aN) rN fun r11 n12 => R rfl (I.eql rfl rfl) <| R rfl (neB Try.underlying4 rfl rfl) <| gNil <| eThen <| gIf rfl rfl (fun h13 => ?_) (fun h13 => ?_)
      · skip
        refine gSeq <| gReg <| R rfl (asg rfl) <| gNil <| eThen <| gRet <| eTret <| eRet [] [] rfl (eE rfl <| eN) (rN)
      · skip
        refine gSkip <| eThen <| gMidR (fun (s14 : Unit) aa ww => Sta (ctx 125 H [] w) [(1, .rd (sliceR u8R) a1)] [] aa ww) ?_ (fun s14 => ?_)
        · skip
          refine gSeq <| gReg <| R rfl (mv rfl) <| R rfl (I.eql rfl rfl) <| gNil <| eThen <| gIf rfl rfl (fun h15 => ?_) (fun h15 => ?_)
          · skip
            refine gKn 31 rfl h15 <| gSeq <| gReg <| R rfl (mv rfl) <| lFrz 2 [28, 5, 39] rfl (fS rfl <| fS rfl <| fS rfl <| fN) <| call [] [] rfl Try.func79 rfl rfl (frame_Parse_ok _) (aQ rfl <| aN) rN fun r16 n17 => R rfl (mv rfl) <| R rfl (ext rfl rfl) <| R rfl (ext rfl rfl) <| Eb rfl (allc 3 ti105 (ZrE.rd (R := u8R) (x := 0) (Zr.num rfl) (ZrE.rd (R := u64R) (x := 0) (Zr.num rfl) (ZrE.nilS (ZrE.nilS ZrE.nil)) rfl) rfl)) fun v18 => lPnl (arrR 32 u8R) [.rd u8R 0, .rd u64R 0, .rd (sliceR (arrR 32 u8R)) [], .val (.slice none 0 0)] 3 [.rd u8R 0, .rd u64R 0] [.val (.slice none 0 0)] rfl rfl rfl <| lPnl (sliceR u8R) [.rd u8R 0, .rd u64R 0, .rd (sliceR (arrR 32 u8R)) [], .rd (sliceR (sliceR u8R)) []] 3 [.rd u8R 0, .rd u64R 0, .rd (sliceR (arrR 32 u8R)) []] [] rfl rfl rfl <| lJoi (R := R_api_Frame) (⟨0, 0, [], []⟩ : api_Frame) 3 rfl (Sp.via (Sp.prod (Sp.prod (Sp.prod (Sp.prod Sp.unit))))) <| Es (sto 3 rfl rfl Foc.here rfl ti105) <| R rfl (asg rfl) <| gNil <| eThen <| gSeq <| gMid (fun (s19 : Bool) aa ww => Sta (ctx 125 H [] w) [(1, .rd (sliceR u8R) a1), (5, .rd (sliceR u8R) r9.1), (68, .rd boolR s19)] [] aa ww) ?_ (fun s19 => ?_)
            · skip
              refine gRegH [] mixed rfl rfl <| hTake 0 rfl (by kernel_rfl) (by kernel_rfl) (by kernel_rfl) (gd0 rfl) rfl rfl (mv rfl) <| hTake 1 rfl (by kernel_rfl) (by kernel_rfl) (by kernel_rfl) (gd0 rfl) rfl rfl (I.neq rfl rfl) <| hTake 2 rfl (by kernel_rfl) (by kernel_rfl) (by kernel_rfl) (gd0 rfl) rfl rfl (mv rfl) <| hIf 45 rfl rfl (fun h20 => ?_) (fun h20 => ?_)
              · skip
                refine hKn 44 rfl rfl h20 <| hSkip 3 rfl (by kernel_rfl) (by kernel_rfl) (by kernel_rfl) (gd rfl rfl rfl rfl) rfl rfl <| hSkip 4 rfl (by kernel_rfl) (by kernel_rfl) (by kernel_rfl) (gd rfl rfl rfl rfl) rfl rfl <| hSkip 5 rfl (by kernel_rfl) (by kernel_rfl) (by kernel_rfl) (gd rfl rfl rfl rfl) rfl rfl <| hSkip 6 rfl (by kernel_rfl) (by kernel_rfl) (by kernel_rfl) (gd rfl rfl rfl rfl) rfl rfl <| hTake 7 rfl (by kernel_rfl) (by kernel_rfl) (by kernel_rfl) (gd0 rfl) rfl rfl (pkT rfl rfl) <| hTake 8 rfl (by kernel_rfl) (by kernel_rfl) (by kernel_rfl) (gd0 rfl) rfl rfl (mv rfl) <| hSkip 9 rfl (by kernel_rfl) (by kernel_rfl) (by kernel_rfl) (gd rfl rfl rfl rfl) rfl rfl <| hSkip 10 rfl (by kernel_rfl) (by kernel_rfl) (by kernel_rfl) (gd rfl rfl rfl rfl) rfl rfl <| hSkip 11 rfl (by kernel_rfl) (by kernel_rfl) (by kernel_rfl) (gd rfl rfl rfl rfl) rfl rfl <| hTake 12 rfl (by kernel_rfl) (by kernel_rfl) (by kernel_rfl) (gd0 rfl) rfl rfl (pkT rfl rfl) <| hTake 13 rfl (by kernel_rfl) (by kernel_rfl) (by kernel_rfl) (gd0 rfl) rfl rfl (mv rfl) <| hSkip 14 rfl (by kernel_rfl) (by kernel_rfl) (by kernel_rfl) (gd rfl rfl rfl rfl) rfl rfl <| hSkip 15 rfl (by kernel_rfl) (by kernel_rfl) (by kernel_rfl) (gd rfl rfl rfl rfl) rfl rfl <| hSkip 16 rfl (by kernel_rfl) (by kernel_rfl) (by kernel_rfl) (gd rfl rfl rfl rfl) rfl rfl <| hTake 17 rfl (by kernel_rfl) (by kernel_rfl) (by kernel_rfl) (gd0 rfl) rfl rfl (pkT rfl rfl) <| hTake 18 rfl (by kernel_rfl) (by kernel_rfl) (by kernel_rfl) (gd0 rfl) rfl rfl (mv rfl) <| hSkip 19 rfl (by kernel_rfl) (by kernel_rfl) (by kernel_rfl) (gd rfl rfl rfl rfl) rfl rfl <| hSkip 20 rfl (by kernel_rfl) (by kernel_rfl) (by kernel_rfl) (gd rfl rfl rfl rfl) rfl rfl <| hSkip 21 rfl (by kernel_rfl) (by kernel_rfl) (by kernel_rfl) (gd rfl rfl rfl rfl) rfl rfl <| hSkip 22 rfl (by kernel_rfl) (by kernel_rfl) (by kernel_rfl) (gd rfl rfl rfl rfl) rfl rfl <| hSkip 23 rfl (by kernel_rfl) (by kernel_rfl) (by kernel_rfl) (gd rfl rfl rfl rfl) rfl rfl <| hSkip 24 rfl (by kernel_rfl) (by kernel_rfl) (by kernel_rfl) (gd rfl rfl rfl rfl) rfl rfl <| hTake 25 rfl (by kernel_rfl) (by kernel_rfl) (by kernel_rfl) (gd0 rfl) rfl rfl (pkT rfl rfl) <| hDone (by kernel_rfl) <| eMid (fun aa ww h => h.sub [] (sS rfl <| sS rfl <| sS rfl <| sN) (rN))
              · skip
                refine hKn 44 rfl rfl h20 <| hTake 3 rfl (by kernel_rfl) (by kernel_rfl) (by kernel_rfl) (gd rfl rfl rfl rfl) rfl rfl (ld 1 rfl rfl Foc.here ty105 rfl) <| hTake 4 rfl (by kernel_rfl) (by kernel_rfl) (by kernel_rfl) (gd rfl rfl rfl rfl) rfl rfl (ld 3 rfl rfl Foc.here ty105 rfl) <| hCallF 5 [] [] rfl (by kernel_rfl) rfl (gd rfl rfl rfl rfl) rfl Try.func78 rfl rfl (braidref07_Same_ok _ _) (aQ rfl <| aQ rfl <| aN) rN rfl (fun _ _ => flat_bool) fun r21 n22 => hTake 6 rfl (by kernel_rfl) (by kernel_rfl) (by kernel_rfl) (gd rfl rfl rfl rfl) rfl rfl (not' rfl) <| hTake 7 rfl (by kernel_rfl) (by kernel_rfl) (by kernel_rfl) (gd0 rfl) rfl rfl (pkF rfl rfl) <| hTake 8 rfl (by kernel_rfl) (by kernel_rfl) (by kernel_rfl) (gd0 rfl) rfl rfl (mv rfl) <| hIf 51 rfl rfl (fun h23 => ?_) (fun h23 => ?_)
                · skip
                  refine hKn 49 rfl rfl h23 <| hKn 50 rfl rfl h23 <| hSkip 9 rfl (by kernel_rfl) (by kernel_rfl) (by kernel_rfl) (gd rfl rfl rfl rfl) rfl rfl <| hSkip 10 rfl (by kernel_rfl) (by kernel_rfl) (by kernel_rfl) (gd rfl rfl rfl rfl) rfl rfl <| hSkip 11 rfl (by kernel_rfl) (by kernel_rfl) (by kernel_rfl) (gd rfl rfl rfl rfl) rfl rfl <| hTake 12 rfl (by kernel_rfl) (by kernel_rfl) (by kernel_rfl) (gd0 rfl) rfl rfl (pkT rfl rfl) <| hTake 13 rfl (by kernel_rfl) (by kernel_rfl) (by kernel_rfl) (gd0 rfl) rfl rfl (mv rfl) <| hSkip 14 rfl (by kernel_rfl) (by kernel_rfl) (by kernel_rfl) (gd rfl rfl rfl rfl) rfl rfl <| hSkip 15 rfl (by kernel_rfl) (by kernel_rfl) (by kernel_rfl) (gd rfl rfl rfl rfl) rfl rfl <| hSkip 16 rfl (by kernel_rfl) (by kernel_rfl) (by kernel_rfl) (gd rfl rfl rfl rfl) rfl rfl <| hTake 17 rfl (by kernel_rfl) (by kernel_rfl) (by kernel_rfl) (gd0 rfl) rfl rfl (pkT rfl rfl) <| hTake 18 rfl (by kernel_rfl) (by kernel_rfl) (by kernel_rfl) (gd0 rfl) rfl rfl (mv rfl) <| hSkip 19 rfl (by kernel_rfl) (by kernel_rfl) (by kernel_rfl) (gd rfl rfl rfl rfl) rfl rfl <| hSkip 20 rfl (by kernel_rfl) (by kernel_rfl) (by kernel_rfl) (gd rfl rfl rfl rfl) rfl rfl <| hSkip 21 rfl (by kernel_rfl) (by kernel_rfl) (by kernel_rfl) (gd rfl rfl rfl rfl) rfl rfl <| hSkip 22 rfl (by kernel_rfl) (by kernel_rfl) (by kernel_rfl) (gd rfl rfl rfl rfl) rfl rfl <| hSkip 23 rfl (by kernel_rfl) (by kernel_rfl) (by kernel_rfl) (gd rfl rfl rfl rfl) rfl rfl <| hSkip 24 rfl (by kernel_rfl) (by kernel_rfl) (by kernel_rfl) (gd rfl rfl rfl rfl) rfl rfl <| hTake 25 rfl (by kernel_rfl) (by kernel_rfl) (by kernel_rfl) (gd0 rfl) rfl rfl (pkT rfl rfl) <| hDone (by kernel_rfl) <| eMid (fun aa ww h => h.sub [] (sS rfl <| sS rfl <| sS rfl <| sN) (rN))
                · skip
                  refine hKn 49 rfl rfl h23 <| hKn 50 rfl rfl h23 <| hTake 9 rfl (by kernel_rfl) (by kernel_rfl) (by kernel_rfl) (gd rfl rfl rfl rfl) rfl rfl (mv rfl) <| hTake 10 rfl (by kernel_rfl) (by kernel_rfl) (by kernel_rfl) (gd rfl rfl rfl rfl) rfl rfl (len' rfl .rd rfl Try.underlying32) <| hTake 11 rfl (by kernel_rfl) (by kernel_rfl) (by kernel_rfl) (gd rfl rfl rfl rfl) rfl rfl (I.gtr rfl rfl) <| hTake 12 rfl (by kernel_rfl) (by kernel_rfl) (by kernel_rfl) (gd0 rfl) rfl rfl (pkF rfl rfl) <| hTake 13 rfl (by kernel_rfl) (by kernel_rfl) (by kernel_rfl) (gd0 rfl) rfl rfl (mv rfl) <| hIf 56 rfl rfl (fun h24 => ?_) (fun h24 => ?_)
                  · skip
                    refine hKn 54 rfl rfl h24 <| hKn 55 rfl rfl h24 <| hSkip 14 rfl (by kernel_rfl) (by kernel_rfl) (by kernel_rfl) (gd rfl rfl rfl rfl) rfl rfl <| hSkip 15 rfl (by kernel_rfl) (by kernel_rfl) (by kernel_rfl) (gd rfl rfl rfl rfl) rfl rfl <| hSkip 16 rfl (by kernel_rfl) (by kernel_rfl) (by kernel_rfl) (gd rfl rfl rfl rfl) rfl rfl <| hTake 17 rfl (by kernel_rfl) (by kernel_rfl) (by kernel_rfl) (gd0 rfl) rfl rfl (pkT rfl rfl) <| hTake 18 rfl (by kernel_rfl) (by kernel_rfl) (by kernel_rfl) (gd0 rfl) rfl rfl (mv rfl) <| hSkip 19 rfl (by kernel_rfl) (by kernel_rfl) (by kernel_rfl) (gd rfl rfl rfl rfl) rfl rfl <| hSkip 20 rfl (by kernel_rfl) (by kernel_rfl) (by kernel_rfl) (gd rfl rfl rfl rfl) rfl rfl <| hSkip 21 rfl (by kernel_rfl) (by kernel_rfl) (by kernel_rfl) (gd rfl rfl rfl rfl) rfl rfl <| hSkip 22 rfl (by kernel_rfl) (by kernel_rfl) (by kernel_rfl) (gd rfl rfl rfl rfl) rfl rfl <| hSkip 23 rfl (by kernel_rfl) (by kernel_rfl) (by kernel_rfl) (gd rfl rfl rfl rfl) rfl rfl <| hSkip 24 rfl (by kernel_rfl) (by kernel_rfl) (by kernel_rfl) (gd rfl rfl rfl rfl) rfl rfl <| hTake 25 rfl (by kernel_rfl) (by kernel_rfl) (by kernel_rfl) (gd0 rfl) rfl rfl (pkT rfl rfl) <| hDone (by kernel_rfl) <| eMid (fun aa ww h => h.sub [] (sS rfl <| sS rfl <| sS rfl <| sN) (rN))
                  · skip
                    refine hKn 54 rfl rfl h24 <| hKn 55 rfl rfl h24 <| hTake 14 rfl (by kernel_rfl) (by kernel_rfl) (by kernel_rfl) (gd rfl rfl rfl rfl) rfl rfl (mv rfl) <| hTake 15 rfl (by kernel_rfl) (by kernel_rfl) (by kernel_rfl) (gd rfl rfl rfl rfl) rfl rfl (len' rfl .rd rfl Try.underlying32) <| hTake 16 rfl (by kernel_rfl) (by kernel_rfl) (by kernel_rfl) (gd rfl rfl rfl rfl) rfl rfl (I.eql rfl rfl) <| hTake 17 rfl (by kernel_rfl) (by kernel_rfl) (by kernel_rfl) (gd0 rfl) rfl rfl (pkF rfl rfl) <| hTake 18 rfl (by kernel_rfl) (by kernel_rfl) (by kernel_rfl) (gd0 rfl) rfl rfl (mv rfl) <| hIf 61 rfl rfl (fun h25 => ?_) (fun h25 => ?_)
                    · skip
                      refine hKn 59 rfl rfl h25 <| hKn 60 rfl rfl h25 <| hSkip 19 rfl (by kernel_rfl) (by kernel_rfl) (by kernel_rfl) (gd rfl rfl rfl rfl) rfl rfl <| hSkip 20 rfl (by kernel_rfl) (by kernel_rfl) (by kernel_rfl) (gd rfl rfl rfl rfl) rfl rfl <| hSkip 21 rfl (by kernel_rfl) (by kernel_rfl) (by kernel_rfl) (gd rfl rfl rfl rfl) rfl rfl <| hSkip 22 rfl (by kernel_rfl) (by kernel_rfl) (by kernel_rfl) (gd rfl rfl rfl rfl) rfl rfl <| hSkip 23 rfl (by kernel_rfl) (by kernel_rfl) (by kernel_rfl) (gd rfl rfl rfl rfl) rfl rfl <| hSkip 24 rfl (by kernel_rfl) (by kernel_rfl) (by kernel_rfl) (gd rfl rfl rfl rfl) rfl rfl <| hTake 25 rfl (by kernel_rfl) (by kernel_rfl) (by kernel_rfl) (gd0 rfl) rfl rfl (pkT rfl rfl) <| hDone (by kernel_rfl) <| eMid (fun aa ww h => h.sub [] (sS rfl <| sS rfl <| sS rfl <| sN) (rN))
                    · skip
                      refine hKn 59 rfl rfl h25 <| hKn 60 rfl rfl h25 <| hTake 19 rfl (by kernel_rfl) (by kernel_rfl) (by kernel_rfl) (gd rfl rfl rfl rfl) rfl rfl (mv rfl) <| hBind fun x26 h27 => hTake 20 rfl (by kernel_rfl) (by kernel_rfl) (by kernel_rfl) (gd rfl rfl rfl rfl) rfl rfl (ixR rfl rfl h27 Try.underlying32 ti5 rfl) <| hTake 21 rfl (by kernel_rfl) (by kernel_rfl) (by kernel_rfl) (gd rfl rfl rfl rfl) rfl rfl (ldR rfl ty5) <| hTake 22 rfl (by kernel_rfl) (by kernel_rfl) (by kernel_rfl) (gd rfl rfl rfl rfl) rfl rfl (faB 1 rfl rfl Try.underlying105 rfl (by exact ti5)) <| hTake 23 rfl (by kernel_rfl) (by kernel_rfl) (by kernel_rfl) (gd rfl rfl rfl rfl) rfl rfl (ld 1 rfl rfl ((Foc.here).part (pt_api_Frame_Kind _)) ty5 rfl) <| hTake 24 rfl (by kernel_rfl) (by kernel_rfl) (by kernel_rfl) (gd rfl rfl rfl rfl) rfl rfl (B.neq rfl rfl) <| hTake 25 rfl (by kernel_rfl) (by kernel_rfl) (by kernel_rfl) (gd0 rfl) rfl rfl (pkF rfl rfl) <| hDone (by kernel_rfl) <| eMid (fun aa ww h => h.sub [] (sS rfl <| sS rfl <| sS rfl <| sN) (rN))
            · skip
              refine gIf rfl rfl (fun h28 => ?_) (fun h28 => ?_)
              · skip
                refine gSeq <| gReg <| R rfl (asg rfl) <| gNil <| eThen <| gRet <| eTret <| eMret <| eRet [] [] rfl (eE rfl <| eN) (rN)
              · skip
                refine gSkip <| eThen <| gSeq <| gReg <| Ef rfl (lit (R := u8R) (([] : List UInt8) : List UInt8) 85 (pN) rfl Try.underlying32 ti5 rfl rfl) fun v29 => R rfl (mv rfl) <| lBind fun x30 h31 => Ef rfl (apn 85 rfl rfl rfl .rd h31 Try.underlying32 ti5 rfl rfl rfl) fun v32 => Ef rfl (lit (R := u8R) ([0] : List UInt8) 86 (pP rfl rfl <| pN) rfl Try.underlying32 ti5 rfl rfl) fun v33 => lBind fun x34 h35 => Ef rfl (apn 85 rfl rfl rfl (.own 86 rfl) h35 Try.underlying32 ti5 rfl rfl rfl) fun v36 => lFrz 85 [74] rfl (fS rfl <| fN) <| call [] [] rfl Try.func79 rfl rfl (frame_Parse_ok _) (aQ rfl <| aN) rN fun r37 n38 => R rfl (mv rfl) <| R rfl (ext rfl rfl) <| R rfl (ext rfl rfl) <| Eb rfl (allc 87 ti105 (ZrE.rd (R := u8R) (x := 0) (Zr.num rfl) (ZrE.rd (R := u64R) (x := 0) (Zr.num rfl) (ZrE.nilS (ZrE.nilS ZrE.nil)) rfl) rfl)) fun v39 => lPnl (arrR 32 u8R) [.rd u8R 0, .rd u64R 0, .rd (sliceR (arrR 32 u8R)) [], .val (.slice none 0 0)] 87 [.rd u8R 0, .rd u64R 0] [.val (.slice none 0 0)] rfl rfl rfl <| lPnl (sliceR u8R) [.rd u8R 0, .rd u64R 0, .rd (sliceR (arrR 32 u8R)) [], .rd (sliceR (sliceR u8R)) []] 87 [.rd u8R 0, .rd u64R 0, .rd (sliceR (arrR 32 u8R)) []] [] rfl rfl rfl <| lJoi (R := R_api_Frame) (⟨0, 0, [], []⟩ : api_Frame) 87 rfl (Sp.via (Sp.prod (Sp.prod (Sp.prod (Sp.prod Sp.unit))))) <| Es (sto 87 rfl rfl Foc.here rfl ti105) <| R rfl (asg rfl) <| gNil <| eThen <| gSeq <| gReg <| R rfl (mv rfl) <| R rfl (mv rfl) <| R rfl (len' rfl .rd rfl Try.underlying32) <| R rfl (I.sub rfl rfl) <| lBind fun x40 h41 => R rfl (cut' rfl .no (.to rfl) h41 Try.underlying32 ti5) <| call [] [] rfl Try.func79 rfl rfl (frame_Parse_ok _) (aQ rfl <| aN) rN fun r42 n43 => R rfl (mv rfl) <| R rfl (ext rfl rfl) <| R rfl (ext rfl rfl) <| Eb rfl (allc 88 ti105 (ZrE.rd (R := u8R) (x := 0) (Zr.num rfl) (ZrE.rd (R := u64R) (x := 0) (Zr.num rfl) (ZrE.nilS (ZrE.nilS ZrE.nil)) rfl) rfl)) fun v44 => lPnl (arrR 32 u8R) [.rd u8R 0, .rd u64R 0, .rd (sliceR (arrR 32 u8R)) [], .val (.slice none 0 0)] 88 [.rd u8R 0, .rd u64R 0] [.val (.slice none 0 0)] rfl rfl rfl <| lPnl (sliceR u8R) [.rd u8R 0, .rd u64R 0, .rd (sliceR (arrR 32 u8R)) [], .rd (sliceR (sliceR u8R)) []] 88 [.rd u8R 0, .rd u64R 0, .rd (sliceR (arrR 32 u8R)) []] [] rfl rfl rfl <| lJoi (R := R_api_Frame) (⟨0, 0, [], []⟩ : api_Frame) 88 rfl (Sp.via (Sp.prod (Sp.prod (Sp.prod (Sp.prod Sp.unit))))) <| Es (sto 88 rfl rfl Foc.here rfl ti105) <| R rfl (asg rfl) <| gNil <| eThen <| gSeq <| gReg <| R rfl (mv rfl) <| R rfl (I.neq rfl rfl) <| R rfl (mv rfl) <| lSplit 89 rfl (fun h45 => ?_) (fun h45 => ?_)
                · skip
                  refine lKn 88 rfl h45 <| lSkip (gd rfl rfl rfl rfl) rfl rfl <| lSkip (gd rfl rfl rfl rfl) rfl rfl <| R rfl (pkT rfl rfl) <| gNil <| eThen <| gTrue rfl <| gSeq <| gReg <| R rfl (asg rfl) <| gNil <| eThen <| gRet <| eMret <| eRet [] [] rfl (eE rfl <| eN) (rN)
                · skip
                  refine lKn 88 rfl h45 <| lRun (gd rfl rfl rfl rfl) rfl rfl (mv rfl) <| lRun (gd rfl rfl rfl rfl) rfl rfl (I.neq rfl rfl) <| R rfl (pkF rfl rfl) <| gNil <| eThen <| gIf rfl rfl (fun h46 => ?_) (fun h46 => ?_)
                  · skip
                    refine gKn 91 rfl h46 <| gSeq <| gReg <| R rfl (asg rfl) <| gNil <| eThen <| gRet <| eMret <| eRet [] [] rfl (eE rfl <| eN) (rN)
                  · skip
                    refine gKn 91 rfl h46 <| gSkip <| eMidR (fun aa ww h => h.sub [] (sS rfl <| sN) (rN))
          · skip
            refine gKn 31 rfl h15 <| gSkip <| eMidR (fun aa ww h => h.sub [] (sS rfl <| sN) (rN))
        · skip
          refine gSeq <| gReg <| R rfl (mv rfl) <| call [] [] rfl Try.func79 rfl rfl (frame_Parse_ok _) (aQ rfl <| aN) rN fun r47 n48 => R rfl (mv rfl) <| R rfl (ext rfl rfl) <| R rfl (ext rfl rfl) <| Eb rfl (allc 89 ti105 (ZrE.rd (R := u8R) (x := 0) (Zr.num rfl) (ZrE.rd (R := u64R) (x := 0) (Zr.num rfl) (ZrE.nilS (ZrE.nilS ZrE.nil)) rfl) rfl)) fun v49 => lPnl (arrR 32 u8R) [.rd u8R 0, .rd u64R 0, .rd (sliceR (arrR 32 u8R)) [], .val (.slice none 0 0)] 89 [.rd u8R 0, .rd u64R 0] [.val (.slice none 0 0)] rfl rfl rfl <| lPnl (sliceR u8R) [.rd u8R 0, .rd u64R 0, .rd (sliceR (arrR 32 u8R)) [], .rd (sliceR (sliceR u8R)) []] 89 [.rd u8R 0, .rd u64R 0, .rd (sliceR (arrR 32 u8R)) []] [] rfl rfl rfl <| lJoi (R := R_api_Frame) (⟨0, 0, [], []⟩ : api_Frame) 89 rfl (Sp.via (Sp.prod (Sp.prod (Sp.prod (Sp.prod Sp.unit))))) <| Es (sto 89 rfl rfl Foc.here rfl ti105) <| R rfl (asg rfl) <| gNil <| eThen <| gSeq <| gSeq <| gReg <| R rfl (mv rfl) <| R rfl (I.neq rfl rfl) <| gNil <| eThen <| gIf rfl rfl (fun h50 => ?_) (fun h50 => ?_)
          · skip
            refine gSeq <| gReg <| R rfl (mv rfl) <| R rfl (I.eql rfl rfl) <| R rfl (mv rfl) <| lSplit 102 rfl (fun h51 => ?_) (fun h51 => ?_)
            · skip
              refine lKn 101 rfl h51 <| callg [] [] (gd rfl rfl rfl rfl) rfl Try.func92 rfl rfl (braidlaw07_alive_ok) (aN) rN fun r52 n53 => R rfl (pkT rfl rfl) <| R rfl (asg rfl) <| gNil <| eThen <| gRet <| eTret <| eRet [] [] rfl (eE rfl <| eN) (rN)
            · skip
              refine lKn 101 rfl h51 <| lSkip (gd rfl rfl rfl rfl) rfl rfl <| R rfl (pkF rfl rfl) <| R rfl (asg rfl) <| gNil <| eThen <| gRet <| eTret <| eRet [] [] rfl (eE rfl <| eN) (rN)
          · skip
            refine gSkip <| eThen <| gSeq <| gReg <| R rfl (ld 89 rfl rfl Foc.here ty105 rfl) <| call [] [(100, 90)] rfl Try.func72 rfl rfl (frame_Encode_ok _) (aQ rfl <| aN) rN fun r54 n55 => R rfl (mv rfl) <| R rfl (ext rfl rfl) <| R rfl (ext rfl rfl) <| R rfl (asg rfl) <| R rfl (asg rfl) <| gNil <| eThen <| gSeq <| gReg <| R rfl (mv rfl) <| R rfl (I.eql rfl rfl) <| R rfl (mv rfl) <| lSplit 112 rfl (fun h56 => ?_) (fun h56 => ?_)
            · skip
              refine lKn 111 rfl h56 <| lRun (gd rfl rfl rfl rfl) rfl rfl (mv rfl) <| lRun (gd rfl rfl rfl rfl) rfl rfl (mv rfl) <| lFrz 90 [108, 15, 113] rfl (fS rfl <| fS rfl <| fS rfl <| fN) <| callg [] [] (gd rfl rfl rfl rfl) rfl Try.func30 rfl rfl (braidref01_SameBytes_ok _ _) (aQ rfl <| aQ rfl <| aN) rN fun r57 n58 => R rfl (pkT rfl rfl) <| R rfl (mv rfl) <| lSplit 117 rfl (fun h59 => ?_) (fun h59 => ?_)
              · skip
                refine lKn 115 rfl h59 <| lKn 116 rfl h59 <| lRun (gd rfl rfl rfl rfl) rfl rfl (ld 89 rfl rfl Foc.here ty105 rfl) <| callg [] [] (gd rfl rfl rfl rfl) rfl Try.func77 rfl rfl (braidref07_Check_ok _) (aQ rfl <| aN) rN fun r60 n61 => lRun (gd rfl rfl rfl rfl) rfl rfl (I.eql rfl rfl) <| R rfl (pkT rfl rfl) <| R rfl (mv rfl) <| lSplit 122 rfl (fun h62 => ?_) (fun h62 => ?_)
                · skip
                  refine lKn 120 rfl h62 <| lKn 121 rfl h62 <| callg [] [] (gd rfl rfl rfl rfl) rfl Try.func92 rfl rfl (braidlaw07_alive_ok) (aN) rN fun r63 n64 => R rfl (pkT rfl rfl) <| R rfl (asg rfl) <| gNil <| eThen <| gRet <| eRet [] [] rfl (eE rfl <| eN) (rN)
                · skip
                  refine lKn 120 rfl h62 <| lKn 121 rfl h62 <| lSkip (gd rfl rfl rfl rfl) rfl rfl <| R rfl (pkF rfl rfl) <| R rfl (asg rfl) <| gNil <| eThen <| gRet <| eRet [] [] rfl (eE rfl <| eN) (rN)
              · skip
                refine lKn 115 rfl h59 <| lKn 116 rfl h59 <| lSkip (gd rfl rfl rfl rfl) rfl rfl <| lSkip (gd rfl rfl rfl rfl) rfl rfl <| lSkip (gd rfl rfl rfl rfl) rfl rfl <| R rfl (pkF rfl rfl) <| R rfl (mv rfl) <| lSkip (gd rfl rfl rfl rfl) rfl rfl <| R rfl (pkF rfl rfl) <| R rfl (asg rfl) <| gNil <| eThen <| gRet <| eRet [] [] rfl (eE rfl <| eN) (rN)
            · skip
              refine lKn 111 rfl h56 <| lSkip (gd rfl rfl rfl rfl) rfl rfl <| lSkip (gd rfl rfl rfl rfl) rfl rfl <| lSkip (gd rfl rfl rfl rfl) rfl rfl <| R rfl (pkF rfl rfl) <| R rfl (mv rfl) <| lSkip (gd rfl rfl rfl rfl) rfl rfl <| lSkip (gd rfl rfl rfl rfl) rfl rfl <| lSkip (gd rfl rfl rfl rfl) rfl rfl <| R rfl (pkF rfl rfl) <| R rfl (mv rfl) <| lSkip (gd rfl rfl rfl rfl) rfl rfl <| R rfl (pkF rfl rfl) <| R rfl (asg rfl) <| gNil <| eThen <| gRet <| eRet [] [] rfl (eE rfl <| eN) (rN)
def braidlaw07_FrameSplits_L0 (a1 : UInt8) (r4 : (List api_Frame) × Int) (s22 : (List (Vector UInt8 32)) × Int) : Option (Sum (Sum Bool ((List (Vector UInt8 32)))) ((List (Vector UInt8 32)) × Int)) :=
  if decide (s22.2 < (r4.1.length : Int)) then
    idx r4.1 s22.2 >>= fun x25 =>
    if x25.Kind != a1 then
      some (.inl (.inl false))
    else
      idx r4.1 s22.2 >>= fun x28 =>
      braidref07_Check x28 >>= fun r30 =>
      if r30 != 0 then
        some (.inl (.inl false))
      else
        idx r4.1 s22.2 >>= fun x33 =>
        app 32 s22.1 x33.IDs >>= fun x35 =>
        some (w64 (s22.2 + 1)) >>= fun y38 =>
        some (.inr (x35, y38))
  else
    some (.inl (.inr s22.1))
def braidlaw07_FrameSplits (a0 : List (Vector UInt8 32)) (a1 : UInt8) : Option (Bool) :=
  if decide (60 < (a0.length : Int)) then
    braidlaw07_alive >>= fun r2 =>
    some r2
  else
    frame_Split a0 a1 >>= fun r4 =>
    if r4.2 != 0 then
      (braidref07_Listed a1 >>= fun r8 =>
      if (r4.2 == 2) == (!r8) then
        if r4.2 == 2 then
          braidlaw07_alive >>= fun r12 =>
          some r12
        else
          if r4.2 == 32 then
            braidref04_Rising a0 >>= fun r15 =>
            if !r15 then
              braidlaw07_alive >>= fun r18 =>
              some r18
            else
              some false
          else
            some false
      else
        some false) >>= fun s7 =>
      some s7
    else
      if (r4.1.length : Int) != (max 1 (w64 (Int.tdiv (w64 ((a0.length : Int) + 39)) 40))) then
        some false
      else
        orRet (iter (braidlaw07_FrameSplits_L0 a1 r4) ([], 0)) fun s21 =>
        braidref04_SameIDs s21 a0 >>= fun r40 =>
        if r40 then
          braidlaw07_alive >>= fun r43 =>
          some r43
        else
          some false
set_option maxRecDepth 100000 in
theorem braidlaw07_FrameSplits_ok (a0 : List (Vector UInt8 32)) (a1 : UInt8) : Spec Try.prog 20 [.rd (sliceR (arrR 32 u8R)) a0, .rd u8R a1] [] (braidlaw07_FrameSplits a0 a1) (fun r nv => ⟨[.rd boolR r], []⟩) := by
  refine spec 85 Try.func20 rfl rfl rfl fun H w => ?_
  refine gSeq <| gReg <| R rfl (asg rfl) <| gNil <| eThen <| gSeq <| gSeq <| gReg <| R rfl (mv rfl) <| R rfl (len' rfl .rd rfl Try.underlying83) <| R rfl (I.gtr rfl rfl) <| gNil <| eThen <| gIf rfl rfl (fun h1 => ?_) (fun h1 => ?_)
  · skip
    refine gSeq <| gReg <| call [] [] rfl Try.func92 rfl rfl (braidlaw07_alive_ok) (aN) rN fun r2 n3 => R rfl (asg rfl) <| gNil <| eThen <| gRet <| eTret <| eRet [] [] rfl (eE rfl <| eN) (rN)
  · skip
    refine gSkip <| eThen <| gSeq <| gReg <| R rfl (mv rfl) <| R rfl (mv rfl) <| call [] [(100, 1)] rfl Try.func74 rfl rfl (frame_Split_ok _ _) (aQ rfl <| aQ rfl <| aN) rN fun r4 n5 => R rfl (mv rfl) <| R rfl (ext rfl rfl) <| R rfl (ext rfl rfl) <| R rfl (asg rfl) <| R rfl (asg rfl) <| gNil <| eThen <| gSeq <| gSeq <| gReg <| R rfl (mv rfl) <| R rfl (I.neq rfl rfl) <| gNil <| eThen <| gIf rfl rfl (fun h6 => ?_) (fun h6 => ?_)
    · skip
      refine gMid (fun (s7 : Bool) aa ww => Sta (ctx 85 H [] w) [(4, .rd boolR s7)] [] aa ww) ?_ (fun s7 => ?_)
      · skip
        refine gReg <| R rfl (mv rfl) <| R rfl (I.eql rfl rfl) <| R rfl (mv rfl) <| call [] [] rfl Try.func93 rfl rfl (braidref07_Listed_ok _) (aQ rfl <| aN) rN fun r8 n9 => R rfl (not' rfl) <| R rfl (eqB Try.underlying4 rfl rfl) <| R rfl (mv rfl) <| lSplit 27 rfl (fun h10 => ?_) (fun h10 => ?_)
        · skip
          refine lKn 26 rfl h10 <| lRun (gd rfl rfl rfl rfl) rfl rfl (mv rfl) <| lRun (gd rfl rfl rfl rfl) rfl rfl (I.eql rfl rfl) <| lRun (gd rfl rfl rfl rfl) rfl rfl (mv rfl) <| lSplit 30 rfl (fun h11 => ?_) (fun h11 => ?_)
          · skip
            refine lKn 22 rfl h11 <| lKn 29 rfl h11 <| lSkip (gd rfl rfl rfl rfl) rfl rfl <| lSkip (gd rfl rfl rfl rfl) rfl rfl <| lSkip (gd rfl rfl rfl rfl) rfl rfl <| lSkip (gdU rfl rfl rfl) rfl rfl <| lSkip (gdU rfl rfl rfl) rfl rfl <| lSkip (gdU rfl rfl rfl) rfl rfl <| lSkip (gd rfl rfl rfl rfl) rfl rfl <| lRun (gd rfl rfl rfl rfl) rfl rfl (pkT rfl rfl) <| R rfl (pkT rfl rfl) <| R rfl (mv rfl) <| callg [] [] (gd rfl rfl rfl rfl) rfl Try.func92 rfl rfl (braidlaw07_alive_ok) (aN) rN fun r12 n13 => R rfl (pkT rfl rfl) <| R rfl (asg rfl) <| gNil <| eMid (fun aa ww h => h.sub [] (sS rfl <| sN) (rN))
          · skip
            refine lKn 22 rfl h11 <| lKn 29 rfl h11 <| lRun (gd rfl rfl rfl rfl) rfl rfl (mv rfl) <| lRun (gd rfl rfl rfl rfl) rfl rfl (I.eql rfl rfl) <| lRun (gd rfl rfl rfl rfl) rfl rfl (mv rfl) <| lSplit 33 rfl (fun h14 => ?_) (fun h14 => ?_)
            · skip
              refine lKn 32 rfl h14 <| lRun (gd rfl rfl rfl rfl) rfl rfl (mv rfl) <| callg [] [] (gd rfl rfl rfl rfl) rfl Try.func60 rfl rfl (braidref04_Rising_ok _) (aQ rfl <| aN) rN fun r15 n16 => lRun (gd rfl rfl rfl rfl) rfl rfl (not' rfl) <| lRun (gd rfl rfl rfl rfl) rfl rfl (pkT rfl rfl) <| lRun (gd rfl rfl rfl rfl) rfl rfl (pkF rfl rfl) <| R rfl (pkT rfl rfl) <| R rfl (mv rfl) <| lSplit 40 rfl (fun h17 => ?_) (fun h17 => ?_)
              · skip
                refine lKn 36 rfl h17 <| lKn 37 rfl h17 <| lKn 38 rfl h17 <| lKn 39 rfl h17 <| callg [] [] (gd rfl rfl rfl rfl) rfl Try.func92 rfl rfl (braidlaw07_alive_ok) (aN) rN fun r18 n19 => R rfl (pkT rfl rfl) <| R rfl (asg rfl) <| gNil <| eMid (fun aa ww h => h.sub [] (sS rfl <| sN) (rN))
              · skip
                refine lKn 36 rfl h17 <| lKn 37 rfl h17 <| lKn 38 rfl h17 <| lKn 39 rfl h17 <| lSkip (gd rfl rfl rfl rfl) rfl rfl <| R rfl (pkF rfl rfl) <| R rfl (asg rfl) <| gNil <| eMid (fun aa ww h => h.sub [] (sS rfl <| sN) (rN))
            · skip
              refine lKn 32 rfl h14 <| lSkip (gd rfl rfl rfl rfl) rfl rfl <| lSkip (gd rfl rfl rfl rfl) rfl rfl <| lSkip (gd rfl rfl rfl rfl) rfl rfl <| lRun (gd rfl rfl rfl rfl) rfl rfl (pkF rfl rfl) <| lRun (gd rfl rfl rfl rfl) rfl rfl (pkF rfl rfl) <| R rfl (pkT rfl rfl) <| R rfl (mv rfl) <| lSkip (gd rfl rfl rfl rfl) rfl rfl <| R rfl (pkF rfl rfl) <| R rfl (asg rfl) <| gNil <| eMid (fun aa ww h => h.sub [] (sS rfl <| sN) (rN))
        · skip
          refine lKn 26 rfl h10 <| lSkip (gd rfl rfl rfl rfl) rfl rfl <| lSkip (gd rfl rfl rfl rfl) rfl rfl <| lSkip (gd rfl rfl rfl rfl) rfl rfl <| lSkip (gdU rfl rfl rfl) rfl rfl <| lSkip (gdU rfl rfl rfl) rfl rfl <| lSkip (gdU rfl rfl rfl) rfl rfl <| lSkip (gdU rfl rfl rfl) rfl rfl <| lSkip (gdU rfl rfl rfl) rfl rfl <| lSkip (gdU rfl rfl rfl) rfl rfl <| lSkip (gdU rfl rfl rfl) rfl rfl <| lSkip (gd rfl rfl rfl rfl) rfl rfl <| R rfl (pkF rfl rfl) <| R rfl (mv rfl) <| lSkip (gd rfl rfl rfl rfl) rfl rfl <| R rfl (pkF rfl rfl) <| R rfl (asg rfl) <| gNil <| eMid (fun aa ww h => h.sub [] (sS rfl <| sN) (rN))
      · skip
        refine gRet <| eTret <| eRet [] [] rfl (eE rfl <| eN) (rN)
    · skip
      refine gSkip <| eThen <| gSeq <| gSeq <| gReg <| R rfl (mv rfl) <| R rfl (len' rfl (.own 1 rfl) rfl Try.underlying110) <| R rfl (mv rfl) <| R rfl (len' rfl .rd rfl Try.underlying83) <| R rfl (I.add rfl rfl) <| R rfl (I.quo rfl rfl (by decide)) <| R rfl (I.max rfl rfl) <| R rfl (I.neq rfl rfl) <| gNil <| eThen <| gIf rfl rfl (fun h20 => ?_) (fun h20 => ?_)
      · skip
        refine gSeq <| gReg <| R rfl (asg rfl) <| gNil <| eThen <| gRet <| eTret <| eRet [] [] rfl (eE rfl <| eN) (rN)
      · skip
        refine gSkip <| eThen <| gSeq <| gReg <| R rfl (asg rfl) <| gNil <| eThen <| gMidR (fun (s21 : (List (Vector UInt8 32))) aa ww => ∃ nv : Nat → Value, Sta (ctx 85 H [] w) [(0, .rd (sliceR (arrR 32 u8R)) a0), (7, .val (nv 0))] [(2, some ((nv 0), .list (arrR 32 u8R) 102 s21))] aa ww) ?_ (fun s21 => ?_)
        · skip
          refine gSeq <| gReg <| R rfl (asg rfl) <| gNil <| eThen <| gNew (arrR 32 u8R) 102 4 <| gLoop (fun (s22 : (List (Vector UInt8 32)) × Int) aa ww => ∃ nv : Nat → Value, Sta (ctx 85 H [] w) [(0, .rd (sliceR (arrR 32 u8R)) a0), (1, .rd u8R a1), (5, .val (n5 0)), (7, .val (nv 0)), (8, .rd i64R s22.2)] [(1, some ((n5 0), .list R_api_Frame 105 r4.1)), (3, some ((nv 0), .list (arrR 32 u8R) 102 s22.1))] aa ww) (fun aa ww h => ⟨nvl [(.slice none 0 0)], h.sub [1, 4] (sS rfl <| sS rfl <| sS rfl <| sS rfl <| sS rfl <| sN) (rR rfl rfl <| rR rfl rfl <| rN)⟩) (fun s22 => ?_)
          refine gEx fun n23 => gSeq <| gSeq <| gReg <| R rfl (mv rfl) <| R rfl (mv rfl) <| R rfl (len' rfl (.own 1 rfl) rfl Try.underlying110) <| R rfl (I.lss rfl rfl) <| gNil <| eThen <| gIf rfl rfl (fun h24 => ?_) (fun h24 => ?_)
          · skip
            refine gSkip <| eThen <| gSeq <| gBlk <| gSeq <| gSeq <| gReg <| R rfl (mv rfl) <| R rfl (mv rfl) <| lBind fun x25 h26 => R rfl (ixO 1 rfl rfl rfl h26 Try.underlying110 ti105) <| R rfl (fa 1 rfl rfl list_base (nonil h26) Try.underlying105 rfl (by exact ti5)) <| R rfl (ld 1 rfl rfl ((Foc.el h26).part (pt_api_Frame_Kind _)) ty5 rfl) <| R rfl (mv rfl) <| R rfl (B.neq rfl rfl) <| R rfl (mv rfl) <| lSplit 64 rfl (fun h27 => ?_) (fun h27 => ?_)
            · skip
              refine lKn 63 rfl h27 <| lSkip (gd rfl rfl rfl rfl) rfl rfl <| lSkip (gd rfl rfl rfl rfl) rfl rfl <| lSkip (gd rfl rfl rfl rfl) rfl rfl <| lSkip (gd rfl rfl rfl rfl) rfl rfl <| lSkip (gd rfl rfl rfl rfl) rfl rfl <| lSkip (gd rfl rfl rfl rfl) rfl rfl <| R rfl (pkT rfl rfl) <| gNil <| eThen <| gTrue rfl <| gSeq <| gReg <| R rfl (asg rfl) <| gNil <| eThen <| gRet <| eTret <| eBret <| eTret <| eLret <| eMret <| eRet [] [] rfl (eE rfl <| eN) (rN)
            · skip
              refine lKn 63 rfl h27 <| lRun (gd rfl rfl rfl rfl) rfl rfl (mv rfl) <| lRun (gd rfl rfl rfl rfl) rfl rfl (mv rfl) <| lBind fun x28 h29 => lRun (gd rfl rfl rfl rfl) rfl rfl (ixO 1 rfl rfl rfl h29 Try.underlying110 ti105) <| lRun (gd rfl rfl rfl rfl) rfl rfl (ld 1 rfl rfl (Foc.el h29) ty105 rfl) <| callg [] [] (gd rfl rfl rfl rfl) rfl Try.func77 rfl rfl (braidref07_Check_ok _) (aQ rfl <| aN) rN fun r30 n31 => lRun (gd rfl rfl rfl rfl) rfl rfl (I.neq rfl rfl) <| R rfl (pkF rfl rfl) <| gNil <| eThen <| gIf rfl rfl (fun h32 => ?_) (fun h32 => ?_)
              · skip
                refine gKn 70 rfl h32 <| gSeq <| gReg <| R rfl (asg rfl) <| gNil <| eThen <| gRet <| eTret <| eBret <| eTret <| eLret <| eMret <| eRet [] [] rfl (eE rfl <| eN) (rN)
              · skip
                refine gKn 70 rfl h32 <| gSkip <| eThen <| gReg <| R rfl (mv rfl) <| R rfl (mv rfl) <| R rfl (mv rfl) <| lBind fun x33 h34 => R rfl (ixO 1 rfl rfl rfl h34 Try.underlying110 ti105) <| R rfl (fa 1 rfl rfl list_base (nonil h34) Try.underlying105 rfl (by exact ti83)) <| R rfl (ld 1 rfl rfl ((Foc.el h34).part (pt_api_Frame_IDs _)) ty83 rfl) <| lBind fun x35 h36 => Ef rfl (apn 3 rfl rfl rfl .rd h36 Try.underlying83 ti102 rfl rfl rfl) fun v37 => R rfl (asg rfl) <| gNil <| eBlk <| eThen <| gReg <| R rfl (mv rfl) <| R rfl (I.add rfl rfl) <| R rfl (asg rfl) <| lName 8 rfl fun y38 => gNil <| eNext (fun aa ww h => ⟨nvl [v37], h.sub [1, 3] (sS rfl <| sS rfl <| sS rfl <| sS rfl <| sS rfl <| sN) (rR rfl rfl <| rR rfl rfl <| rN)⟩)
          · skip
            refine gExit <| eTexit <| eLeave <| eMidR (fun aa ww h => ⟨nvl [(n23 0)], h.sub [3] (sS rfl <| sS rfl <| sN) (rR rfl rfl <| rN)⟩)
        · skip
          refine gEx fun n39 => gSeq <| gReg <| R rfl (mv rfl) <| R rfl (mv rfl) <| lFrz 2 [7, 79] rfl (fS rfl <| fS rfl <| fN) <| call [] [] rfl Try.func62 rfl rfl (braidref04_SameIDs_ok _ _) (aQ rfl <| aQ rfl <| aN) rN fun r40 n41 => R rfl (mv rfl) <| lSplit 82 rfl (fun h42 => ?_) (fun h42 => ?_)
          · skip
            refine lKn 81 rfl h42 <| callg [] [] (gd rfl rfl rfl rfl) rfl Try.func92 rfl rfl (braidlaw07_alive_ok) (aN) rN fun r43 n44 => R rfl (pkT rfl rfl) <| R rfl (asg rfl) <| gNil <| eThen <| gRet <| eRet [] [] rfl (eE rfl <| eN) (rN)
          · skip
            refine lKn 81 rfl h42 <| lSkip (gd rfl rfl rfl rfl) rfl rfl <| R rfl (pkF rfl rfl) <| R rfl (asg rfl) <| gNil <| eThen <| gRet <| eRet [] [] rfl (eE rfl <| eN) (rN)
def braidlaw07_FrameDiffer (a0 : api_Frame) (a1 : api_Frame) : Option (Bool) :=
  (braidref07_Great a0 >>= fun r4 =>
  if r4 then
    some true
  else
    braidref07_Great a1 >>= fun r7 =>
    if r7 then
      some true
    else
      braidref07_Check a0 >>= fun r10 =>
      if r10 != 0 then
        some true
      else
        braidref07_Check a1 >>= fun r13 =>
        some (r13 != 0)) >>= fun s3 =>
  if s3 then
    braidlaw07_alive >>= fun r16 =>
    some r16
  else
    frame_Encode a0 >>= fun r18 =>
    frame_Encode a1 >>= fun r20 =>
    if r18.2 != 0 then
      some false
    else
      if r20.2 != 0 then
        some false
      else
        some (min (r18.1.length : Int) (r20.1.length : Int)) >>= fun y24 =>
        cut r18.1 0 y24 >>= fun x25 =>
        cut r20.1 0 y24 >>= fun x27 =>
        braidref01_SameBytes x25 x27 >>= fun r29 =>
        braidref07_Same a0 a1 >>= fun r31 =>
        if r29 == r31 then
          braidlaw07_alive >>= fun r34 =>
          some r34
        else
          some false
set_option maxRecDepth 100000 in
theorem braidlaw07_FrameDiffer_ok (a0 : api_Frame) (a1 : api_Frame) : Spec Try.prog 21 [.rd R_api_Frame a0, .rd R_api_Frame a1] [] (braidlaw07_FrameDiffer a0 a1) (fun r nv => ⟨[.rd boolR r], []⟩) := by
  refine spec 62 Try.func21 rfl rfl rfl fun H w => ?_
  refine gSeq <| gReg <| Eb rfl (bx 1 rfl) fun v1 => Eb rfl (bx 2 rfl) fun v2 => R rfl (asg rfl) <| gNil <| eThen <| gSeq <| gMid (fun (s3 : Bool) aa ww => Sta (ctx 62 H [] w) [(2, .val (ptrTo v1 0)), (3, .val (ptrTo v2 0)), (25, .rd boolR s3)] [(1, some (v1, .box 105 [.rd R_api_Frame a0])), (2, some (v2, .box 105 [.rd R_api_Frame a1]))] aa ww) ?_ (fun s3 => ?_)
  · skip
    refine gReg <| R rfl (ld 1 rfl rfl Foc.here ty105 rfl) <| call [] [] rfl Try.func70 rfl rfl (braidref07_Great_ok _) (aQ rfl <| aN) rN fun r4 n5 => R rfl (mv rfl) <| lSplit 12 rfl (fun h6 => ?_) (fun h6 => ?_)
    · skip
      refine lKn 11 rfl h6 <| lSkip (gd rfl rfl rfl rfl) rfl rfl <| lSkip (gd rfl rfl rfl rfl) rfl rfl <| R rfl (pkT rfl rfl) <| R rfl (mv rfl) <| lSkip (gd rfl rfl rfl rfl) rfl rfl <| lSkip (gd rfl rfl rfl rfl) rfl rfl <| lSkip (gd rfl rfl rfl rfl) rfl rfl <| R rfl (pkT rfl rfl) <| R rfl (mv rfl) <| lSkip (gd rfl rfl rfl rfl) rfl rfl <| lSkip (gd rfl rfl rfl rfl) rfl rfl <| lSkip (gd rfl rfl rfl rfl) rfl rfl <| R rfl (pkT rfl rfl) <| gNil <| eMid (fun aa ww h => h.sub [1, 2] (sS rfl <| sS rfl <| sS rfl <| sN) (rR rfl rfl <| rR rfl rfl <| rN))
    · skip
      refine lKn 11 rfl h6 <| lRun (gd rfl rfl rfl rfl) rfl rfl (ld 2 rfl rfl Foc.here ty105 rfl) <| callg [] [] (gd rfl rfl rfl rfl) rfl Try.func70 rfl rfl (braidref07_Great_ok _) (aQ rfl <| aN) rN fun r7 n8 => R rfl (pkF rfl rfl) <| R rfl (mv rfl) <| lSplit 16 rfl (fun h9 => ?_) (fun h9 => ?_)
      · skip
        refine lKn 14 rfl h9 <| lKn 15 rfl h9 <| lSkip (gd rfl rfl rfl rfl) rfl rfl <| lSkip (gd rfl rfl rfl rfl) rfl rfl <| lSkip (gd rfl rfl rfl rfl) rfl rfl <| R rfl (pkT rfl rfl) <| R rfl (mv rfl) <| lSkip (gd rfl rfl rfl rfl) rfl rfl <| lSkip (gd rfl rfl rfl rfl) rfl rfl <| lSkip (gd rfl rfl rfl rfl) rfl rfl <| R rfl (pkT rfl rfl) <| gNil <| eMid (fun aa ww h => h.sub [1, 2] (sS rfl <| sS rfl <| sS rfl <| sN) (rR rfl rfl <| rR rfl rfl <| rN))
      · skip
        refine lKn 14 rfl h9 <| lKn 15 rfl h9 <| lRun (gd rfl rfl rfl rfl) rfl rfl (ld 1 rfl rfl Foc.here ty105 rfl) <| callg [] [] (gd rfl rfl rfl rfl) rfl Try.func77 rfl rfl (braidref07_Check_ok _) (aQ rfl <| aN) rN fun r10 n11 => lRun (gd rfl rfl rfl rfl) rfl rfl (I.neq rfl rfl) <| R rfl (pkF rfl rfl) <| R rfl (mv rfl) <| lSplit 21 rfl (fun h12 => ?_) (fun h12 => ?_)
        · skip
          refine lKn 19 rfl h12 <| lKn 20 rfl h12 <| lSkip (gd rfl rfl rfl rfl) rfl rfl <| lSkip (gd rfl rfl rfl rfl) rfl rfl <| lSkip (gd rfl rfl rfl rfl) rfl rfl <| R rfl (pkT rfl rfl) <| gNil <| eMid (fun aa ww h => h.sub [1, 2] (sS rfl <| sS rfl <| sS rfl <| sN) (rR rfl rfl <| rR rfl rfl <| rN))
        · skip
          refine lKn 19 rfl h12 <| lKn 20 rfl h12 <| lRun (gd rfl rfl rfl rfl) rfl rfl (ld 2 rfl rfl Foc.here ty105 rfl) <| callg [] [] (gd rfl rfl rfl rfl) rfl Try.func77 rfl rfl (braidref07_Check_ok _) (aQ rfl <| aN) rN fun r13 n14 => lRun (gd rfl rfl rfl rfl) rfl rfl (I.neq rfl rfl) <| R rfl (pkF rfl rfl) <| gNil <| eMid (fun aa ww h => h.sub [1, 2] (sS rfl <| sS rfl <| sS rfl <| sN) (rR rfl rfl <| rR rfl rfl <| rN))
  · skip
    refine gIf rfl rfl (fun h15 => ?_) (fun h15 => ?_)
    · skip
      refine gSeq <| gReg <| call [] [] rfl Try.func92 rfl rfl (braidlaw07_alive_ok) (aN) rN fun r16 n17 => R rfl (asg rfl) <| gNil <| eThen <| gRet <| eTret <| eRet [] [] rfl (eE rfl <| eN) (rN)
    · skip
      refine gSkip <| eThen <| gSeq <| gReg <| R rfl (ld 1 rfl rfl Foc.here ty105 rfl) <| call [] [(100, 3)] rfl Try.func72 rfl rfl (frame_Encode_ok _) (aQ rfl <| aN) rN fun r18 n19 => R rfl (mv rfl) <| R rfl (ext rfl rfl) <| R rfl (ext rfl rfl) <| R rfl (asg rfl) <| R rfl (asg rfl) <| gNil <| eThen <| gSeq <| gReg <| R rfl (ld 2 rfl rfl Foc.here ty105 rfl) <| call [] [(100, 4)] rfl Try.func72 rfl rfl (frame_Encode_ok _) (aQ rfl <| aN) rN fun r20 n21 => R rfl (mv rfl) <| R rfl (ext rfl rfl) <| R rfl (ext rfl rfl) <| R rfl (asg rfl) <| R rfl (asg rfl) <| gNil <| eThen <| gSeq <| gSeq <| gReg <| R rfl (mv rfl) <| R rfl (I.neq rfl rfl) <| R rfl (mv rfl) <| lSplit 39 rfl (fun h22 => ?_) (fun h22 => ?_)
      · skip
        refine lKn 38 rfl h22 <| lSkip (gd rfl rfl rfl rfl) rfl rfl <| lSkip (gd rfl rfl rfl rfl) rfl rfl <| R rfl (pkT rfl rfl) <| gNil <| eThen <| gTrue rfl <| gSeq <| gReg <| R rfl (asg rfl) <| gNil <| eThen <| gRet <| eTret <| eRet [] [] rfl (eE rfl <| eN) (rN)
      · skip
        refine lKn 38 rfl h22 <| lRun (gd rfl rfl rfl rfl) rfl rfl (mv rfl) <| lRun (gd rfl rfl rfl rfl) rfl rfl (I.neq rfl rfl) <| R rfl (pkF rfl rfl) <| gNil <| eThen <| gIf rfl rfl (fun h23 => ?_) (fun h23 => ?_)
        · skip
          refine gKn 41 rfl h23 <| gSeq <| gReg <| R rfl (asg rfl) <| gNil <| eThen <| gRet <| eTret <| eRet [] [] rfl (eE rfl <| eN) (rN)
        · skip
          refine gKn 41 rfl h23 <| gSkip <| eThen <| gSeq <| gReg <| R rfl (mv rfl) <| R rfl (len' rfl (.own 3 rfl) rfl Try.underlying32) <| R rfl (mv rfl) <| R rfl (len' rfl (.own 4 rfl) rfl Try.underlying32) <| R rfl (I.min rfl rfl) <| R rfl (asg rfl) <| lName 9 rfl fun y24 => gNil <| eThen <| gSeq <| gRegH [] mixed rfl rfl <| hTake 0 rfl (by kernel_rfl) (by kernel_rfl) (by kernel_rfl) (gd0 rfl) rfl rfl (mv rfl) <| hTake 1 rfl (by kernel_rfl) (by kernel_rfl) (by kernel_rfl) (gd0 rfl) rfl rfl (mv rfl) <| hFrz 3 [30, 5, 43, 48] rfl (fS rfl <| fS rfl <| fS rfl <| fS rfl <| fN) <| hBind fun x25 h26 => hTakeP 2 rfl (by kernel_rfl) (by kernel_rfl) (by kernel_rfl) (gd0 rfl) rfl rfl (cut' rfl .no (.to rfl) h26 Try.underlying32 ti5) <| hTake 3 rfl (by kernel_rfl) (by kernel_rfl) (by kernel_rfl) (gd0 rfl) rfl rfl (mv rfl) <| hTake 4 rfl (by kernel_rfl) (by kernel_rfl) (by kernel_rfl) (gd0 rfl) rfl rfl (mv rfl) <| hFrz 4 [35, 7, 45, 51] rfl (fS rfl <| fS rfl <| fS rfl <| fS rfl <| fN) <| hBind fun x27 h28 => hTakeP 5 rfl (by kernel_rfl) (by kernel_rfl) (by kernel_rfl) (gd0 rfl) rfl rfl (cut' rfl .no (.to rfl) h28 Try.underlying32 ti5) <| hTake 7 rfl (by kernel_rfl) (by kernel_rfl) (by kernel_rfl) (gd0 rfl) rfl rfl (ld 1 rfl rfl Foc.here ty105 rfl) <| hTake 8 rfl (by kernel_rfl) (by kernel_rfl) (by kernel_rfl) (gd0 rfl) rfl rfl (ld 2 rfl rfl Foc.here ty105 rfl) <| hCallF 6 [] [] rfl (by kernel_rfl) rfl (gd0 rfl) rfl Try.func30 rfl rfl (braidref01_SameBytes_ok _ _) (aQ rfl <| aQ rfl <| aN) rN rfl (fun _ _ => flat_bool) fun r29 n30 => hCallF 9 [] [] rfl (by kernel_rfl) rfl (gd0 rfl) rfl Try.func78 rfl rfl (braidref07_Same_ok _ _) (aQ rfl <| aQ rfl <| aN) rN rfl (fun _ _ => flat_bool) fun r31 n32 => hTake 10 rfl (by kernel_rfl) (by kernel_rfl) (by kernel_rfl) (gd0 rfl) rfl rfl (eqB Try.underlying4 rfl rfl) <| hTake 11 rfl (by kernel_rfl) (by kernel_rfl) (by kernel_rfl) (gd0 rfl) rfl rfl (mv rfl) <| hIf 59 rfl rfl (fun h33 => ?_) (fun h33 => ?_)
          · skip
            refine hKn 58 rfl rfl h33 <| hCallF 12 [] [] rfl (by kernel_rfl) rfl (gd rfl rfl rfl rfl) rfl Try.func92 rfl rfl (braidlaw07_alive_ok) (aN) rN rfl (fun _ _ => flat_bool) fun r34 n35 => hTake 13 rfl (by kernel_rfl) (by kernel_rfl) (by kernel_rfl) (gd0 rfl) rfl rfl (pkT rfl rfl) <| hTake 14 rfl (by kernel_rfl) (by kernel_rfl) (by kernel_rfl) (gd0 rfl) rfl rfl (asg rfl) <| hDone (by kernel_rfl) <| eThen <| gRet <| eRet [] [] rfl (eE rfl <| eN) (rN)
          · skip
            refine hKn 58 rfl rfl h33 <| hSkip 12 rfl (by kernel_rfl) (by kernel_rfl) (by kernel_rfl) (gd rfl rfl rfl rfl) rfl rfl <| hTake 13 rfl (by kernel_rfl) (by kernel_rfl) (by kernel_rfl) (gd0 rfl) rfl rfl (pkF rfl rfl) <| hTake 14 rfl (by kernel_rfl) (by kernel_rfl) (by kernel_rfl) (gd0 rfl) rfl rfl (asg rfl) <| hDone (by kernel_rfl) <| eThen <| gRet <| eRet [] [] rfl (eE rfl <| eN) (rN)
end Go.Proofs.Ytklfgpdfongaeaa
namespace Go.Proofs.Ytklfgpdfongaeaa
open Go Go.RowKit
set_option linter.unusedSimpArgs false
set_option linter.unusedVariables false
theorem readN_app {n : Nat} (hn : n < 18446744073709551616) (x : List UInt8) : readN (numBytes n ++ x) = (n, (numBytes n).length, 0) :=
  readN_some ((readNum_some_iff _ _ _).2 ⟨hn, rfl, by simp⟩)
theorem part_app (s x : List UInt8) (most : Int) (k n : Nat) (hk : 0 < k) (hs : s.length = k * n) (hn : n < 18446744073709551616) (hm : (n : Int) ≤ most) : partL (numBytes n ++ (s ++ x)) most k = (s, (numBytes n).length + s.length, 0) := by
  have h := readN_app hn (s ++ x)
  rw [partL_good (by omega)]
  · rw [h]
    simp only [List.drop_left, ← hs, List.take_left]
  · rw [h]
    simp only [List.length_append]
    intro hh
    rcases hh with hh | hh | hh
    · exact hh rfl
    · omega
    · have : ((numBytes n).length + (s.length + x.length) - (numBytes n).length) / k = (s.length + x.length) / k := by congr 1; omega
      rw [this] at hh
      have h2 : n ≤ (s.length + x.length) / k := (Nat.le_div_iff_mul_le hk).2 (by rw [Nat.mul_comm, ← hs]; omega)
      omega
theorem idsL_inj : ∀ (l m : List (Vector UInt8 32)), l.length = m.length → idsL l = idsL m → l = m
  | [], [], _, _ => rfl
  | a :: l, b :: m, hl, h => by
    have h1 : a.toList ++ idsL l = b.toList ++ idsL m := h
    obtain ⟨h2, h3⟩ := List.append_inj h1 (by simp)
    rw [idsL_inj l m (by simpa using hl) h3, show a = b from Vector.toList_inj.1 h2]
  | [], _ :: _, hl, _ => by simp at hl
  | _ :: _, [], hl, _ => by simp at hl
theorem idsOf_idsL (l : List (Vector UInt8 32)) : idsOf (idsL l) l.length = l := by
  refine idsL_inj _ _ (idsOf_len _ _) ?_
  rw [idsL_of _ _ (by rw [idsL_len]; omega), List.take_of_length_le (by rw [idsL_len]; omega)]
theorem rdIDs_app (l : List (Vector UInt8 32)) (x : List UInt8) (h : l.length ≤ 40) (hi : incr l = true) : rdIDs (numBytes l.length ++ (idsL l ++ x)) 40 = (l, (numBytes l.length).length + (idsL l).length, 0) := by
  have hp := part_app (idsL l) x 40 32 l.length (by omega) (idsL_len l) (by omega) (by omega)
  unfold rdIDs
  rw [hp]
  simp only [idsL_len, Nat.mul_div_cancel_left _ (show 0 < 32 by omega), idsOf_idsL, hi, if_true]
  rw [if_neg (by simp)]
theorem rdOps_app : ∀ (ops : List (List UInt8)) (x : List UInt8), ops.all short = true → rdOps ops.length (opsL ops ++ x) = some (ops, x)
  | [], x, _ => rfl
  | b :: ops, x, h => by
    simp only [List.all_cons, Bool.and_eq_true] at h
    have hb : b.length ≤ 400 := by have := h.1; unfold short at this; simp at this; omega
    have hp := part_app b (opsL ops ++ x) 400 1 b.length (by omega) (by omega) (by omega) (by omega)
    have e : opsL (b :: ops) ++ x = numBytes b.length ++ (b ++ (opsL ops ++ x)) := by rw [opsL_cons]; simp
    rw [e]
    simp only [List.length_cons, rdOps]
    rw [hp]
    rw [if_neg (by simp)]
    have hd : (numBytes b.length ++ (b ++ (opsL ops ++ x))).drop ((numBytes b.length).length + b.length) = opsL ops ++ x := by
      rw [← List.append_assoc, ← List.length_append, List.drop_left]
    rw [hd, rdOps_app ops x h.2]
    rfl
def bodyF (f : api_Frame) : List UInt8 := if f.Kind = 2 ∨ f.Kind = 3 ∨ f.Kind = 4 then numBytes f.IDs.length ++ idsL f.IDs else if f.Kind = 5 then numBytes f.Ops.length ++ opsL f.Ops else numBytes f.N.toNat
theorem enc_body (f : api_Frame) : encF f = f.Kind :: bodyF f := rfl
theorem raw_app (f : api_Frame) (h : goodF f = true) (x : List UInt8) : rawF f.Kind (bodyF f ++ x) = some f := by
  unfold rawF bodyF
  rcases kinds f.Kind with k | k | k | k
  · rw [if_pos k, if_pos k]
    rw [goodF_l k] at h
    simp only [Bool.and_eq_true, decide_eq_true_eq] at h
    obtain ⟨⟨⟨h1, h2⟩, h3⟩, h4⟩ := h
    rw [List.append_assoc, rdIDs_app _ _ h3 h4]
    simp only [if_true]
    exact congrArg some (frame_ext rfl h1.symm rfl h2.symm)
  · have k0 : ¬ (f.Kind = 2 ∨ f.Kind = 3 ∨ f.Kind = 4) := by rw [k]; decide
    rw [if_neg k0, if_neg k0, if_pos k, if_pos k]
    rw [goodF_5 k] at h
    simp only [Bool.and_eq_true, decide_eq_true_eq] at h
    obtain ⟨⟨⟨⟨h1, h2⟩, h3⟩, h4⟩, h5⟩ := h
    rw [List.append_assoc, readN_app (by omega)]
    rw [if_neg (by simp only []; omega)]
    simp only [List.drop_left, rdOps_app _ _ h4, Option.map_some]
    exact congrArg some (frame_ext rfl h1.symm h2.symm rfl)
  · have k0 : ¬ (f.Kind = 2 ∨ f.Kind = 3 ∨ f.Kind = 4) := by rcases k with e | e <;> rw [e] <;> decide
    have k1 : f.Kind ≠ 5 := by rcases k with e | e <;> rw [e] <;> decide
    rw [if_neg k0, if_neg k0, if_neg k1, if_neg k1]
    rw [goodF_n k] at h
    simp only [Bool.and_eq_true, decide_eq_true_eq] at h
    rw [readN_app f.N.toNat_lt, if_pos rfl]
    exact congrArg some (frame_ext rfl (by simp) h.1.symm h.2.symm)
  · exfalso
    unfold goodF at h
    simp only [if_neg k.1, if_neg k.2.1, if_neg k.2.2] at h
    cases h
theorem parse_enc (f : api_Frame) (h : goodF f = true) : parseF (encF f) = some f := by
  have := raw_app f h []
  rw [List.append_nil] at this
  rw [enc_body]
  unfold parseF
  simp only [this]
  rw [if_pos ⟨h, enc_body f⟩]
theorem enc_prefix {f g : api_Frame} (hf : goodF f = true) (hg : goodF g = true) {x : List UInt8} (h : encF f = encF g ++ x) : f = g ∧ x = [] := by
  have h1 := raw_app f hf []
  have h2 := raw_app g hg x
  rw [enc_body, enc_body, List.cons_append, List.cons.injEq] at h
  rw [List.append_nil, h.2, h.1, h2] at h1
  have e : f = g := (Option.some.inj h1).symm
  refine ⟨e, ?_⟩
  have := h.2
  rw [e] at this
  have hl := congrArg List.length this
  simp at hl
  exact hl
theorem parse_more (f : api_Frame) (h : goodF f = true) (x : List UInt8) (hx : x ≠ []) (hl : (encF f ++ x).length ≤ 2600) : parseF (encF f ++ x) = none := by
  cases hp : parseF (encF f ++ x) with
  | none => rfl
  | some g =>
    obtain ⟨h1, h2, h3⟩ := parse_ok hl hp
    exact absurd (enc_prefix h2 h h3).2 hx
theorem parse_less (f : api_Frame) (h : goodF f = true) (n : Nat) (hn : n < (encF f).length) (hl : (encF f).length ≤ 2600) : parseF ((encF f).take n) = none := by
  cases hp : parseF ((encF f).take n) with
  | none => rfl
  | some g =>
    obtain ⟨h1, h2, h3⟩ := parse_ok (by simp; omega) hp
    have := (enc_prefix h h2 (x := (encF f).drop n) (by rw [h3, List.take_append_drop])).2
    have := congrArg List.length this
    simp at this
    omega
theorem is_law (f : api_Frame) (b : List UInt8) (ok : okF f) (h : goodF f = true) (e : encF f = b) : braidlaw07_is f b = some true := by
  have hs := encF_short h
  subst e
  unfold braidlaw07_is
  rw [encode_eq f ok, parse_eq _ (by omega), parse_enc f h, h]
  simp only [bs, outF, if_true]
  rw [if_pos (by rfl), sameB_eq _ _ (by omega)]
  simp only [bs, decide_true, if_true]
  rw [if_pos (by rfl), same7_eq f f (by have := ok.1; omega) (by have := ok.2.1; omega) (fun x hx => by have := ok.2.2 x hx; omega)]
  simp [bs]
theorem refused7 (b : List UInt8) (hb : b.length ≤ 2600) (h : parseF b = none) : braidlaw07_refused b = some true := by
  unfold braidlaw07_refused
  rw [parse_eq b hb, h]
  rfl
def ris (n : Nat) : List (Vector UInt8 32) := (List.range n).map fun (i : Nat) => vset (Vector.replicate 32 0) ((0 : Nat) : Int) (UInt8.ofInt (i : Int))
theorem ris_len (n : Nat) : (ris n).length = n := by simp [ris]
theorem rising7 (n : Nat) (hn : n ≤ 100) : braidlaw07_rising (n : Int) = some (ris n) := by
  unfold braidlaw07_rising
  have := iter_run (F := braidlaw07_rising_L0 (n : Int)) (b := ris n) n (fun i => (ris i, (i : Int))) (fun i hi => by
    unfold braidlaw07_rising_L0
    rw [if_pos (by simp; omega)]
    simp only []
    rw [app_eq (by simp [ris_len]; omega)]
    simp only [bs, w64_nat (show i < 9223372036854775807 by omega)]
    simp [ris, List.range_succ]) (by
    unfold braidlaw07_rising_L0
    rw [if_neg (by simp)])
  have e : iter (braidlaw07_rising_L0 (n : Int)) ([], 0) = some (ris n) := this
  rw [e]
  rfl
theorem inc41 : incr (ris 41) = true := by decide +kernel
theorem nb300 : numBytes 300 = [249, 1, 44] := by simp [numBytes, digits]
theorem nb_0 : numBytes 0 = [0] := by simp [numBytes]
theorem nb_2 : numBytes 2 = [2] := by simp [numBytes]
theorem ok_small (k : UInt8) (n : UInt64) : okF ⟨k, n, [], []⟩ := ⟨by simp, by simp, by simp⟩
theorem no70 : parseF [7, 0] = none := by
  have : (⟨7, 0, [], []⟩ : api_Frame) = ⟨7, 0, [], []⟩ := rfl
  have h1 : rawF 7 [0] = some ⟨7, 0, [], []⟩ := by decide +kernel
  have h2 : goodF ⟨7, 0, [], []⟩ = false := by decide +kernel
  unfold parseF
  simp only [h1, h2]
  simp
theorem no1 : parseF [1] = none := by
  have h1 : rawF 1 [] = none := by decide +kernel
  unfold parseF
  simp only [h1]
theorem alive7 : braidlaw07_alive = some true := by
  unfold braidlaw07_alive
  rw [show (41 : Int) = ((41 : Nat) : Int) from rfl, rising7 41 (by omega)]
  simp only [bs]
  have hs : splitF (ris 41) 2 = (splitL (ris 41) 2, 0) := by
    unfold splitF
    rw [if_neg (not_not_intro (.inl rfl)), if_neg (by rw [ris_len]; omega), if_neg (by rw [inc41]; simp)]
  have hl : splitL (ris 41) 2 = [⟨2, 0, (ris 41).take 40, []⟩, ⟨2, 0, (ris 41).drop 40, []⟩] := by
    unfold splitL; rw [if_pos (by rw [ris_len]; omega)]
  rw [split_eq _ _ (by rw [ris_len]; omega), hs, hl]
  simp only [bs]
  rw [is_law ⟨1, 300, [], []⟩ _ (ok_small _ _) (by decide +kernel) (by rw [encF_n (.inl rfl)]; show (1 : UInt8) :: numBytes 300 = _; rw [nb300])]
  simp only [bs, if_true]
  rw [is_law ⟨3, 0, [], []⟩ _ (ok_small _ _) (by decide +kernel) (by rw [encF_l (.inr (.inl rfl))]; show (3 : UInt8) :: (numBytes 0 ++ []) = _; rw [nb_0]; rfl)]
  simp only [bs, if_true]
  rw [is_law ⟨5, 0, [], [[97, 98], []]⟩ _ ⟨by simp, by simp, by simp⟩ (by
      rw [goodF_5 rfl]
      show (decide ((0 : UInt64) = 0) && decide (([] : List (Vector UInt8 32)) = []) && decide (2 ≤ 8) && [[97, 98], []].all short && decide (1 + (numBytes 2).length + ((numBytes 2 ++ [97, 98]) ++ ((numBytes 0 ++ []) ++ [])).length ≤ 2000)) = true
      rw [nb_0, nb_2]
      decide +kernel) (by
      rw [encF_5 rfl]
      show (5 : UInt8) :: (numBytes 2 ++ ((numBytes 2 ++ [97, 98]) ++ ((numBytes 0 ++ []) ++ []))) = _
      rw [nb_0, nb_2]; rfl)]
  simp only [bs, if_true]
  rw [refused7 _ (by simp) no70]
  simp only [bs, if_true]
  rw [refused7 _ (by simp) no1]
  simp only [bs, if_true]
  rw [if_pos (by rfl), if_pos (by rfl), show (0 : Int) = ((0 : Nat) : Int) from rfl, idx_nat (by simp)]
  simp only [bs]
  rw [if_pos (by simp [ris_len]), show (1 : Int) = ((1 : Nat) : Int) from rfl, idx_nat (by simp)]
  simp [bs, ris_len]
end Go.Proofs.Ytklfgpdfongaeaa
namespace Go.Proofs.Ytklfgpdfongaeaa
open Go Go.RowKit
set_option linter.unusedSimpArgs false
set_option linter.unusedVariables false
theorem same_self (f : api_Frame) (ok : okF f) : braidref07_Same f f = some true := by
  rw [same7_eq f f (by have := ok.1; omega) (by have := ok.2.1; omega) (fun x hx => by have := ok.2.2 x hx; omega)]; simp
theorem one7 (f : api_Frame) (b : List UInt8) (hf : wf_api_Frame f) (hb : (∀ x ∈ b, (fun _ => True) x) ∧ b.length ≤ 9223372036854775807) : braidlaw07_FrameOne f b = some true := by
  unfold braidlaw07_FrameOne
  obtain ⟨r, h1, h2⟩ := great7_eq f hf.2.2.2.1.2
  rw [h1, alive7]
  simp only [bs]
  cases r with
  | true => simp [bs]
  | false =>
    have ok := h2 rfl
    simp only [Bool.false_eq_true, if_false, bs]
    by_cases h3 : 2500 < b.length
    · rw [if_pos (by simp; omega)]
    · rw [if_neg (by simp; omega), encode_eq f ok, rcheck_eq f ok]
      simp only [bs]
      have hpar : (frame_Parse b >>= fun r47 =>
          if r47.2 != 0 then
            if r47.2 == 12 then some true else some false
          else
            frame_Encode r47.1 >>= fun r54 =>
            if r54.2 == 0 then
              braidref01_SameBytes r54.1 b >>= fun r57 =>
              if r57 then
                braidref07_Check r47.1 >>= fun r60 =>
                if r60 == 0 then some true else some false
              else some false
            else some false) = some true := by
        rw [parse_eq b (by omega)]
        cases hp : parseF b with
        | none => rfl
        | some g =>
          obtain ⟨k1, k2, k3⟩ := parse_ok (by omega) hp
          rw [show outF (some g) = (g, 0) from rfl]
          simp only [bs]
          rw [if_neg (by simp), encode_eq g k1, rcheck_eq g k1, k2, k3]
          simp only [bs, if_true]
          rw [if_pos (by rfl), sameB_eq _ _ (by omega)]
          simp [bs]
      cases hg : goodF f with
      | false =>
        simp only [Bool.false_eq_true, if_false]
        rw [if_neg (by decide), if_neg (by decide), or_r]
        exact hpar
      | true =>
        have hs := encF_short hg
        simp only [if_true]
        rw [if_neg (by decide), if_pos (by rfl), parse_eq _ (by omega), parse_enc f hg, show outF (some f) = (f, 0) from rfl]
        simp only [bs]
        rw [if_neg (by simp), same_self f ok]
        simp only [bs, Bool.not_true, Bool.false_eq_true, if_false]
        have hlen : 1 ≤ (encF f).length := by rw [enc_body]; simp
        rw [if_neg (by simp; omega), if_neg (by simp; intro h; rw [h] at hlen; simp at hlen)]
        rw [show (0 : Int) = ((0 : Nat) : Int) from rfl, idx_nat (show 0 < (encF f).length by omega)]
        simp only [bs]
        have h0 : (encF f)[0]'(by omega) = f.Kind := rfl
        rw [h0]
        simp only [bne_self_eq_false, bs, Bool.false_eq_true, if_false]
        rw [app_eq (by simp; omega)]
        simp only [bs, List.nil_append]
        rw [app_eq (by simp; omega)]
        simp only [bs]
        rw [parse_eq _ (by simp; omega), parse_more f hg [0] (by simp) (by simp; omega), show outF none = (⟨0, 0, [], []⟩, 12) from rfl]
        simp only [bs]
        rw [w64_eq (by omega) (by omega), show (((encF f).length : Nat) : Int) - 1 = (((encF f).length - 1 : Nat) : Int) by omega, cut_eq (by omega) (by omega)]
        simp only [bs, List.drop_zero, Nat.sub_zero]
        rw [parse_eq _ (by simp; omega), parse_less f hg _ (by omega) (by omega), show outF none = (⟨0, 0, [], []⟩, 12) from rfl]
        simp only [bs]
        rw [if_neg (by decide), if_neg (by decide), or_r]
        exact hpar
theorem differ7 (f g : api_Frame) (hf : wf_api_Frame f) (hg : wf_api_Frame g) : braidlaw07_FrameDiffer f g = some true := by
  unfold braidlaw07_FrameDiffer
  obtain ⟨r, h1, h2⟩ := great7_eq f hf.2.2.2.1.2
  obtain ⟨q, k1, k2⟩ := great7_eq g hg.2.2.2.1.2
  rw [h1, k1, alive7]
  simp only [bs]
  cases r with
  | true => simp [bs]
  | false =>
    have ok := h2 rfl
    simp only [Bool.false_eq_true, if_false, bs]
    cases q with
    | true => simp [bs]
    | false =>
      have ok2 := k2 rfl
      simp only [Bool.false_eq_true, if_false, bs]
      rw [rcheck_eq f ok, rcheck_eq g ok2, encode_eq f ok, encode_eq g ok2]
      simp only [bs]
      cases h3 : goodF f with
      | false => simp [bs]
      | true =>
        simp only [if_true]
        rw [if_neg (by decide)]
        simp only [bs]
        cases h4 : goodF g with
        | false => simp [bs]
        | true =>
          simp only [if_true]
          rw [if_neg (by decide), if_neg (by decide), if_neg (by decide)]
          have hs := encF_short h3
          have hs2 := encF_short h4
          rw [show min (((encF f).length : Nat) : Int) (((encF g).length : Nat) : Int) = ((min (encF f).length (encF g).length : Nat) : Int) by omega, show (0 : Int) = ((0 : Nat) : Int) from rfl, cut_eq (by omega) (by omega), cut_eq (by omega) (by omega)]
          simp only [bs, List.drop_zero, Nat.sub_zero]
          rw [sameB_eq _ _ (by simp; omega), same7_eq f g (by have := ok.1; omega) (by have := ok.2.1; omega) (fun x hx => by have := ok.2.2 x hx; omega)]
          simp only [bs]
          have e : ((encF f).take (min (encF f).length (encF g).length) = (encF g).take (min (encF f).length (encF g).length)) ↔ f = g := by
            constructor
            · intro h
              rcases Nat.le_total (encF f).length (encF g).length with hl | hl
              · rw [Nat.min_eq_left hl, List.take_length] at h
                exact (enc_prefix h4 h3 (x := (encF g).drop (encF f).length) (by
                  conv => rhs; lhs; rw [h]
                  rw [List.take_append_drop])).1.symm
              · rw [Nat.min_eq_right hl, List.take_length] at h
                exact (enc_prefix h3 h4 (x := (encF f).drop (encF g).length) (by
                  conv => rhs; lhs; rw [← h]
                  rw [List.take_append_drop])).1
            · rintro rfl; rfl
          have e2 : decide ((encF f).take (min (encF f).length (encF g).length) = (encF g).take (min (encF f).length (encF g).length)) = decide (f = g) := decide_eq_decide.2 e
          rw [e2]
          simp
theorem incr_drop : ∀ (l : List (Vector UInt8 32)) (n : Nat), incr l = true → incr (l.drop n) = true
  | l, 0, h => by simpa using h
  | [], n + 1, h => by simpa using h
  | [a], n + 1, h => by simp; rfl
  | a :: b :: l, n + 1, h => by
    simp only [incr, Bool.and_eq_true] at h
    simpa using incr_drop (b :: l) n h.2
theorem incr_take : ∀ (l : List (Vector UInt8 32)) (n : Nat), incr l = true → incr (l.take n) = true
  | l, 0, h => by simp; rfl
  | [], n + 1, h => by simp; rfl
  | [a], n + 1, h => by simp; rfl
  | a :: b :: l, 1, h => by simp; rfl
  | a :: b :: l, n + 2, h => by
    simp only [incr, Bool.and_eq_true] at h
    have := incr_take (b :: l) (n + 1) h.2
    simp only [List.take_succ_cons] at this ⊢
    simp only [incr, Bool.and_eq_true]
    exact ⟨h.1, this⟩
theorem good_part (l : List (Vector UInt8 32)) (k : UInt8) (hk : k = 2 ∨ k = 3 ∨ k = 4) (h : l.length ≤ 40) (hi : incr l = true) : goodF ⟨k, 0, l, []⟩ = true := by
  rw [goodF_l hk]; simp [h, hi]
theorem splits_L0 (k : UInt8) (r : List api_Frame × Int) : ∀ (rest pre : List api_Frame) (acc : List (Vector UInt8 32)), r.1 = pre ++ rest → r.1.length ≤ 10 → (∀ f ∈ r.1, f.Kind = k ∧ okF f ∧ goodF f = true) → acc.length + rest.length * 100 ≤ 2000 →
    iter (braidlaw07_FrameSplits_L0 k r) (acc, (pre.length : Int)) = some (.inr (acc ++ rest.flatMap api_Frame.IDs))
  | [], pre, acc, e, h1, h2, h3 => by
    refine iter_l ?_
    unfold braidlaw07_FrameSplits_L0
    rw [if_neg (by simp [e])]
    simp
  | f :: rest, pre, acc, e, h1, h2, h3 => by
    have hlen : pre.length < r.1.length := by rw [e]; simp
    have hget : r.1[pre.length]'hlen = f := by simp [e]
    obtain ⟨g1, g2, g3⟩ := h2 f (by rw [e]; simp)
    have hF : braidlaw07_FrameSplits_L0 k r (acc, (pre.length : Int)) = some (.inr (acc ++ f.IDs, ((pre.length + 1 : Nat) : Int))) := by
      unfold braidlaw07_FrameSplits_L0
      rw [if_pos (by simp only [decide_eq_true_eq]; omega), idx_nat hlen]
      simp only [hget, bs]
      rw [if_neg (by simp [g1]), rcheck_eq f g2, g3]
      simp only [bs, if_true]
      rw [if_neg (by simp)]
      have := g2.1
      simp only [List.length_cons] at h3
      rw [app_eq (by omega)]
      simp only [bs, w64_nat (show pre.length < 9223372036854775807 by omega)]
    rw [iter_r hF]
    have := g2.1
    have ih := splits_L0 k r rest (pre ++ [f]) (acc ++ f.IDs) (by simp [e]) h1 h2 (by simp only [List.length_append, List.length_cons] at h3 ⊢; omega)
    simp only [List.length_append, List.length_cons, List.length_nil, Nat.zero_add] at ih
    rw [ih]
    simp
theorem splits7 (l : ids) (k : UInt8) (hl : (∀ x ∈ l, (fun v => ∀ x ∈ v.toList, (fun _ => True) x) x) ∧ l.length ≤ 9223372036854775807) (_ : True) : braidlaw07_FrameSplits l k = some true := by
  unfold braidlaw07_FrameSplits
  rw [alive7]
  simp only [bs]
  by_cases h1 : 60 < l.length
  · rw [if_pos (by simp; omega)]
  · rw [if_neg (by simp; omega), split_eq l k hl.2]
    simp only [bs]
    unfold splitF
    by_cases hk : k = 2 ∨ k = 3 ∨ k = 4
    · rw [if_neg (not_not_intro hk), if_neg h1]
      cases hi : incr l with
      | false =>
        simp only [if_true]
        rw [if_pos (by decide), Listed_eq, Rising_eq l hl.2, hi, decide_eq_true hk]
        rfl
      | true =>
        rw [if_neg (show ¬ (true = false) by decide)]
        simp only []
        rw [if_neg (by decide)]
        have hgood : ∀ f ∈ splitL l k, f.Kind = k ∧ okF f ∧ goodF f = true := by
          intro f hf
          unfold splitL at hf
          rcases List.mem_cons.1 hf with rfl | hf
          · exact ⟨rfl, ⟨by simp; omega, by simp, by simp⟩, good_part _ k hk (by simp; omega) (incr_take l 40 hi)⟩
          · split at hf
            · simp only [List.mem_singleton] at hf
              subst hf
              exact ⟨rfl, ⟨by simp; omega, by simp, by simp⟩, good_part _ k hk (by simp; omega) (incr_drop l 40 hi)⟩
            · simp at hf
        have hn : ((splitL l k).length : Int) = max 1 (w64 (Int.tdiv (w64 ((l.length : Int) + 39)) 40)) := by
          rw [w64_eq (x := (l.length : Int) + 39) (by omega) (by omega)]
          have e : Int.tdiv ((l.length : Int) + 39) 40 = (((l.length + 39) / 40 : Nat) : Int) := by
            rw [show (l.length : Int) + 39 = ((l.length + 39 : Nat) : Int) by omega, Int.tdiv_eq_ediv_of_nonneg (by omega)]; rfl
          rw [e, w64_eq (by omega) (by omega)]
          unfold splitL
          split <;> simp <;> omega
        have hn2 : (splitL l k).length ≤ 10 := by unfold splitL; split <;> simp
        rw [if_neg (by rw [hn]; simp)]
        have hL := splits_L0 k (splitL l k, 0) (splitL l k) [] [] rfl hn2 hgood (by simp; omega)
        simp only [List.length_nil, List.nil_append] at hL
        have hL : iter (braidlaw07_FrameSplits_L0 k (splitL l k, 0)) ([], 0) = some (.inr ((splitL l k).flatMap api_Frame.IDs)) := hL
        have hcat : (splitL l k).flatMap api_Frame.IDs = l := by
          unfold splitL
          split
          · simp
          · simp only [List.flatMap_cons, List.flatMap_nil, List.append_nil]; exact List.take_of_length_le (by omega)
        rw [hL, or_r, hcat, sameIDs_eq l l (by omega)]
        simp [bs]
    · rw [if_pos hk]
      simp only []
      rw [if_pos (by decide), Listed_eq, decide_eq_false hk]
      rfl
end Go.Proofs.Ytklfgpdfongaeaa
