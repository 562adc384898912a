/- Functions and what the code of each does. -/
import Derived.Test.YtklfgpdfongaeaaF1
namespace Go.Proofs.Ytklfgpdfongaeaa
open Go Go.RowKit
set_option linter.unusedSimpArgs false
set_option linter.unusedVariables false

def braidlaw04_number (a0 : UInt64) (a1 : List UInt8) : Option (Bool) :=
  wire_ReadNumber a1 >>= fun r1 =>
  wire_Number a0 >>= fun r3 =>
  braidref01_SameBytes r3 a1 >>= fun r5 =>
  if r5 then
    if r1.2.2 == 0 then
      if r1.1 == a0 then
        some (r1.2.1 == (a1.length : Int)) >>= fun y10 =>
        some y10
      else
        some false
    else
      some false
  else
    some false
set_option maxRecDepth 100000 in
theorem braidlaw04_number_ok (a0 : UInt64) (a1 : List UInt8) : Spec Try.prog 67 [.rd u64R a0, .rd (sliceR u8R) a1] [] (braidlaw04_number a0 a1) (fun r nv => ⟨[.rd boolR r], []⟩) := by
  refine spec 33 Try.func67 rfl rfl rfl fun H w => ?_
  refine gSeq <| gReg <| R rfl (asg rfl) <| gNil <| eThen <| gSeq <| gReg <| R rfl (mv rfl) <| call [] [] rfl Try.func26 rfl rfl (wire_ReadNumber_ok _) (aQ rfl <| aN) rN fun r1 n2 => R rfl (mv rfl) <| R rfl (ext rfl rfl) <| R rfl (ext rfl rfl) <| R rfl (ext rfl rfl) <| R rfl (asg rfl) <| R rfl (asg rfl) <| R rfl (asg rfl) <| gNil <| eThen <| gSeq <| gReg <| R rfl (mv rfl) <| call [] [(100, 1)] rfl Try.func31 rfl rfl (wire_Number_ok _) (aQ rfl <| aN) rN fun r3 n4 => R rfl (mv rfl) <| lFrz 1 [15] rfl (fS rfl <| fN) <| call [] [] rfl Try.func30 rfl rfl (braidref01_SameBytes_ok _ _) (aQ rfl <| aQ rfl <| aN) rN fun r5 n6 => R rfl (mv rfl) <| lSplit 18 rfl (fun h7 => ?_) (fun h7 => ?_)
  · skip
    refine lKn 17 rfl h7 <| lRun (gd rfl rfl rfl rfl) rfl rfl (mv rfl) <| lRun (gd rfl rfl rfl rfl) rfl rfl (I.eql rfl rfl) <| R rfl (pkT rfl rfl) <| R rfl (mv rfl) <| lSplit 22 rfl (fun h8 => ?_) (fun h8 => ?_)
    · skip
      refine lKn 20 rfl h8 <| lKn 21 rfl h8 <| lRun (gd rfl rfl rfl rfl) rfl rfl (mv rfl) <| lRun (gd rfl rfl rfl rfl) rfl rfl (mv rfl) <| lRun (gd rfl rfl rfl rfl) rfl rfl (U.eql rfl rfl) <| R rfl (pkT rfl rfl) <| R rfl (mv rfl) <| lSplit 27 rfl (fun h9 => ?_) (fun h9 => ?_)
      · skip
        refine lKn 25 rfl h9 <| lKn 26 rfl h9 <| lRun (gd rfl rfl rfl rfl) rfl rfl (mv rfl) <| lRun (gd rfl rfl rfl rfl) rfl rfl (mv rfl) <| lRun (gd rfl rfl rfl rfl) rfl rfl (len' rfl .rd rfl Try.underlying32) <| lRun (gd rfl rfl rfl rfl) rfl rfl (I.eql rfl rfl) <| R rfl (pkT rfl rfl) <| R rfl (asg rfl) <| lName 4 rfl fun y10 => gNil <| eThen <| gRet <| eRet [] [] rfl (eE rfl <| eN) (rN)
      · skip
        refine lKn 25 rfl h9 <| lKn 26 rfl h9 <| lSkip (gd rfl rfl rfl rfl) rfl rfl <| lSkip (gd rfl rfl rfl rfl) rfl rfl <| lSkip (gd rfl rfl rfl rfl) rfl rfl <| lSkip (gd rfl rfl rfl rfl) rfl rfl <| R rfl (pkF rfl rfl) <| R rfl (asg rfl) <| gNil <| eThen <| gRet <| eRet [] [] rfl (eE rfl <| eN) (rN)
    · skip
      refine lKn 20 rfl h8 <| lKn 21 rfl h8 <| lSkip (gd rfl rfl rfl rfl) rfl rfl <| lSkip (gd rfl rfl rfl rfl) rfl rfl <| lSkip (gd rfl rfl rfl rfl) rfl rfl <| R rfl (pkF rfl rfl) <| R rfl (mv rfl) <| lSkip (gd rfl rfl rfl rfl) rfl rfl <| lSkip (gd rfl rfl rfl rfl) rfl rfl <| lSkip (gd rfl rfl rfl rfl) rfl rfl <| lSkip (gd rfl rfl rfl rfl) rfl rfl <| R rfl (pkF rfl rfl) <| R rfl (asg rfl) <| gNil <| eThen <| gRet <| eRet [] [] rfl (eE rfl <| eN) (rN)
  · skip
    refine lKn 17 rfl h7 <| lSkip (gd rfl rfl rfl rfl) rfl rfl <| lSkip (gd rfl rfl rfl rfl) rfl rfl <| R rfl (pkF rfl rfl) <| R rfl (mv rfl) <| lSkip (gd rfl rfl rfl rfl) rfl rfl <| lSkip (gd rfl rfl rfl rfl) rfl rfl <| lSkip (gd rfl rfl rfl rfl) rfl rfl <| R rfl (pkF rfl rfl) <| R rfl (mv rfl) <| lSkip (gd rfl rfl rfl rfl) rfl rfl <| lSkip (gd rfl rfl rfl rfl) rfl rfl <| lSkip (gd rfl rfl rfl rfl) rfl rfl <| lSkip (gd rfl rfl rfl rfl) rfl rfl <| R rfl (pkF rfl rfl) <| R rfl (asg rfl) <| gNil <| eThen <| gRet <| eRet [] [] rfl (eE rfl <| eN) (rN)


def wire_ReadSigned (a0 : List UInt8) : Option (Int × Int × Int) :=
  wire_ReadNumber a0 >>= fun r1 =>
  if r1.2.2 != 0 then
    some (0, 0, r1.2.2)
  else
    some (xorI (w64 ((shr64 r1.1 1).toNat : Int)) (w64 (0 - (w64 ((r1.1 &&& 1).toNat : Int))))) >>= fun y4 =>
    some (y4, r1.2.1, 0)
set_option maxRecDepth 100000 in
theorem wire_ReadSigned_ok (a0 : List UInt8) : Spec Try.prog 28 [.rd (sliceR u8R) a0] [] (wire_ReadSigned a0) (fun r nv => ⟨[.rd i64R r.1, .rd i64R r.2.1, .rd i64R r.2.2], []⟩) := by
  refine spec 26 Try.func28 rfl rfl rfl fun H w => ?_
  refine gSeq <| gReg <| R rfl (asg rfl) <| R rfl (asg rfl) <| R rfl (asg rfl) <| gNil <| eThen <| gSeq <| gReg <| R rfl (mv rfl) <| call [] [] rfl Try.func26 rfl rfl (wire_ReadNumber_ok _) (aQ rfl <| aN) rN fun r1 n2 => R rfl (mv rfl) <| R rfl (ext rfl rfl) <| R rfl (ext rfl rfl) <| R rfl (ext rfl rfl) <| R rfl (asg rfl) <| R rfl (asg rfl) <| R rfl (asg rfl) <| gNil <| eThen <| gSeq <| gSeq <| gReg <| R rfl (mv rfl) <| R rfl (I.neq rfl rfl) <| gNil <| eThen <| gIf rfl rfl (fun h3 => ?_) (fun h3 => ?_)
  · skip
    refine gSeq <| gReg <| R rfl (mv rfl) <| R rfl (asg rfl) <| R rfl (asg rfl) <| R rfl (asg rfl) <| gNil <| eThen <| gRet <| eTret <| eRet [] [] rfl (eE rfl <| eE rfl <| eE rfl <| eN) (rN)
  · skip
    refine gSkip <| eThen <| gSeq <| gReg <| R rfl (mv rfl) <| R rfl (U.shr rfl rfl (Int.natCast_nonneg _)) <| R rfl (U.toI rfl Try.underlying31 Try.underlying2) <| R rfl (mv rfl) <| R rfl (U.and rfl rfl) <| R rfl (U.toI rfl Try.underlying31 Try.underlying2) <| R rfl (I.neg rfl) <| R rfl (I.xor rfl rfl) <| R rfl (mv rfl) <| R rfl (asg rfl) <| lName 2 rfl fun y4 => R rfl (asg rfl) <| R rfl (asg rfl) <| gNil <| eThen <| gRet <| eRet [] [] rfl (eE rfl <| eE rfl <| eE rfl <| eN) (rN)


def wire_Signed (a0 : Int) : Option ((List UInt8)) :=
  wire_Number ((shl64 (UInt64.ofInt a0) 1) ^^^ (UInt64.ofInt (shrI a0 63))) >>= fun r1 =>
  some r1
set_option maxRecDepth 100000 in
theorem wire_Signed_ok (a0 : Int) : Spec Try.prog 33 [.rd i64R a0] [] (wire_Signed a0) (fun r nv => ⟨[.val (nv 0)], [(100, some (nv 0, .list u8R 5 r))]⟩) := by
  refine spec 11 Try.func33 rfl rfl rfl fun H w => ?_
  refine gSeq <| gReg <| R rfl (asg rfl) <| gNil <| eThen <| gSeq <| gReg <| R rfl (mv rfl) <| R rfl (I.toU rfl Try.underlying2 Try.underlying31) <| R rfl (U.shl rfl rfl (Int.natCast_nonneg _)) <| R rfl (mv rfl) <| R rfl (I.shr rfl rfl (Int.natCast_nonneg _)) <| R rfl (I.toU rfl Try.underlying2 Try.underlying31) <| R rfl (U.xor rfl rfl) <| call [] [(100, 1)] rfl Try.func31 rfl rfl (wire_Number_ok _) (aQ rfl <| aN) rN fun r1 n2 => R rfl (asg rfl) <| gNil <| eThen <| gRet <| eRet [(n2 0)] [1] rfl (eE rfl <| eN) (rR rfl rfl <| rN)


def braidlaw04_signed (a0 : Int) (a1 : List UInt8) : Option (Bool) :=
  wire_ReadSigned a1 >>= fun r1 =>
  wire_Signed a0 >>= fun r3 =>
  braidref01_SameBytes r3 a1 >>= fun r5 =>
  if r5 then
    if r1.2.2 == 0 then
      if r1.1 == a0 then
        some (r1.2.1 == (a1.length : Int)) >>= fun y10 =>
        some y10
      else
        some false
    else
      some false
  else
    some false
set_option maxRecDepth 100000 in
theorem braidlaw04_signed_ok (a0 : Int) (a1 : List UInt8) : Spec Try.prog 68 [.rd i64R a0, .rd (sliceR u8R) a1] [] (braidlaw04_signed a0 a1) (fun r nv => ⟨[.rd boolR r], []⟩) := by
  refine spec 33 Try.func68 rfl rfl rfl fun H w => ?_
  refine gSeq <| gReg <| R rfl (asg rfl) <| gNil <| eThen <| gSeq <| gReg <| R rfl (mv rfl) <| call [] [] rfl Try.func28 rfl rfl (wire_ReadSigned_ok _) (aQ rfl <| aN) rN fun r1 n2 => R rfl (mv rfl) <| R rfl (ext rfl rfl) <| R rfl (ext rfl rfl) <| R rfl (ext rfl rfl) <| R rfl (asg rfl) <| R rfl (asg rfl) <| R rfl (asg rfl) <| gNil <| eThen <| gSeq <| gReg <| R rfl (mv rfl) <| call [] [(100, 1)] rfl Try.func33 rfl rfl (wire_Signed_ok _) (aQ rfl <| aN) rN fun r3 n4 => R rfl (mv rfl) <| lFrz 1 [15] rfl (fS rfl <| fN) <| call [] [] rfl Try.func30 rfl rfl (braidref01_SameBytes_ok _ _) (aQ rfl <| aQ rfl <| aN) rN fun r5 n6 => R rfl (mv rfl) <| lSplit 18 rfl (fun h7 => ?_) (fun h7 => ?_)
  · skip
    refine lKn 17 rfl h7 <| lRun (gd rfl rfl rfl rfl) rfl rfl (mv rfl) <| lRun (gd rfl rfl rfl rfl) rfl rfl (I.eql rfl rfl) <| R rfl (pkT rfl rfl) <| R rfl (mv rfl) <| lSplit 22 rfl (fun h8 => ?_) (fun h8 => ?_)
    · skip
      refine lKn 20 rfl h8 <| lKn 21 rfl h8 <| lRun (gd rfl rfl rfl rfl) rfl rfl (mv rfl) <| lRun (gd rfl rfl rfl rfl) rfl rfl (mv rfl) <| lRun (gd rfl rfl rfl rfl) rfl rfl (I.eql rfl rfl) <| R rfl (pkT rfl rfl) <| R rfl (mv rfl) <| lSplit 27 rfl (fun h9 => ?_) (fun h9 => ?_)
      · skip
        refine lKn 25 rfl h9 <| lKn 26 rfl h9 <| lRun (gd rfl rfl rfl rfl) rfl rfl (mv rfl) <| lRun (gd rfl rfl rfl rfl) rfl rfl (mv rfl) <| lRun (gd rfl rfl rfl rfl) rfl rfl (len' rfl .rd rfl Try.underlying32) <| lRun (gd rfl rfl rfl rfl) rfl rfl (I.eql rfl rfl) <| R rfl (pkT rfl rfl) <| R rfl (asg rfl) <| lName 4 rfl fun y10 => gNil <| eThen <| gRet <| eRet [] [] rfl (eE rfl <| eN) (rN)
      · skip
        refine lKn 25 rfl h9 <| lKn 26 rfl h9 <| lSkip (gd rfl rfl rfl rfl) rfl rfl <| lSkip (gd rfl rfl rfl rfl) rfl rfl <| lSkip (gd rfl rfl rfl rfl) rfl rfl <| lSkip (gd rfl rfl rfl rfl) rfl rfl <| R rfl (pkF rfl rfl) <| R rfl (asg rfl) <| gNil <| eThen <| gRet <| eRet [] [] rfl (eE rfl <| eN) (rN)
    · skip
      refine lKn 20 rfl h8 <| lKn 21 rfl h8 <| lSkip (gd rfl rfl rfl rfl) rfl rfl <| lSkip (gd rfl rfl rfl rfl) rfl rfl <| lSkip (gd rfl rfl rfl rfl) rfl rfl <| R rfl (pkF rfl rfl) <| R rfl (mv rfl) <| lSkip (gd rfl rfl rfl rfl) rfl rfl <| lSkip (gd rfl rfl rfl rfl) rfl rfl <| lSkip (gd rfl rfl rfl rfl) rfl rfl <| lSkip (gd rfl rfl rfl rfl) rfl rfl <| R rfl (pkF rfl rfl) <| R rfl (asg rfl) <| gNil <| eThen <| gRet <| eRet [] [] rfl (eE rfl <| eN) (rN)
  · skip
    refine lKn 17 rfl h7 <| lSkip (gd rfl rfl rfl rfl) rfl rfl <| lSkip (gd rfl rfl rfl rfl) rfl rfl <| R rfl (pkF rfl rfl) <| R rfl (mv rfl) <| lSkip (gd rfl rfl rfl rfl) rfl rfl <| lSkip (gd rfl rfl rfl rfl) rfl rfl <| lSkip (gd rfl rfl rfl rfl) rfl rfl <| R rfl (pkF rfl rfl) <| R rfl (mv rfl) <| lSkip (gd rfl rfl rfl rfl) rfl rfl <| lSkip (gd rfl rfl rfl rfl) rfl rfl <| lSkip (gd rfl rfl rfl rfl) rfl rfl <| lSkip (gd rfl rfl rfl rfl) rfl rfl <| R rfl (pkF rfl rfl) <| R rfl (asg rfl) <| gNil <| eThen <| gRet <| eRet [] [] rfl (eE rfl <| eN) (rN)


def braidlaw04_refused (a0 : List UInt8) : Option (Bool) :=
  wire_ReadNumber a0 >>= fun r1 =>
  wire_ReadSigned a0 >>= fun r3 =>
  if r1.2.2 == 12 then
    if r1.2.1 == 0 then
      if r3.2.2 == 12 then
        some (r3.2.1 == 0)
      else
        some false
    else
      some false
  else
    some false
set_option maxRecDepth 100000 in
theorem braidlaw04_refused_ok (a0 : List UInt8) : Spec Try.prog 69 [.rd (sliceR u8R) a0] [] (braidlaw04_refused a0) (fun r nv => ⟨[.rd boolR r], []⟩) := by
  refine spec 35 Try.func69 rfl rfl rfl fun H w => ?_
  refine gSeq <| gReg <| R rfl (asg rfl) <| gNil <| eThen <| gSeq <| gReg <| R rfl (mv rfl) <| call [] [] rfl Try.func26 rfl rfl (wire_ReadNumber_ok _) (aQ rfl <| aN) rN fun r1 n2 => R rfl (mv rfl) <| R rfl (ext rfl rfl) <| R rfl (ext rfl rfl) <| R rfl (ext rfl rfl) <| R rfl (asg rfl) <| R rfl (asg rfl) <| R rfl (asg rfl) <| gNil <| eThen <| gSeq <| gReg <| R rfl (mv rfl) <| call [] [] rfl Try.func28 rfl rfl (wire_ReadSigned_ok _) (aQ rfl <| aN) rN fun r3 n4 => R rfl (mv rfl) <| R rfl (ext rfl rfl) <| R rfl (ext rfl rfl) <| R rfl (ext rfl rfl) <| R rfl (asg rfl) <| R rfl (asg rfl) <| R rfl (asg rfl) <| gNil <| eThen <| gSeq <| gReg <| R rfl (mv rfl) <| R rfl (I.eql rfl rfl) <| R rfl (mv rfl) <| lSplit 23 rfl (fun h5 => ?_) (fun h5 => ?_)
  · skip
    refine lKn 22 rfl h5 <| lRun (gd rfl rfl rfl rfl) rfl rfl (mv rfl) <| lRun (gd rfl rfl rfl rfl) rfl rfl (I.eql rfl rfl) <| R rfl (pkT rfl rfl) <| R rfl (mv rfl) <| lSplit 27 rfl (fun h6 => ?_) (fun h6 => ?_)
    · skip
      refine lKn 25 rfl h6 <| lKn 26 rfl h6 <| lRun (gd rfl rfl rfl rfl) rfl rfl (mv rfl) <| lRun (gd rfl rfl rfl rfl) rfl rfl (I.eql rfl rfl) <| R rfl (pkT rfl rfl) <| R rfl (mv rfl) <| lSplit 31 rfl (fun h7 => ?_) (fun h7 => ?_)
      · skip
        refine lKn 29 rfl h7 <| lKn 30 rfl h7 <| lRun (gd rfl rfl rfl rfl) rfl rfl (mv rfl) <| lRun (gd rfl rfl rfl rfl) rfl rfl (I.eql rfl rfl) <| R rfl (pkT rfl rfl) <| R rfl (asg rfl) <| gNil <| eThen <| gRet <| eRet [] [] rfl (eE rfl <| eN) (rN)
      · skip
        refine lKn 29 rfl h7 <| lKn 30 rfl h7 <| lSkip (gd rfl rfl rfl rfl) rfl rfl <| lSkip (gd rfl rfl rfl rfl) rfl rfl <| R rfl (pkF rfl rfl) <| R rfl (asg rfl) <| gNil <| eThen <| gRet <| eRet [] [] rfl (eE rfl <| eN) (rN)
    · skip
      refine lKn 25 rfl h6 <| lKn 26 rfl h6 <| lSkip (gd rfl rfl rfl rfl) rfl rfl <| lSkip (gd rfl rfl rfl rfl) rfl rfl <| R rfl (pkF rfl rfl) <| R rfl (mv rfl) <| lSkip (gd rfl rfl rfl rfl) rfl rfl <| lSkip (gd rfl rfl rfl rfl) rfl rfl <| R rfl (pkF rfl rfl) <| R rfl (asg rfl) <| gNil <| eThen <| gRet <| eRet [] [] rfl (eE rfl <| eN) (rN)
  · skip
    refine lKn 22 rfl h5 <| lSkip (gd rfl rfl rfl rfl) rfl rfl <| lSkip (gd rfl rfl rfl rfl) rfl rfl <| R rfl (pkF rfl rfl) <| R rfl (mv rfl) <| lSkip (gd rfl rfl rfl rfl) rfl rfl <| lSkip (gd rfl rfl rfl rfl) rfl rfl <| R rfl (pkF rfl rfl) <| R rfl (mv rfl) <| lSkip (gd rfl rfl rfl rfl) rfl rfl <| lSkip (gd rfl rfl rfl rfl) rfl rfl <| R rfl (pkF rfl rfl) <| R rfl (asg rfl) <| gNil <| eThen <| gRet <| eRet [] [] rfl (eE rfl <| eN) (rN)


def braidlaw04_alive  : Option (Bool) :=
  wire_Bytes [97, 98] >>= fun r2 =>
  braidlaw04_number 247 [247] >>= fun r5 =>
  if r5 then
    braidlaw04_number 248 [248, 248] >>= fun r9 =>
    if r9 then
      braidlaw04_number 256 [249, 1, 0] >>= fun r13 =>
      if r13 then
        braidlaw04_number 18446744073709551615 [255, 255, 255, 255, 255, 255, 255, 255, 255] >>= fun r17 =>
        if r17 then
          braidlaw04_signed (-1) [1] >>= fun r21 =>
          if r21 then
            braidlaw04_signed (-124) [247] >>= fun r25 =>
            if r25 then
              braidlaw04_refused [248, 247] >>= fun r29 =>
              if r29 then
                braidlaw04_refused [249, 0, 255] >>= fun r33 =>
                if r33 then
                  if r2.2 == 0 then
                    braidref01_SameBytes r2.1 [2, 97, 98] >>= fun r38 =>
                    some r38
                  else
                    some false
                else
                  some false
              else
                some false
            else
              some false
          else
            some false
        else
          some false
      else
        some false
    else
      some false
  else
    some false
set_option maxRecDepth 100000 in
theorem braidlaw04_alive_ok  : Spec Try.prog 36 [] [] (braidlaw04_alive) (fun r nv => ⟨[.rd boolR r], []⟩) := by
  refine spec 48 Try.func36 rfl rfl rfl fun H w => ?_
  refine gSeq <| gReg <| R rfl (asg rfl) <| gNil <| eThen <| gSeq <| gReg <| Ef rfl (lit (R := u8R) ([97, 98] : List UInt8) 1 (pP rfl rfl <| pP rfl rfl <| pN) rfl Try.underlying32 ti5 rfl rfl) fun v1 => lCvS 1 rfl rfl rfl Try.underlying32 Try.underlying5 (by simp) <| call [] [(100, 2)] rfl Try.func47 rfl rfl (wire_Bytes_ok _) (aQ rfl <| aN) rN fun r2 n3 => R rfl (mv rfl) <| R rfl (ext rfl rfl) <| R rfl (ext rfl rfl) <| R rfl (asg rfl) <| R rfl (asg rfl) <| gNil <| eThen <| gSeq <| gReg <| Ef rfl (lit (R := u8R) ([247] : List UInt8) 3 (pP rfl rfl <| pN) rfl Try.underlying32 ti5 rfl rfl) fun v4 => lFrz 3 [9] rfl (fS rfl <| fN) <| call [] [] rfl Try.func67 rfl rfl (braidlaw04_number_ok _ _) (aQ rfl <| aQ rfl <| aN) rN fun r5 n6 => R rfl (mv rfl) <| lSplit 11 rfl (fun h7 => ?_) (fun h7 => ?_)
  · skip
    refine lKn 10 rfl h7 <| Efg (gd rfl rfl rfl rfl) rfl rfl (lit (R := u8R) ([248, 248] : List UInt8) 4 (pP rfl rfl <| pP rfl rfl <| pN) rfl Try.underlying32 ti5 rfl rfl) fun v8 => lFrz 4 [12] rfl (fS rfl <| fN) <| callg [] [] (gd rfl rfl rfl rfl) rfl Try.func67 rfl rfl (braidlaw04_number_ok _ _) (aQ rfl <| aQ rfl <| aN) rN fun r9 n10 => R rfl (pkT rfl rfl) <| R rfl (mv rfl) <| lSplit 15 rfl (fun h11 => ?_) (fun h11 => ?_)
    · skip
      refine lKn 13 rfl h11 <| lKn 14 rfl h11 <| Efg (gd rfl rfl rfl rfl) rfl rfl (lit (R := u8R) ([249, 1, 0] : List UInt8) 5 (pP rfl rfl <| pP rfl rfl <| pP rfl rfl <| pN) rfl Try.underlying32 ti5 rfl rfl) fun v12 => lFrz 5 [16] rfl (fS rfl <| fN) <| callg [] [] (gd rfl rfl rfl rfl) rfl Try.func67 rfl rfl (braidlaw04_number_ok _ _) (aQ rfl <| aQ rfl <| aN) rN fun r13 n14 => R rfl (pkT rfl rfl) <| R rfl (mv rfl) <| lSplit 19 rfl (fun h15 => ?_) (fun h15 => ?_)
      · skip
        refine lKn 17 rfl h15 <| lKn 18 rfl h15 <| Efg (gd rfl rfl rfl rfl) rfl rfl (lit (R := u8R) ([255, 255, 255, 255, 255, 255, 255, 255, 255] : List UInt8) 6 (pP rfl rfl <| pP rfl rfl <| pP rfl rfl <| pP rfl rfl <| pP rfl rfl <| pP rfl rfl <| pP rfl rfl <| pP rfl rfl <| pP rfl rfl <| pN) rfl Try.underlying32 ti5 rfl rfl) fun v16 => lFrz 6 [20] rfl (fS rfl <| fN) <| callg [] [] (gd rfl rfl rfl rfl) rfl Try.func67 rfl rfl (braidlaw04_number_ok _ _) (aQ rfl <| aQ rfl <| aN) rN fun r17 n18 => R rfl (pkT rfl rfl) <| R rfl (mv rfl) <| lSplit 23 rfl (fun h19 => ?_) (fun h19 => ?_)
        · skip
          refine lKn 21 rfl h19 <| lKn 22 rfl h19 <| Efg (gd rfl rfl rfl rfl) rfl rfl (lit (R := u8R) ([1] : List UInt8) 7 (pP rfl rfl <| pN) rfl Try.underlying32 ti5 rfl rfl) fun v20 => lFrz 7 [24] rfl (fS rfl <| fN) <| callg [] [] (gd rfl rfl rfl rfl) rfl Try.func68 rfl rfl (braidlaw04_signed_ok _ _) (aQ rfl <| aQ rfl <| aN) rN fun r21 n22 => R rfl (pkT rfl rfl) <| R rfl (mv rfl) <| lSplit 27 rfl (fun h23 => ?_) (fun h23 => ?_)
          · skip
            refine lKn 25 rfl h23 <| lKn 26 rfl h23 <| Efg (gd rfl rfl rfl rfl) rfl rfl (lit (R := u8R) ([247] : List UInt8) 8 (pP rfl rfl <| pN) rfl Try.underlying32 ti5 rfl rfl) fun v24 => lFrz 8 [28] rfl (fS rfl <| fN) <| callg [] [] (gd rfl rfl rfl rfl) rfl Try.func68 rfl rfl (braidlaw04_signed_ok _ _) (aQ rfl <| aQ rfl <| aN) rN fun r25 n26 => R rfl (pkT rfl rfl) <| R rfl (mv rfl) <| lSplit 31 rfl (fun h27 => ?_) (fun h27 => ?_)
            · skip
              refine lKn 29 rfl h27 <| lKn 30 rfl h27 <| Efg (gd rfl rfl rfl rfl) rfl rfl (lit (R := u8R) ([248, 247] : List UInt8) 9 (pP rfl rfl <| pP rfl rfl <| pN) rfl Try.underlying32 ti5 rfl rfl) fun v28 => lFrz 9 [32] rfl (fS rfl <| fN) <| callg [] [] (gd rfl rfl rfl rfl) rfl Try.func69 rfl rfl (braidlaw04_refused_ok _) (aQ rfl <| aN) rN fun r29 n30 => R rfl (pkT rfl rfl) <| R rfl (mv rfl) <| lSplit 35 rfl (fun h31 => ?_) (fun h31 => ?_)
              · skip
                refine lKn 33 rfl h31 <| lKn 34 rfl h31 <| Efg (gd rfl rfl rfl rfl) rfl rfl (lit (R := u8R) ([249, 0, 255] : List UInt8) 10 (pP rfl rfl <| pP rfl rfl <| pP rfl rfl <| pN) rfl Try.underlying32 ti5 rfl rfl) fun v32 => lFrz 10 [36] rfl (fS rfl <| fN) <| callg [] [] (gd rfl rfl rfl rfl) rfl Try.func69 rfl rfl (braidlaw04_refused_ok _) (aQ rfl <| aN) rN fun r33 n34 => R rfl (pkT rfl rfl) <| R rfl (mv rfl) <| lSplit 39 rfl (fun h35 => ?_) (fun h35 => ?_)
                · skip
                  refine lKn 37 rfl h35 <| lKn 38 rfl h35 <| lRun (gd rfl rfl rfl rfl) rfl rfl (mv rfl) <| lRun (gd rfl rfl rfl rfl) rfl rfl (I.eql rfl rfl) <| R rfl (pkT rfl rfl) <| R rfl (mv rfl) <| lSplit 43 rfl (fun h36 => ?_) (fun h36 => ?_)
                  · skip
                    refine lKn 41 rfl h36 <| lKn 42 rfl h36 <| lRun (gd rfl rfl rfl rfl) rfl rfl (mv rfl) <| Efg (gd rfl rfl rfl rfl) rfl rfl (lit (R := u8R) ([2, 97, 98] : List UInt8) 11 (pP rfl rfl <| pP rfl rfl <| pP rfl rfl <| pN) rfl Try.underlying32 ti5 rfl rfl) fun v37 => lFrz 2 [7, 1, 44] rfl (fS rfl <| fS rfl <| fS rfl <| fN) <| lFrz 11 [45] rfl (fS rfl <| fN) <| callg [] [] (gd rfl rfl rfl rfl) rfl Try.func30 rfl rfl (braidref01_SameBytes_ok _ _) (aQ rfl <| aQ rfl <| aN) rN fun r38 n39 => R rfl (pkT rfl rfl) <| R rfl (asg rfl) <| gNil <| eThen <| gRet <| eRet [] [] rfl (eE rfl <| eN) (rN)
                  · skip
                    refine lKn 41 rfl h36 <| lKn 42 rfl h36 <| lSkip (gd rfl rfl rfl rfl) rfl rfl <| lSkip (gd rfl rfl rfl rfl) rfl rfl <| lSkip (gd rfl rfl rfl rfl) rfl rfl <| R rfl (pkF rfl rfl) <| R rfl (asg rfl) <| gNil <| eThen <| gRet <| eRet [] [] rfl (eE rfl <| eN) (rN)
                · skip
                  refine lKn 37 rfl h35 <| lKn 38 rfl h35 <| lSkip (gd rfl rfl rfl rfl) rfl rfl <| lSkip (gd rfl rfl rfl rfl) rfl rfl <| R rfl (pkF rfl rfl) <| R rfl (mv rfl) <| lSkip (gd rfl rfl rfl rfl) rfl rfl <| lSkip (gd rfl rfl rfl rfl) rfl rfl <| lSkip (gd rfl rfl rfl rfl) rfl rfl <| R rfl (pkF rfl rfl) <| R rfl (asg rfl) <| gNil <| eThen <| gRet <| eRet [] [] rfl (eE rfl <| eN) (rN)
              · skip
                refine lKn 33 rfl h31 <| lKn 34 rfl h31 <| lSkip (gd rfl rfl rfl rfl) rfl rfl <| lSkip (gd rfl rfl rfl rfl) rfl rfl <| R rfl (pkF rfl rfl) <| R rfl (mv rfl) <| lSkip (gd rfl rfl rfl rfl) rfl rfl <| lSkip (gd rfl rfl rfl rfl) rfl rfl <| R rfl (pkF rfl rfl) <| R rfl (mv rfl) <| lSkip (gd rfl rfl rfl rfl) rfl rfl <| lSkip (gd rfl rfl rfl rfl) rfl rfl <| lSkip (gd rfl rfl rfl rfl) rfl rfl <| R rfl (pkF rfl rfl) <| R rfl (asg rfl) <| gNil <| eThen <| gRet <| eRet [] [] rfl (eE rfl <| eN) (rN)
            · skip
              refine lKn 29 rfl h27 <| lKn 30 rfl h27 <| lSkip (gd rfl rfl rfl rfl) rfl rfl <| lSkip (gd rfl rfl rfl rfl) rfl rfl <| R rfl (pkF rfl rfl) <| R rfl (mv rfl) <| lSkip (gd rfl rfl rfl rfl) rfl rfl <| lSkip (gd rfl rfl rfl rfl) rfl rfl <| R rfl (pkF rfl rfl) <| R rfl (mv rfl) <| lSkip (gd rfl rfl rfl rfl) rfl rfl <| lSkip (gd rfl rfl rfl rfl) rfl rfl <| R rfl (pkF rfl rfl) <| R rfl (mv rfl) <| lSkip (gd rfl rfl rfl rfl) rfl rfl <| lSkip (gd rfl rfl rfl rfl) rfl rfl <| lSkip (gd rfl rfl rfl rfl) rfl rfl <| R rfl (pkF rfl rfl) <| R rfl (asg rfl) <| gNil <| eThen <| gRet <| eRet [] [] rfl (eE rfl <| eN) (rN)
          · skip
            refine lKn 25 rfl h23 <| lKn 26 rfl h23 <| lSkip (gd rfl rfl rfl rfl) rfl rfl <| lSkip (gd rfl rfl rfl rfl) rfl rfl <| R rfl (pkF rfl rfl) <| R rfl (mv rfl) <| lSkip (gd rfl rfl rfl rfl) rfl rfl <| lSkip (gd rfl rfl rfl rfl) rfl rfl <| R rfl (pkF rfl rfl) <| R rfl (mv rfl) <| lSkip (gd rfl rfl rfl rfl) rfl rfl <| lSkip (gd rfl rfl rfl rfl) rfl rfl <| R rfl (pkF rfl rfl) <| R rfl (mv rfl) <| lSkip (gd rfl rfl rfl rfl) rfl rfl <| lSkip (gd rfl rfl rfl rfl) rfl rfl <| R rfl (pkF rfl rfl) <| R rfl (mv rfl) <| lSkip (gd rfl rfl rfl rfl) rfl rfl <| lSkip (gd rfl rfl rfl rfl) rfl rfl <| lSkip (gd rfl rfl rfl rfl) rfl rfl <| R rfl (pkF rfl rfl) <| R rfl (asg rfl) <| gNil <| eThen <| gRet <| eRet [] [] rfl (eE rfl <| eN) (rN)
        · skip
          refine lKn 21 rfl h19 <| lKn 22 rfl h19 <| lSkip (gd rfl rfl rfl rfl) rfl rfl <| lSkip (gd rfl rfl rfl rfl) rfl rfl <| R rfl (pkF rfl rfl) <| R rfl (mv rfl) <| lSkip (gd rfl rfl rfl rfl) rfl rfl <| lSkip (gd rfl rfl rfl rfl) rfl rfl <| R rfl (pkF rfl rfl) <| R rfl (mv rfl) <| lSkip (gd rfl rfl rfl rfl) rfl rfl <| lSkip (gd rfl rfl rfl rfl) rfl rfl <| R rfl (pkF rfl rfl) <| R rfl (mv rfl) <| lSkip (gd rfl rfl rfl rfl) rfl rfl <| lSkip (gd rfl rfl rfl rfl) rfl rfl <| R rfl (pkF rfl rfl) <| R rfl (mv rfl) <| lSkip (gd rfl rfl rfl rfl) rfl rfl <| lSkip (gd rfl rfl rfl rfl) rfl rfl <| R rfl (pkF rfl rfl) <| R rfl (mv rfl) <| lSkip (gd rfl rfl rfl rfl) rfl rfl <| lSkip (gd rfl rfl rfl rfl) rfl rfl <| lSkip (gd rfl rfl rfl rfl) rfl rfl <| R rfl (pkF rfl rfl) <| R rfl (asg rfl) <| gNil <| eThen <| gRet <| eRet [] [] rfl (eE rfl <| eN) (rN)
      · skip
        refine lKn 17 rfl h15 <| lKn 18 rfl h15 <| lSkip (gd rfl rfl rfl rfl) rfl rfl <| lSkip (gd rfl rfl rfl rfl) rfl rfl <| R rfl (pkF rfl rfl) <| R rfl (mv rfl) <| lSkip (gd rfl rfl rfl rfl) rfl rfl <| lSkip (gd rfl rfl rfl rfl) rfl rfl <| R rfl (pkF rfl rfl) <| R rfl (mv rfl) <| lSkip (gd rfl rfl rfl rfl) rfl rfl <| lSkip (gd rfl rfl rfl rfl) rfl rfl <| R rfl (pkF rfl rfl) <| R rfl (mv rfl) <| lSkip (gd rfl rfl rfl rfl) rfl rfl <| lSkip (gd rfl rfl rfl rfl) rfl rfl <| R rfl (pkF rfl rfl) <| R rfl (mv rfl) <| lSkip (gd rfl rfl rfl rfl) rfl rfl <| lSkip (gd rfl rfl rfl rfl) rfl rfl <| R rfl (pkF rfl rfl) <| R rfl (mv rfl) <| lSkip (gd rfl rfl rfl rfl) rfl rfl <| lSkip (gd rfl rfl rfl rfl) rfl rfl <| R rfl (pkF rfl rfl) <| R rfl (mv rfl) <| lSkip (gd rfl rfl rfl rfl) rfl rfl <| lSkip (gd rfl rfl rfl rfl) rfl rfl <| lSkip (gd rfl rfl rfl rfl) rfl rfl <| R rfl (pkF rfl rfl) <| R rfl (asg rfl) <| gNil <| eThen <| gRet <| eRet [] [] rfl (eE rfl <| eN) (rN)
    · skip
      refine lKn 13 rfl h11 <| lKn 14 rfl h11 <| lSkip (gd rfl rfl rfl rfl) rfl rfl <| lSkip (gd rfl rfl rfl rfl) rfl rfl <| R rfl (pkF rfl rfl) <| R rfl (mv rfl) <| lSkip (gd rfl rfl rfl rfl) rfl rfl <| lSkip (gd rfl rfl rfl rfl) rfl rfl <| R rfl (pkF rfl rfl) <| R rfl (mv rfl) <| lSkip (gd rfl rfl rfl rfl) rfl rfl <| lSkip (gd rfl rfl rfl rfl) rfl rfl <| R rfl (pkF rfl rfl) <| R rfl (mv rfl) <| lSkip (gd rfl rfl rfl rfl) rfl rfl <| lSkip (gd rfl rfl rfl rfl) rfl rfl <| R rfl (pkF rfl rfl) <| R rfl (mv rfl) <| lSkip (gd rfl rfl rfl rfl) rfl rfl <| lSkip (gd rfl rfl rfl rfl) rfl rfl <| R rfl (pkF rfl rfl) <| R rfl (mv rfl) <| lSkip (gd rfl rfl rfl rfl) rfl rfl <| lSkip (gd rfl rfl rfl rfl) rfl rfl <| R rfl (pkF rfl rfl) <| R rfl (mv rfl) <| lSkip (gd rfl rfl rfl rfl) rfl rfl <| lSkip (gd rfl rfl rfl rfl) rfl rfl <| R rfl (pkF rfl rfl) <| R rfl (mv rfl) <| lSkip (gd rfl rfl rfl rfl) rfl rfl <| lSkip (gd rfl rfl rfl rfl) rfl rfl <| lSkip (gd rfl rfl rfl rfl) rfl rfl <| R rfl (pkF rfl rfl) <| R rfl (asg rfl) <| gNil <| eThen <| gRet <| eRet [] [] rfl (eE rfl <| eN) (rN)
  · skip
    refine lKn 10 rfl h7 <| lSkip (gd rfl rfl rfl rfl) rfl rfl <| lSkip (gd rfl rfl rfl rfl) rfl rfl <| R rfl (pkF rfl rfl) <| R rfl (mv rfl) <| lSkip (gd rfl rfl rfl rfl) rfl rfl <| lSkip (gd rfl rfl rfl rfl) rfl rfl <| R rfl (pkF rfl rfl) <| R rfl (mv rfl) <| lSkip (gd rfl rfl rfl rfl) rfl rfl <| lSkip (gd rfl rfl rfl rfl) rfl rfl <| R rfl (pkF rfl rfl) <| R rfl (mv rfl) <| lSkip (gd rfl rfl rfl rfl) rfl rfl <| lSkip (gd rfl rfl rfl rfl) rfl rfl <| R rfl (pkF rfl rfl) <| R rfl (mv rfl) <| lSkip (gd rfl rfl rfl rfl) rfl rfl <| lSkip (gd rfl rfl rfl rfl) rfl rfl <| R rfl (pkF rfl rfl) <| R rfl (mv rfl) <| lSkip (gd rfl rfl rfl rfl) rfl rfl <| lSkip (gd rfl rfl rfl rfl) rfl rfl <| R rfl (pkF rfl rfl) <| R rfl (mv rfl) <| lSkip (gd rfl rfl rfl rfl) rfl rfl <| lSkip (gd rfl rfl rfl rfl) rfl rfl <| R rfl (pkF rfl rfl) <| R rfl (mv rfl) <| lSkip (gd rfl rfl rfl rfl) rfl rfl <| lSkip (gd rfl rfl rfl rfl) rfl rfl <| R rfl (pkF rfl rfl) <| R rfl (mv rfl) <| lSkip (gd rfl rfl rfl rfl) rfl rfl <| lSkip (gd rfl rfl rfl rfl) rfl rfl <| lSkip (gd rfl rfl rfl rfl) rfl rfl <| R rfl (pkF rfl rfl) <| R rfl (asg rfl) <| gNil <| eThen <| gRet <| eRet [] [] rfl (eE rfl <| eN) (rN)

set_option maxRecDepth 100000 in
theorem braidref01_SameBytes_q1_ok (a0 : List UInt8) (a1 : List UInt8) (q1 : Value) (l1 : List UInt8) : Spec Try.prog 30 [.rd (sliceR u8R) a0, .vw u8R q1 l1 a1] [(1, some (q1, .list u8R 5 l1))] (braidref01_SameBytes a0 a1) (fun r nv => ⟨[.rd boolR r], [(1, some (q1, .list u8R 5 l1))]⟩) := by
  refine spec 26 Try.func30 rfl rfl rfl fun H w => ?_
  refine gSeq <| gReg <| R rfl (asg rfl) <| gNil <| eThen <| gSeq <| gSeq <| gReg <| R rfl (mv rfl) <| R rfl (len' rfl .rd rfl Try.underlying32) <| R rfl (mv rfl) <| R rfl (len' rfl (.vw 1 rfl) rfl Try.underlying32) <| R rfl (I.neq rfl rfl) <| gNil <| eThen <| gIf rfl rfl (fun h1 => ?_) (fun h1 => ?_)
  · skip
    refine gSeq <| gReg <| R rfl (asg rfl) <| gNil <| eThen <| gRet <| eTret <| eRet [] [1] rfl (eE rfl <| eN) (rR rfl rfl <| rN)
  · skip
    refine gSkip <| eThen <| gMidR (fun (s2 : Unit) aa ww => Sta (ctx 26 H [(1, some (q1, .list u8R 5 l1))] w) [] [(1, some (q1, .list u8R 5 l1))] aa ww) ?_ (fun s2 => ?_)
    · skip
      refine gSeq <| gReg <| R rfl (asg rfl) <| gNil <| eThen <| gLoop (fun (s3 : Int) aa ww => Sta (ctx 26 H [(1, some (q1, .list u8R 5 l1))] w) [(0, .rd (sliceR u8R) a0), (1, .vw u8R q1 l1 a1), (5, .rd i64R s3)] [(1, some (q1, .list u8R 5 l1))] aa ww) (fun aa ww h => h.sub [1] (sS rfl <| sS rfl <| sS rfl <| sN) (rR rfl rfl <| rN)) (fun s3 => ?_)
      refine gSeq <| gSeq <| gReg <| R rfl (mv rfl) <| R rfl (mv rfl) <| R rfl (len' rfl .rd rfl Try.underlying32) <| R rfl (I.lss rfl rfl) <| gNil <| eThen <| gIf rfl rfl (fun h4 => ?_) (fun h4 => ?_)
      · skip
        refine gSkip <| eThen <| gSeq <| gBlk <| gSeq <| gRegQ mixed (by kernel_rfl) <| Rq rfl (mv rfl) <| Rq rfl (mv rfl) <| qBind fun x5 h6 => Rq rfl (ixR rfl rfl h6 Try.underlying32 ti5 rfl) <| Rq rfl (ldR rfl ty5) <| Rq rfl (mv rfl) <| Rq rfl (mv rfl) <| qBind fun x7 h8 => Rq rfl (ixQ 1 rfl rfl rfl h8 Try.underlying32 ti5) <| Rq rfl (ldQ 1 rfl rfl ty5 rfl) <| Rq rfl (B.neq rfl rfl) <| qNil <| eThen <| gIf rfl rfl (fun h9 => ?_) (fun h9 => ?_)
        · skip
          refine gSeq <| gReg <| R rfl (asg rfl) <| gNil <| eThen <| gRet <| eBret <| eTret <| eLret <| eMret <| eRet [] [1] rfl (eE rfl <| eN) (rR rfl rfl <| rN)
        · skip
          refine gSkip <| eBlk <| eThen <| gReg <| R rfl (mv rfl) <| R rfl (I.add rfl rfl) <| R rfl (asg rfl) <| gNil <| eNext (fun aa ww h => h.sub [1] (sS rfl <| sS rfl <| sS rfl <| sN) (rR rfl rfl <| rN))
      · skip
        refine gExit <| eTexit <| eLeave <| eMidR (fun aa ww h => h.sub [1] (sN) (rR rfl rfl <| rN))
    · skip
      refine gSeq <| gReg <| R rfl (asg rfl) <| gNil <| eThen <| gRet <| eRet [] [1] rfl (eE rfl <| eN) (rR rfl rfl <| rN)

set_option maxRecDepth 100000 in
theorem braidlaw04_number_q1_ok (a0 : UInt64) (a1 : List UInt8) (q1 : Value) (l1 : List UInt8) : Spec Try.prog 67 [.rd u64R a0, .vw u8R q1 l1 a1] [(1, some (q1, .list u8R 5 l1))] (braidlaw04_number a0 a1) (fun r nv => ⟨[.rd boolR r], [(1, some (q1, .list u8R 5 l1))]⟩) := by
  refine spec 33 Try.func67 rfl rfl rfl fun H w => ?_
  refine gSeq <| gReg <| R rfl (asg rfl) <| gNil <| eThen <| gSeq <| gReg <| R rfl (mv rfl) <| call [1] [(1, 1)] rfl Try.func26 rfl rfl (wire_ReadNumber_q0_ok _ _ _) (aQ rfl <| aN) (rR rfl rfl <| rN) fun r1 n2 => R rfl (mv rfl) <| R rfl (ext rfl rfl) <| R rfl (ext rfl rfl) <| R rfl (ext rfl rfl) <| R rfl (asg rfl) <| R rfl (asg rfl) <| R rfl (asg rfl) <| gNil <| eThen <| gSeq <| gReg <| R rfl (mv rfl) <| call [] [(100, 2)] rfl Try.func31 rfl rfl (wire_Number_ok _) (aQ rfl <| aN) rN fun r3 n4 => R rfl (mv rfl) <| lFrz 2 [15] rfl (fS rfl <| fN) <| call [1] [(1, 1)] rfl Try.func30 rfl rfl (braidref01_SameBytes_q1_ok _ _ _ _) (aQ rfl <| aQ rfl <| aN) (rR rfl rfl <| rN) fun r5 n6 => R rfl (mv rfl) <| lSplit 18 rfl (fun h7 => ?_) (fun h7 => ?_)
  · skip
    refine lKn 17 rfl h7 <| lRun (gd rfl rfl rfl rfl) rfl rfl (mv rfl) <| lRun (gd rfl rfl rfl rfl) rfl rfl (I.eql rfl rfl) <| R rfl (pkT rfl rfl) <| R rfl (mv rfl) <| lSplit 22 rfl (fun h8 => ?_) (fun h8 => ?_)
    · skip
      refine lKn 20 rfl h8 <| lKn 21 rfl h8 <| lRun (gd rfl rfl rfl rfl) rfl rfl (mv rfl) <| lRun (gd rfl rfl rfl rfl) rfl rfl (mv rfl) <| lRun (gd rfl rfl rfl rfl) rfl rfl (U.eql rfl rfl) <| R rfl (pkT rfl rfl) <| R rfl (mv rfl) <| lSplit 27 rfl (fun h9 => ?_) (fun h9 => ?_)
      · skip
        refine lKn 25 rfl h9 <| lKn 26 rfl h9 <| lRun (gd rfl rfl rfl rfl) rfl rfl (mv rfl) <| lRun (gd rfl rfl rfl rfl) rfl rfl (mv rfl) <| lRun (gd rfl rfl rfl rfl) rfl rfl (len' rfl (.vw 1 rfl) rfl Try.underlying32) <| lRun (gd rfl rfl rfl rfl) rfl rfl (I.eql rfl rfl) <| R rfl (pkT rfl rfl) <| R rfl (asg rfl) <| lName 4 rfl fun y10 => gNil <| eThen <| gRet <| eRet [] [1] rfl (eE rfl <| eN) (rR rfl rfl <| rN)
      · skip
        refine lKn 25 rfl h9 <| lKn 26 rfl h9 <| lSkip (gd rfl rfl rfl rfl) rfl rfl <| lSkip (gd rfl rfl rfl rfl) rfl rfl <| lSkip (gd rfl rfl rfl rfl) rfl rfl <| lSkip (gd rfl rfl rfl rfl) rfl rfl <| R rfl (pkF rfl rfl) <| R rfl (asg rfl) <| gNil <| eThen <| gRet <| eRet [] [1] rfl (eE rfl <| eN) (rR rfl rfl <| rN)
    · skip
      refine lKn 20 rfl h8 <| lKn 21 rfl h8 <| lSkip (gd rfl rfl rfl rfl) rfl rfl <| lSkip (gd rfl rfl rfl rfl) rfl rfl <| lSkip (gd rfl rfl rfl rfl) rfl rfl <| R rfl (pkF rfl rfl) <| R rfl (mv rfl) <| lSkip (gd rfl rfl rfl rfl) rfl rfl <| lSkip (gd rfl rfl rfl rfl) rfl rfl <| lSkip (gd rfl rfl rfl rfl) rfl rfl <| lSkip (gd rfl rfl rfl rfl) rfl rfl <| R rfl (pkF rfl rfl) <| R rfl (asg rfl) <| gNil <| eThen <| gRet <| eRet [] [1] rfl (eE rfl <| eN) (rR rfl rfl <| rN)
  · skip
    refine lKn 17 rfl h7 <| lSkip (gd rfl rfl rfl rfl) rfl rfl <| lSkip (gd rfl rfl rfl rfl) rfl rfl <| R rfl (pkF rfl rfl) <| R rfl (mv rfl) <| lSkip (gd rfl rfl rfl rfl) rfl rfl <| lSkip (gd rfl rfl rfl rfl) rfl rfl <| lSkip (gd rfl rfl rfl rfl) rfl rfl <| R rfl (pkF rfl rfl) <| R rfl (mv rfl) <| lSkip (gd rfl rfl rfl rfl) rfl rfl <| lSkip (gd rfl rfl rfl rfl) rfl rfl <| lSkip (gd rfl rfl rfl rfl) rfl rfl <| lSkip (gd rfl rfl rfl rfl) rfl rfl <| R rfl (pkF rfl rfl) <| R rfl (asg rfl) <| gNil <| eThen <| gRet <| eRet [] [1] rfl (eE rfl <| eN) (rR rfl rfl <| rN)

set_option maxRecDepth 100000 in
theorem wire_ReadSigned_q0_ok (a0 : List UInt8) (q0 : Value) (l0 : List UInt8) : Spec Try.prog 28 [.vw u8R q0 l0 a0] [(1, some (q0, .list u8R 5 l0))] (wire_ReadSigned a0) (fun r nv => ⟨[.rd i64R r.1, .rd i64R r.2.1, .rd i64R r.2.2], [(1, some (q0, .list u8R 5 l0))]⟩) := by
  refine spec 26 Try.func28 rfl rfl rfl fun H w => ?_
  refine gSeq <| gReg <| R rfl (asg rfl) <| R rfl (asg rfl) <| R rfl (asg rfl) <| gNil <| eThen <| gSeq <| gReg <| R rfl (mv rfl) <| call [1] [(1, 1)] rfl Try.func26 rfl rfl (wire_ReadNumber_q0_ok _ _ _) (aQ rfl <| aN) (rR rfl rfl <| rN) fun r1 n2 => R rfl (mv rfl) <| R rfl (ext rfl rfl) <| R rfl (ext rfl rfl) <| R rfl (ext rfl rfl) <| R rfl (asg rfl) <| R rfl (asg rfl) <| R rfl (asg rfl) <| gNil <| eThen <| gSeq <| gSeq <| gReg <| R rfl (mv rfl) <| R rfl (I.neq rfl rfl) <| gNil <| eThen <| gIf rfl rfl (fun h3 => ?_) (fun h3 => ?_)
  · skip
    refine gSeq <| gReg <| R rfl (mv rfl) <| R rfl (asg rfl) <| R rfl (asg rfl) <| R rfl (asg rfl) <| gNil <| eThen <| gRet <| eTret <| eRet [] [1] rfl (eE rfl <| eE rfl <| eE rfl <| eN) (rR rfl rfl <| rN)
  · skip
    refine gSkip <| eThen <| gSeq <| gReg <| R rfl (mv rfl) <| R rfl (U.shr rfl rfl (Int.natCast_nonneg _)) <| R rfl (U.toI rfl Try.underlying31 Try.underlying2) <| R rfl (mv rfl) <| R rfl (U.and rfl rfl) <| R rfl (U.toI rfl Try.underlying31 Try.underlying2) <| R rfl (I.neg rfl) <| R rfl (I.xor rfl rfl) <| R rfl (mv rfl) <| R rfl (asg rfl) <| lName 2 rfl fun y4 => R rfl (asg rfl) <| R rfl (asg rfl) <| gNil <| eThen <| gRet <| eRet [] [1] rfl (eE rfl <| eE rfl <| eE rfl <| eN) (rR rfl rfl <| rN)

set_option maxRecDepth 100000 in
theorem braidlaw04_signed_q1_ok (a0 : Int) (a1 : List UInt8) (q1 : Value) (l1 : List UInt8) : Spec Try.prog 68 [.rd i64R a0, .vw u8R q1 l1 a1] [(1, some (q1, .list u8R 5 l1))] (braidlaw04_signed a0 a1) (fun r nv => ⟨[.rd boolR r], [(1, some (q1, .list u8R 5 l1))]⟩) := by
  refine spec 33 Try.func68 rfl rfl rfl fun H w => ?_
  refine gSeq <| gReg <| R rfl (asg rfl) <| gNil <| eThen <| gSeq <| gReg <| R rfl (mv rfl) <| call [1] [(1, 1)] rfl Try.func28 rfl rfl (wire_ReadSigned_q0_ok _ _ _) (aQ rfl <| aN) (rR rfl rfl <| rN) fun r1 n2 => R rfl (mv rfl) <| R rfl (ext rfl rfl) <| R rfl (ext rfl rfl) <| R rfl (ext rfl rfl) <| R rfl (asg rfl) <| R rfl (asg rfl) <| R rfl (asg rfl) <| gNil <| eThen <| gSeq <| gReg <| R rfl (mv rfl) <| call [] [(100, 2)] rfl Try.func33 rfl rfl (wire_Signed_ok _) (aQ rfl <| aN) rN fun r3 n4 => R rfl (mv rfl) <| lFrz 2 [15] rfl (fS rfl <| fN) <| call [1] [(1, 1)] rfl Try.func30 rfl rfl (braidref01_SameBytes_q1_ok _ _ _ _) (aQ rfl <| aQ rfl <| aN) (rR rfl rfl <| rN) fun r5 n6 => R rfl (mv rfl) <| lSplit 18 rfl (fun h7 => ?_) (fun h7 => ?_)
  · skip
    refine lKn 17 rfl h7 <| lRun (gd rfl rfl rfl rfl) rfl rfl (mv rfl) <| lRun (gd rfl rfl rfl rfl) rfl rfl (I.eql rfl rfl) <| R rfl (pkT rfl rfl) <| R rfl (mv rfl) <| lSplit 22 rfl (fun h8 => ?_) (fun h8 => ?_)
    · skip
      refine lKn 20 rfl h8 <| lKn 21 rfl h8 <| lRun (gd rfl rfl rfl rfl) rfl rfl (mv rfl) <| lRun (gd rfl rfl rfl rfl) rfl rfl (mv rfl) <| lRun (gd rfl rfl rfl rfl) rfl rfl (I.eql rfl rfl) <| R rfl (pkT rfl rfl) <| R rfl (mv rfl) <| lSplit 27 rfl (fun h9 => ?_) (fun h9 => ?_)
      · skip
        refine lKn 25 rfl h9 <| lKn 26 rfl h9 <| lRun (gd rfl rfl rfl rfl) rfl rfl (mv rfl) <| lRun (gd rfl rfl rfl rfl) rfl rfl (mv rfl) <| lRun (gd rfl rfl rfl rfl) rfl rfl (len' rfl (.vw 1 rfl) rfl Try.underlying32) <| lRun (gd rfl rfl rfl rfl) rfl rfl (I.eql rfl rfl) <| R rfl (pkT rfl rfl) <| R rfl (asg rfl) <| lName 4 rfl fun y10 => gNil <| eThen <| gRet <| eRet [] [1] rfl (eE rfl <| eN) (rR rfl rfl <| rN)
      · skip
        refine lKn 25 rfl h9 <| lKn 26 rfl h9 <| lSkip (gd rfl rfl rfl rfl) rfl rfl <| lSkip (gd rfl rfl rfl rfl) rfl rfl <| lSkip (gd rfl rfl rfl rfl) rfl rfl <| lSkip (gd rfl rfl rfl rfl) rfl rfl <| R rfl (pkF rfl rfl) <| R rfl (asg rfl) <| gNil <| eThen <| gRet <| eRet [] [1] rfl (eE rfl <| eN) (rR rfl rfl <| rN)
    · skip
      refine lKn 20 rfl h8 <| lKn 21 rfl h8 <| lSkip (gd rfl rfl rfl rfl) rfl rfl <| lSkip (gd rfl rfl rfl rfl) rfl rfl <| lSkip (gd rfl rfl rfl rfl) rfl rfl <| R rfl (pkF rfl rfl) <| R rfl (mv rfl) <| lSkip (gd rfl rfl rfl rfl) rfl rfl <| lSkip (gd rfl rfl rfl rfl) rfl rfl <| lSkip (gd rfl rfl rfl rfl) rfl rfl <| lSkip (gd rfl rfl rfl rfl) rfl rfl <| R rfl (pkF rfl rfl) <| R rfl (asg rfl) <| gNil <| eThen <| gRet <| eRet [] [1] rfl (eE rfl <| eN) (rR rfl rfl <| rN)
  · skip
    refine lKn 17 rfl h7 <| lSkip (gd rfl rfl rfl rfl) rfl rfl <| lSkip (gd rfl rfl rfl rfl) rfl rfl <| R rfl (pkF rfl rfl) <| R rfl (mv rfl) <| lSkip (gd rfl rfl rfl rfl) rfl rfl <| lSkip (gd rfl rfl rfl rfl) rfl rfl <| lSkip (gd rfl rfl rfl rfl) rfl rfl <| R rfl (pkF rfl rfl) <| R rfl (mv rfl) <| lSkip (gd rfl rfl rfl rfl) rfl rfl <| lSkip (gd rfl rfl rfl rfl) rfl rfl <| lSkip (gd rfl rfl rfl rfl) rfl rfl <| lSkip (gd rfl rfl rfl rfl) rfl rfl <| R rfl (pkF rfl rfl) <| R rfl (asg rfl) <| gNil <| eThen <| gRet <| eRet [] [1] rfl (eE rfl <| eN) (rR rfl rfl <| rN)

set_option maxRecDepth 100000 in
theorem braidlaw04_refused_q0_ok (a0 : List UInt8) (q0 : Value) (l0 : List UInt8) : Spec Try.prog 69 [.vw u8R q0 l0 a0] [(1, some (q0, .list u8R 5 l0))] (braidlaw04_refused a0) (fun r nv => ⟨[.rd boolR r], [(1, some (q0, .list u8R 5 l0))]⟩) := by
  refine spec 35 Try.func69 rfl rfl rfl fun H w => ?_
  refine gSeq <| gReg <| R rfl (asg rfl) <| gNil <| eThen <| gSeq <| gReg <| R rfl (mv rfl) <| call [1] [(1, 1)] rfl Try.func26 rfl rfl (wire_ReadNumber_q0_ok _ _ _) (aQ rfl <| aN) (rR rfl rfl <| rN) fun r1 n2 => R rfl (mv rfl) <| R rfl (ext rfl rfl) <| R rfl (ext rfl rfl) <| R rfl (ext rfl rfl) <| R rfl (asg rfl) <| R rfl (asg rfl) <| R rfl (asg rfl) <| gNil <| eThen <| gSeq <| gReg <| R rfl (mv rfl) <| call [1] [(1, 1)] rfl Try.func28 rfl rfl (wire_ReadSigned_q0_ok _ _ _) (aQ rfl <| aN) (rR rfl rfl <| rN) fun r3 n4 => R rfl (mv rfl) <| R rfl (ext rfl rfl) <| R rfl (ext rfl rfl) <| R rfl (ext rfl rfl) <| R rfl (asg rfl) <| R rfl (asg rfl) <| R rfl (asg rfl) <| gNil <| eThen <| gSeq <| gReg <| R rfl (mv rfl) <| R rfl (I.eql rfl rfl) <| R rfl (mv rfl) <| lSplit 23 rfl (fun h5 => ?_) (fun h5 => ?_)
  · skip
    refine lKn 22 rfl h5 <| lRun (gd rfl rfl rfl rfl) rfl rfl (mv rfl) <| lRun (gd rfl rfl rfl rfl) rfl rfl (I.eql rfl rfl) <| R rfl (pkT rfl rfl) <| R rfl (mv rfl) <| lSplit 27 rfl (fun h6 => ?_) (fun h6 => ?_)
    · skip
      refine lKn 25 rfl h6 <| lKn 26 rfl h6 <| lRun (gd rfl rfl rfl rfl) rfl rfl (mv rfl) <| lRun (gd rfl rfl rfl rfl) rfl rfl (I.eql rfl rfl) <| R rfl (pkT rfl rfl) <| R rfl (mv rfl) <| lSplit 31 rfl (fun h7 => ?_) (fun h7 => ?_)
      · skip
        refine lKn 29 rfl h7 <| lKn 30 rfl h7 <| lRun (gd rfl rfl rfl rfl) rfl rfl (mv rfl) <| lRun (gd rfl rfl rfl rfl) rfl rfl (I.eql rfl rfl) <| R rfl (pkT rfl rfl) <| R rfl (asg rfl) <| gNil <| eThen <| gRet <| eRet [] [1] rfl (eE rfl <| eN) (rR rfl rfl <| rN)
      · skip
        refine lKn 29 rfl h7 <| lKn 30 rfl h7 <| lSkip (gd rfl rfl rfl rfl) rfl rfl <| lSkip (gd rfl rfl rfl rfl) rfl rfl <| R rfl (pkF rfl rfl) <| R rfl (asg rfl) <| gNil <| eThen <| gRet <| eRet [] [1] rfl (eE rfl <| eN) (rR rfl rfl <| rN)
    · skip
      refine lKn 25 rfl h6 <| lKn 26 rfl h6 <| lSkip (gd rfl rfl rfl rfl) rfl rfl <| lSkip (gd rfl rfl rfl rfl) rfl rfl <| R rfl (pkF rfl rfl) <| R rfl (mv rfl) <| lSkip (gd rfl rfl rfl rfl) rfl rfl <| lSkip (gd rfl rfl rfl rfl) rfl rfl <| R rfl (pkF rfl rfl) <| R rfl (asg rfl) <| gNil <| eThen <| gRet <| eRet [] [1] rfl (eE rfl <| eN) (rR rfl rfl <| rN)
  · skip
    refine lKn 22 rfl h5 <| lSkip (gd rfl rfl rfl rfl) rfl rfl <| lSkip (gd rfl rfl rfl rfl) rfl rfl <| R rfl (pkF rfl rfl) <| R rfl (mv rfl) <| lSkip (gd rfl rfl rfl rfl) rfl rfl <| lSkip (gd rfl rfl rfl rfl) rfl rfl <| R rfl (pkF rfl rfl) <| R rfl (mv rfl) <| lSkip (gd rfl rfl rfl rfl) rfl rfl <| lSkip (gd rfl rfl rfl rfl) rfl rfl <| R rfl (pkF rfl rfl) <| R rfl (asg rfl) <| gNil <| eThen <| gRet <| eRet [] [1] rfl (eE rfl <| eN) (rR rfl rfl <| rN)

set_option maxRecDepth 100000 in
theorem wire_Bytes_q0_ok (a0 : List UInt8) (q0 : Value) (l0 : List UInt8) : Spec Try.prog 47 [.vw u8R q0 l0 a0] [(1, some (q0, .list u8R 5 l0))] (wire_Bytes a0) (fun r nv => ⟨[.val (nv 0), .rd i64R r.2], [(1, some (q0, .list u8R 5 l0)), (100, some (nv 0, .list u8R 5 r.1))]⟩) := by
  refine spec 13 Try.func47 rfl rfl rfl fun H w => ?_
  refine gSeq <| gReg <| R rfl (asg rfl) <| R rfl (asg rfl) <| gNil <| eThen <| gSeq <| gSeq <| gReg <| R rfl (mv rfl) <| R rfl (len' rfl (.vw 1 rfl) rfl Try.underlying32) <| R rfl (I.gtr rfl rfl) <| gNil <| eThen <| gIf rfl rfl (fun h1 => ?_) (fun h1 => ?_)
  · skip
    refine gSeq <| gReg <| R rfl (asg rfl) <| R rfl (asg rfl) <| gNil <| eThen <| gRet <| eTret <| eNew u8R 5 2 <| eRet [(.slice none 0 0)] [1, 2] rfl (eE rfl <| eE rfl <| eN) (rR rfl rfl <| rR rfl rfl <| rN)
  · skip
    refine gSkip <| eThen <| gSeq <| gReg <| R rfl (mv rfl) <| R rfl (len' rfl (.vw 1 rfl) rfl Try.underlying32) <| R rfl (I.toU rfl Try.underlying3 Try.underlying31) <| call [] [(100, 3)] rfl Try.func31 rfl rfl (wire_Number_ok _) (aQ rfl <| aN) rN fun r2 n3 => R rfl (mv rfl) <| lBind fun x4 h5 => Ef rfl (apn 3 rfl rfl rfl (.vw 1 rfl) h5 Try.underlying32 ti5 rfl rfl rfl) fun v6 => R rfl (asg rfl) <| R rfl (asg rfl) <| gNil <| eThen <| gRet <| eRet [v6] [1, 3] rfl (eE rfl <| eE rfl <| eN) (rR rfl rfl <| rR rfl rfl <| rN)


def braidlaw04_WireNames  : Option (Bool) :=
  (braidlaw04_number 0 [0] >>= fun r3 =>
  if r3 then
    braidlaw04_number 255 [248, 255] >>= fun r7 =>
    if r7 then
      braidlaw04_number 65535 [249, 255, 255] >>= fun r11 =>
      if r11 then
        braidlaw04_number 65536 [250, 1, 0, 0] >>= fun r15 =>
        if r15 then
          braidlaw04_signed 0 [0] >>= fun r19 =>
          if r19 then
            braidlaw04_signed 123 [246] >>= fun r23 =>
            if r23 then
              braidlaw04_signed (-125) [248, 249] >>= fun r27 =>
              if r27 then
                braidlaw04_signed 9223372036854775807 [255, 255, 255, 255, 255, 255, 255, 255, 254] >>= fun r31 =>
                if r31 then
                  braidlaw04_signed (-9223372036854775808) [255, 255, 255, 255, 255, 255, 255, 255, 255] >>= fun r35 =>
                  some r35
                else
                  some false
              else
                some false
            else
              some false
          else
            some false
        else
          some false
      else
        some false
    else
      some false
  else
    some false) >>= fun s1 =>
  (braidlaw04_refused [] >>= fun r38 =>
  if r38 then
    braidlaw04_refused [248] >>= fun r42 =>
    if r42 then
      braidlaw04_refused [248, 0] >>= fun r46 =>
      if r46 then
        braidlaw04_refused [249, 1] >>= fun r50 =>
        if r50 then
          braidlaw04_refused [255, 1, 2, 3, 4, 5, 6, 7] >>= fun r54 =>
          if r54 then
            braidlaw04_refused [255, 0, 1, 1, 1, 1, 1, 1, 1] >>= fun r58 =>
            some r58
          else
            some false
        else
          some false
      else
        some false
    else
      some false
  else
    some false) >>= fun s37 =>
  mkn 1 0 10001 >>= fun x60 =>
  wire_Bytes x60 >>= fun r63 =>
  mkn 1 0 10000 >>= fun x65 =>
  wire_Bytes x65 >>= fun r68 =>
  wire_ReadBytes [] (-1) >>= fun r70 =>
  wire_ReadBytes [2, 1] 9 >>= fun r73 =>
  wire_ReadBytes [2, 1, 1] 1 >>= fun r76 =>
  wire_ReadBytes [2, 1, 1, 1] 2 >>= fun r79 =>
  wire_ReadBytes [0] 0 >>= fun r82 =>
  mkn 32 (Vector.replicate 32 0) 61 >>= fun x84 =>
  wire_IDs x84 >>= fun r87 =>
  mkn 32 (Vector.replicate 32 0) 2 >>= fun x89 =>
  wire_IDs x89 >>= fun r92 =>
  wire_IDs [vset (Vector.replicate 32 0) ((0 : Nat) : Int) 2, vset (Vector.replicate 32 0) ((0 : Nat) : Int) 1] >>= fun r95 =>
  wire_IDs [vset (Vector.replicate 32 0) ((0 : Nat) : Int) 1, vset (vset (Vector.replicate 32 0) ((0 : Nat) : Int) 1) ((1 : Nat) : Int) 1] >>= fun r98 =>
  wire_IDs [] >>= fun r100 =>
  if r98.2 != 0 then
    some false
  else
    if (r98.1.length : Int) != 65 then
      some false
    else
      wire_ReadIDs r98.1 (-1) >>= fun r104 =>
      wire_ReadIDs r98.1 1 >>= fun r106 =>
      cut r98.1 0 64 >>= fun x108 =>
      wire_ReadIDs x108 9 >>= fun r110 =>
      wire_ReadIDs r98.1 2 >>= fun r112 =>
      idx r98.1 1 >>= fun x114 =>
      idx (r98.1.set (1 : Int).toNat 9) 33 >>= fun x116 =>
      wire_ReadIDs ((r98.1.set (1 : Int).toNat 9).set (33 : Int).toNat 8) 2 >>= fun r118 =>
      (if r63.2 == 4 then
        if r68.2 == 0 then
          if (r68.1.length : Int) == 10003 then
            if r70.2.2 == 2 then
              if r73.2.2 == 12 then
                if r76.2.2 == 12 then
                  if r79.2.2 == 0 then
                    if (r79.1.length : Int) == 2 then
                      if r79.2.1 == 3 then
                        if r82.2.2 == 0 then
                          if (r82.1.length : Int) == 0 then
                            some (r82.2.1 == 1)
                          else
                            some false
                        else
                          some false
                      else
                        some false
                    else
                      some false
                  else
                    some false
                else
                  some false
              else
                some false
            else
              some false
          else
            some false
        else
          some false
      else
        some false) >>= fun s120 =>
      if s1 then
        if s37 then
          if s120 then
            if r87.2 == 4 then
              if r92.2 == 32 then
                if r95.2 == 32 then
                  if r100.2 == 0 then
                    if (r100.1.length : Int) == 1 then
                      if r104.2.2 == 2 then
                        if r106.2.2 == 12 then
                          if r110.2.2 == 12 then
                            if r112.2.2 == 0 then
                              if r112.2.1 == 65 then
                                braidref04_SameIDs r112.1 [vset (Vector.replicate 32 0) ((0 : Nat) : Int) 1, vset (vset (Vector.replicate 32 0) ((0 : Nat) : Int) 1) ((1 : Nat) : Int) 1] >>= fun r146 =>
                                if r146 then
                                  if r118.2.2 == 12 then
                                    braidlaw04_alive >>= fun r150 =>
                                    some r150
                                  else
                                    some false
                                else
                                  some false
                              else
                                some false
                            else
                              some false
                          else
                            some false
                        else
                          some false
                      else
                        some false
                    else
                      some false
                  else
                    some false
                else
                  some false
              else
                some false
            else
              some false
          else
            some false
        else
          some false
      else
        some false
set_option maxRecDepth 100000 in
theorem braidlaw04_WireNames_ok  : Spec Try.prog 11 [] [] (braidlaw04_WireNames) (fun r nv => ⟨[.rd boolR r], []⟩) := by
  refine spec 325 Try.func11 rfl rfl rfl fun H w => ?_
  refine gSeq <| gReg <| R rfl (asg rfl) <| gNil <| eThen <| gMid (fun (s1 : Bool) aa ww => Sta (ctx 325 H [] w) [(1, .rd boolR s1)] [] aa ww) ?_ (fun s1 => ?_)
  · skip
    refine gReg <| Ef rfl (lit (R := u8R) ([0] : List UInt8) 1 (pP rfl rfl <| pN) rfl Try.underlying32 ti5 rfl rfl) fun v2 => call [1] [(1, 1)] rfl Try.func67 rfl rfl (braidlaw04_number_q1_ok _ _ _ _) (aQ rfl <| aW rfl <| aN) (rR rfl rfl <| rN) fun r3 n4 => R rfl (mv rfl) <| lSplit 50 rfl (fun h5 => ?_) (fun h5 => ?_)
    · skip
      refine lKn 49 rfl h5 <| Efg (gd rfl rfl rfl rfl) rfl rfl (lit (R := u8R) ([248, 255] : List UInt8) 2 (pP rfl rfl <| pP rfl rfl <| pN) rfl Try.underlying32 ti5 rfl rfl) fun v6 => callg [2] [(1, 2)] (gd rfl rfl rfl rfl) rfl Try.func67 rfl rfl (braidlaw04_number_q1_ok _ _ _ _) (aQ rfl <| aW rfl <| aN) (rR rfl rfl <| rN) fun r7 n8 => R rfl (pkT rfl rfl) <| R rfl (mv rfl) <| lSplit 54 rfl (fun h9 => ?_) (fun h9 => ?_)
      · skip
        refine lKn 52 rfl h9 <| lKn 53 rfl h9 <| Efg (gd rfl rfl rfl rfl) rfl rfl (lit (R := u8R) ([249, 255, 255] : List UInt8) 3 (pP rfl rfl <| pP rfl rfl <| pP rfl rfl <| pN) rfl Try.underlying32 ti5 rfl rfl) fun v10 => callg [3] [(1, 3)] (gd rfl rfl rfl rfl) rfl Try.func67 rfl rfl (braidlaw04_number_q1_ok _ _ _ _) (aQ rfl <| aW rfl <| aN) (rR rfl rfl <| rN) fun r11 n12 => R rfl (pkT rfl rfl) <| R rfl (mv rfl) <| lSplit 58 rfl (fun h13 => ?_) (fun h13 => ?_)
        · skip
          refine lKn 56 rfl h13 <| lKn 57 rfl h13 <| Efg (gd rfl rfl rfl rfl) rfl rfl (lit (R := u8R) ([250, 1, 0, 0] : List UInt8) 4 (pP rfl rfl <| pP rfl rfl <| pP rfl rfl <| pP rfl rfl <| pN) rfl Try.underlying32 ti5 rfl rfl) fun v14 => callg [4] [(1, 4)] (gd rfl rfl rfl rfl) rfl Try.func67 rfl rfl (braidlaw04_number_q1_ok _ _ _ _) (aQ rfl <| aW rfl <| aN) (rR rfl rfl <| rN) fun r15 n16 => R rfl (pkT rfl rfl) <| R rfl (mv rfl) <| lSplit 62 rfl (fun h17 => ?_) (fun h17 => ?_)
          · skip
            refine lKn 60 rfl h17 <| lKn 61 rfl h17 <| Efg (gd rfl rfl rfl rfl) rfl rfl (lit (R := u8R) ([0] : List UInt8) 5 (pP rfl rfl <| pN) rfl Try.underlying32 ti5 rfl rfl) fun v18 => callg [5] [(1, 5)] (gd rfl rfl rfl rfl) rfl Try.func68 rfl rfl (braidlaw04_signed_q1_ok _ _ _ _) (aQ rfl <| aW rfl <| aN) (rR rfl rfl <| rN) fun r19 n20 => R rfl (pkT rfl rfl) <| R rfl (mv rfl) <| lSplit 66 rfl (fun h21 => ?_) (fun h21 => ?_)
            · skip
              refine lKn 64 rfl h21 <| lKn 65 rfl h21 <| Efg (gd rfl rfl rfl rfl) rfl rfl (lit (R := u8R) ([246] : List UInt8) 6 (pP rfl rfl <| pN) rfl Try.underlying32 ti5 rfl rfl) fun v22 => callg [6] [(1, 6)] (gd rfl rfl rfl rfl) rfl Try.func68 rfl rfl (braidlaw04_signed_q1_ok _ _ _ _) (aQ rfl <| aW rfl <| aN) (rR rfl rfl <| rN) fun r23 n24 => R rfl (pkT rfl rfl) <| R rfl (mv rfl) <| lSplit 70 rfl (fun h25 => ?_) (fun h25 => ?_)
              · skip
                refine lKn 68 rfl h25 <| lKn 69 rfl h25 <| Efg (gd rfl rfl rfl rfl) rfl rfl (lit (R := u8R) ([248, 249] : List UInt8) 7 (pP rfl rfl <| pP rfl rfl <| pN) rfl Try.underlying32 ti5 rfl rfl) fun v26 => callg [7] [(1, 7)] (gd rfl rfl rfl rfl) rfl Try.func68 rfl rfl (braidlaw04_signed_q1_ok _ _ _ _) (aQ rfl <| aW rfl <| aN) (rR rfl rfl <| rN) fun r27 n28 => R rfl (pkT rfl rfl) <| R rfl (mv rfl) <| lSplit 74 rfl (fun h29 => ?_) (fun h29 => ?_)
                · skip
                  refine lKn 72 rfl h29 <| lKn 73 rfl h29 <| Efg (gd rfl rfl rfl rfl) rfl rfl (lit (R := u8R) ([255, 255, 255, 255, 255, 255, 255, 255, 254] : List UInt8) 8 (pP rfl rfl <| pP rfl rfl <| pP rfl rfl <| pP rfl rfl <| pP rfl rfl <| pP rfl rfl <| pP rfl rfl <| pP rfl rfl <| pP rfl rfl <| pN) rfl Try.underlying32 ti5 rfl rfl) fun v30 => callg [8] [(1, 8)] (gd rfl rfl rfl rfl) rfl Try.func68 rfl rfl (braidlaw04_signed_q1_ok _ _ _ _) (aQ rfl <| aW rfl <| aN) (rR rfl rfl <| rN) fun r31 n32 => R rfl (pkT rfl rfl) <| R rfl (mv rfl) <| lSplit 78 rfl (fun h33 => ?_) (fun h33 => ?_)
                  · skip
                    refine lKn 76 rfl h33 <| lKn 77 rfl h33 <| Efg (gd rfl rfl rfl rfl) rfl rfl (lit (R := u8R) ([255, 255, 255, 255, 255, 255, 255, 255, 255] : List UInt8) 9 (pP rfl rfl <| pP rfl rfl <| pP rfl rfl <| pP rfl rfl <| pP rfl rfl <| pP rfl rfl <| pP rfl rfl <| pP rfl rfl <| pP rfl rfl <| pN) rfl Try.underlying32 ti5 rfl rfl) fun v34 => callg [9] [(1, 9)] (gd rfl rfl rfl rfl) rfl Try.func68 rfl rfl (braidlaw04_signed_q1_ok _ _ _ _) (aQ rfl <| aW rfl <| aN) (rR rfl rfl <| rN) fun r35 n36 => R rfl (pkT rfl rfl) <| R rfl (asg rfl) <| gNil <| eMid (fun aa ww h => h.sub [] (sS rfl <| sN) (rN))
                  · skip
                    refine lKn 76 rfl h33 <| lKn 77 rfl h33 <| lSkip (gd rfl rfl rfl rfl) rfl rfl <| lSkip (gd rfl rfl rfl rfl) rfl rfl <| R rfl (pkF rfl rfl) <| R rfl (asg rfl) <| gNil <| eMid (fun aa ww h => h.sub [] (sS rfl <| sN) (rN))
                · skip
                  refine lKn 72 rfl h29 <| lKn 73 rfl h29 <| lSkip (gd rfl rfl rfl rfl) rfl rfl <| lSkip (gd rfl rfl rfl rfl) rfl rfl <| R rfl (pkF rfl rfl) <| R rfl (mv rfl) <| lSkip (gd rfl rfl rfl rfl) rfl rfl <| lSkip (gd rfl rfl rfl rfl) rfl rfl <| R rfl (pkF rfl rfl) <| R rfl (asg rfl) <| gNil <| eMid (fun aa ww h => h.sub [] (sS rfl <| sN) (rN))
              · skip
                refine lKn 68 rfl h25 <| lKn 69 rfl h25 <| lSkip (gd rfl rfl rfl rfl) rfl rfl <| lSkip (gd rfl rfl rfl rfl) rfl rfl <| R rfl (pkF rfl rfl) <| R rfl (mv rfl) <| lSkip (gd rfl rfl rfl rfl) rfl rfl <| lSkip (gd rfl rfl rfl rfl) rfl rfl <| R rfl (pkF rfl rfl) <| R rfl (mv rfl) <| lSkip (gd rfl rfl rfl rfl) rfl rfl <| lSkip (gd rfl rfl rfl rfl) rfl rfl <| R rfl (pkF rfl rfl) <| R rfl (asg rfl) <| gNil <| eMid (fun aa ww h => h.sub [] (sS rfl <| sN) (rN))
            · skip
              refine lKn 64 rfl h21 <| lKn 65 rfl h21 <| lSkip (gd rfl rfl rfl rfl) rfl rfl <| lSkip (gd rfl rfl rfl rfl) rfl rfl <| R rfl (pkF rfl rfl) <| R rfl (mv rfl) <| lSkip (gd rfl rfl rfl rfl) rfl rfl <| lSkip (gd rfl rfl rfl rfl) rfl rfl <| R rfl (pkF rfl rfl) <| R rfl (mv rfl) <| lSkip (gd rfl rfl rfl rfl) rfl rfl <| lSkip (gd rfl rfl rfl rfl) rfl rfl <| R rfl (pkF rfl rfl) <| R rfl (mv rfl) <| lSkip (gd rfl rfl rfl rfl) rfl rfl <| lSkip (gd rfl rfl rfl rfl) rfl rfl <| R rfl (pkF rfl rfl) <| R rfl (asg rfl) <| gNil <| eMid (fun aa ww h => h.sub [] (sS rfl <| sN) (rN))
          · skip
            refine lKn 60 rfl h17 <| lKn 61 rfl h17 <| lSkip (gd rfl rfl rfl rfl) rfl rfl <| lSkip (gd rfl rfl rfl rfl) rfl rfl <| R rfl (pkF rfl rfl) <| R rfl (mv rfl) <| lSkip (gd rfl rfl rfl rfl) rfl rfl <| lSkip (gd rfl rfl rfl rfl) rfl rfl <| R rfl (pkF rfl rfl) <| R rfl (mv rfl) <| lSkip (gd rfl rfl rfl rfl) rfl rfl <| lSkip (gd rfl rfl rfl rfl) rfl rfl <| R rfl (pkF rfl rfl) <| R rfl (mv rfl) <| lSkip (gd rfl rfl rfl rfl) rfl rfl <| lSkip (gd rfl rfl rfl rfl) rfl rfl <| R rfl (pkF rfl rfl) <| R rfl (mv rfl) <| lSkip (gd rfl rfl rfl rfl) rfl rfl <| lSkip (gd rfl rfl rfl rfl) rfl rfl <| R rfl (pkF rfl rfl) <| R rfl (asg rfl) <| gNil <| eMid (fun aa ww h => h.sub [] (sS rfl <| sN) (rN))
        · skip
          refine lKn 56 rfl h13 <| lKn 57 rfl h13 <| lSkip (gd rfl rfl rfl rfl) rfl rfl <| lSkip (gd rfl rfl rfl rfl) rfl rfl <| R rfl (pkF rfl rfl) <| R rfl (mv rfl) <| lSkip (gd rfl rfl rfl rfl) rfl rfl <| lSkip (gd rfl rfl rfl rfl) rfl rfl <| R rfl (pkF rfl rfl) <| R rfl (mv rfl) <| lSkip (gd rfl rfl rfl rfl) rfl rfl <| lSkip (gd rfl rfl rfl rfl) rfl rfl <| R rfl (pkF rfl rfl) <| R rfl (mv rfl) <| lSkip (gd rfl rfl rfl rfl) rfl rfl <| lSkip (gd rfl rfl rfl rfl) rfl rfl <| R rfl (pkF rfl rfl) <| R rfl (mv rfl) <| lSkip (gd rfl rfl rfl rfl) rfl rfl <| lSkip (gd rfl rfl rfl rfl) rfl rfl <| R rfl (pkF rfl rfl) <| R rfl (mv rfl) <| lSkip (gd rfl rfl rfl rfl) rfl rfl <| lSkip (gd rfl rfl rfl rfl) rfl rfl <| R rfl (pkF rfl rfl) <| R rfl (asg rfl) <| gNil <| eMid (fun aa ww h => h.sub [] (sS rfl <| sN) (rN))
      · skip
        refine lKn 52 rfl h9 <| lKn 53 rfl h9 <| lSkip (gd rfl rfl rfl rfl) rfl rfl <| lSkip (gd rfl rfl rfl rfl) rfl rfl <| R rfl (pkF rfl rfl) <| R rfl (mv rfl) <| lSkip (gd rfl rfl rfl rfl) rfl rfl <| lSkip (gd rfl rfl rfl rfl) rfl rfl <| R rfl (pkF rfl rfl) <| R rfl (mv rfl) <| lSkip (gd rfl rfl rfl rfl) rfl rfl <| lSkip (gd rfl rfl rfl rfl) rfl rfl <| R rfl (pkF rfl rfl) <| R rfl (mv rfl) <| lSkip (gd rfl rfl rfl rfl) rfl rfl <| lSkip (gd rfl rfl rfl rfl) rfl rfl <| R rfl (pkF rfl rfl) <| R rfl (mv rfl) <| lSkip (gd rfl rfl rfl rfl) rfl rfl <| lSkip (gd rfl rfl rfl rfl) rfl rfl <| R rfl (pkF rfl rfl) <| R rfl (mv rfl) <| lSkip (gd rfl rfl rfl rfl) rfl rfl <| lSkip (gd rfl rfl rfl rfl) rfl rfl <| R rfl (pkF rfl rfl) <| R rfl (mv rfl) <| lSkip (gd rfl rfl rfl rfl) rfl rfl <| lSkip (gd rfl rfl rfl rfl) rfl rfl <| R rfl (pkF rfl rfl) <| R rfl (asg rfl) <| gNil <| eMid (fun aa ww h => h.sub [] (sS rfl <| sN) (rN))
    · skip
      refine lKn 49 rfl h5 <| lSkip (gd rfl rfl rfl rfl) rfl rfl <| lSkip (gd rfl rfl rfl rfl) rfl rfl <| R rfl (pkF rfl rfl) <| R rfl (mv rfl) <| lSkip (gd rfl rfl rfl rfl) rfl rfl <| lSkip (gd rfl rfl rfl rfl) rfl rfl <| R rfl (pkF rfl rfl) <| R rfl (mv rfl) <| lSkip (gd rfl rfl rfl rfl) rfl rfl <| lSkip (gd rfl rfl rfl rfl) rfl rfl <| R rfl (pkF rfl rfl) <| R rfl (mv rfl) <| lSkip (gd rfl rfl rfl rfl) rfl rfl <| lSkip (gd rfl rfl rfl rfl) rfl rfl <| R rfl (pkF rfl rfl) <| R rfl (mv rfl) <| lSkip (gd rfl rfl rfl rfl) rfl rfl <| lSkip (gd rfl rfl rfl rfl) rfl rfl <| R rfl (pkF rfl rfl) <| R rfl (mv rfl) <| lSkip (gd rfl rfl rfl rfl) rfl rfl <| lSkip (gd rfl rfl rfl rfl) rfl rfl <| R rfl (pkF rfl rfl) <| R rfl (mv rfl) <| lSkip (gd rfl rfl rfl rfl) rfl rfl <| lSkip (gd rfl rfl rfl rfl) rfl rfl <| R rfl (pkF rfl rfl) <| R rfl (mv rfl) <| lSkip (gd rfl rfl rfl rfl) rfl rfl <| lSkip (gd rfl rfl rfl rfl) rfl rfl <| R rfl (pkF rfl rfl) <| R rfl (asg rfl) <| gNil <| eMid (fun aa ww h => h.sub [] (sS rfl <| sN) (rN))
  · skip
    refine gMid (fun (s37 : Bool) aa ww => Sta (ctx 325 H [] w) [(1, .rd boolR s1), (2, .rd boolR s37)] [] aa ww) ?_ (fun s37 => ?_)
    · skip
      refine gReg <| call [] [] rfl Try.func69 rfl rfl (braidlaw04_refused_ok _) (aNil rfl <| aN) rN fun r38 n39 => R rfl (mv rfl) <| lSplit 83 rfl (fun h40 => ?_) (fun h40 => ?_)
      · skip
        refine lKn 82 rfl h40 <| Efg (gd rfl rfl rfl rfl) rfl rfl (lit (R := u8R) ([248] : List UInt8) 10 (pP rfl rfl <| pN) rfl Try.underlying32 ti5 rfl rfl) fun v41 => callg [10] [(1, 10)] (gd rfl rfl rfl rfl) rfl Try.func69 rfl rfl (braidlaw04_refused_q0_ok _ _ _) (aW rfl <| aN) (rR rfl rfl <| rN) fun r42 n43 => R rfl (pkT rfl rfl) <| R rfl (mv rfl) <| lSplit 87 rfl (fun h44 => ?_) (fun h44 => ?_)
        · skip
          refine lKn 85 rfl h44 <| lKn 86 rfl h44 <| Efg (gd rfl rfl rfl rfl) rfl rfl (lit (R := u8R) ([248, 0] : List UInt8) 11 (pP rfl rfl <| pP rfl rfl <| pN) rfl Try.underlying32 ti5 rfl rfl) fun v45 => callg [11] [(1, 11)] (gd rfl rfl rfl rfl) rfl Try.func69 rfl rfl (braidlaw04_refused_q0_ok _ _ _) (aW rfl <| aN) (rR rfl rfl <| rN) fun r46 n47 => R rfl (pkT rfl rfl) <| R rfl (mv rfl) <| lSplit 91 rfl (fun h48 => ?_) (fun h48 => ?_)
          · skip
            refine lKn 89 rfl h48 <| lKn 90 rfl h48 <| Efg (gd rfl rfl rfl rfl) rfl rfl (lit (R := u8R) ([249, 1] : List UInt8) 12 (pP rfl rfl <| pP rfl rfl <| pN) rfl Try.underlying32 ti5 rfl rfl) fun v49 => callg [12] [(1, 12)] (gd rfl rfl rfl rfl) rfl Try.func69 rfl rfl (braidlaw04_refused_q0_ok _ _ _) (aW rfl <| aN) (rR rfl rfl <| rN) fun r50 n51 => R rfl (pkT rfl rfl) <| R rfl (mv rfl) <| lSplit 95 rfl (fun h52 => ?_) (fun h52 => ?_)
            · skip
              refine lKn 93 rfl h52 <| lKn 94 rfl h52 <| Efg (gd rfl rfl rfl rfl) rfl rfl (lit (R := u8R) ([255, 1, 2, 3, 4, 5, 6, 7] : List UInt8) 13 (pP rfl rfl <| pP rfl rfl <| pP rfl rfl <| pP rfl rfl <| pP rfl rfl <| pP rfl rfl <| pP rfl rfl <| pP rfl rfl <| pN) rfl Try.underlying32 ti5 rfl rfl) fun v53 => callg [13] [(1, 13)] (gd rfl rfl rfl rfl) rfl Try.func69 rfl rfl (braidlaw04_refused_q0_ok _ _ _) (aW rfl <| aN) (rR rfl rfl <| rN) fun r54 n55 => R rfl (pkT rfl rfl) <| R rfl (mv rfl) <| lSplit 99 rfl (fun h56 => ?_) (fun h56 => ?_)
              · skip
                refine lKn 97 rfl h56 <| lKn 98 rfl h56 <| Efg (gd rfl rfl rfl rfl) rfl rfl (lit (R := u8R) ([255, 0, 1, 1, 1, 1, 1, 1, 1] : List UInt8) 14 (pP rfl rfl <| pP rfl rfl <| pP rfl rfl <| pP rfl rfl <| pP rfl rfl <| pP rfl rfl <| pP rfl rfl <| pP rfl rfl <| pP rfl rfl <| pN) rfl Try.underlying32 ti5 rfl rfl) fun v57 => callg [14] [(1, 14)] (gd rfl rfl rfl rfl) rfl Try.func69 rfl rfl (braidlaw04_refused_q0_ok _ _ _) (aW rfl <| aN) (rR rfl rfl <| rN) fun r58 n59 => R rfl (pkT rfl rfl) <| R rfl (asg rfl) <| gNil <| eMid (fun aa ww h => h.sub [] (sS rfl <| sS rfl <| sN) (rN))
              · skip
                refine lKn 97 rfl h56 <| lKn 98 rfl h56 <| lSkip (gd rfl rfl rfl rfl) rfl rfl <| lSkip (gd rfl rfl rfl rfl) rfl rfl <| R rfl (pkF rfl rfl) <| R rfl (asg rfl) <| gNil <| eMid (fun aa ww h => h.sub [] (sS rfl <| sS rfl <| sN) (rN))
            · skip
              refine lKn 93 rfl h52 <| lKn 94 rfl h52 <| lSkip (gd rfl rfl rfl rfl) rfl rfl <| lSkip (gd rfl rfl rfl rfl) rfl rfl <| R rfl (pkF rfl rfl) <| R rfl (mv rfl) <| lSkip (gd rfl rfl rfl rfl) rfl rfl <| lSkip (gd rfl rfl rfl rfl) rfl rfl <| R rfl (pkF rfl rfl) <| R rfl (asg rfl) <| gNil <| eMid (fun aa ww h => h.sub [] (sS rfl <| sS rfl <| sN) (rN))
          · skip
            refine lKn 89 rfl h48 <| lKn 90 rfl h48 <| lSkip (gd rfl rfl rfl rfl) rfl rfl <| lSkip (gd rfl rfl rfl rfl) rfl rfl <| R rfl (pkF rfl rfl) <| R rfl (mv rfl) <| lSkip (gd rfl rfl rfl rfl) rfl rfl <| lSkip (gd rfl rfl rfl rfl) rfl rfl <| R rfl (pkF rfl rfl) <| R rfl (mv rfl) <| lSkip (gd rfl rfl rfl rfl) rfl rfl <| lSkip (gd rfl rfl rfl rfl) rfl rfl <| R rfl (pkF rfl rfl) <| R rfl (asg rfl) <| gNil <| eMid (fun aa ww h => h.sub [] (sS rfl <| sS rfl <| sN) (rN))
        · skip
          refine lKn 85 rfl h44 <| lKn 86 rfl h44 <| lSkip (gd rfl rfl rfl rfl) rfl rfl <| lSkip (gd rfl rfl rfl rfl) rfl rfl <| R rfl (pkF rfl rfl) <| R rfl (mv rfl) <| lSkip (gd rfl rfl rfl rfl) rfl rfl <| lSkip (gd rfl rfl rfl rfl) rfl rfl <| R rfl (pkF rfl rfl) <| R rfl (mv rfl) <| lSkip (gd rfl rfl rfl rfl) rfl rfl <| lSkip (gd rfl rfl rfl rfl) rfl rfl <| R rfl (pkF rfl rfl) <| R rfl (mv rfl) <| lSkip (gd rfl rfl rfl rfl) rfl rfl <| lSkip (gd rfl rfl rfl rfl) rfl rfl <| R rfl (pkF rfl rfl) <| R rfl (asg rfl) <| gNil <| eMid (fun aa ww h => h.sub [] (sS rfl <| sS rfl <| sN) (rN))
      · skip
        refine lKn 82 rfl h40 <| lSkip (gd rfl rfl rfl rfl) rfl rfl <| lSkip (gd rfl rfl rfl rfl) rfl rfl <| R rfl (pkF rfl rfl) <| R rfl (mv rfl) <| lSkip (gd rfl rfl rfl rfl) rfl rfl <| lSkip (gd rfl rfl rfl rfl) rfl rfl <| R rfl (pkF rfl rfl) <| R rfl (mv rfl) <| lSkip (gd rfl rfl rfl rfl) rfl rfl <| lSkip (gd rfl rfl rfl rfl) rfl rfl <| R rfl (pkF rfl rfl) <| R rfl (mv rfl) <| lSkip (gd rfl rfl rfl rfl) rfl rfl <| lSkip (gd rfl rfl rfl rfl) rfl rfl <| R rfl (pkF rfl rfl) <| R rfl (mv rfl) <| lSkip (gd rfl rfl rfl rfl) rfl rfl <| lSkip (gd rfl rfl rfl rfl) rfl rfl <| R rfl (pkF rfl rfl) <| R rfl (asg rfl) <| gNil <| eMid (fun aa ww h => h.sub [] (sS rfl <| sS rfl <| sN) (rN))
    · skip
      refine gSeq <| gReg <| lBind fun x60 h61 => Ef rfl (mks 15 rfl rfl h61 Try.underlying32 ti5 (Zr.num rfl) rfl) fun v62 => call [15] [(100, 16), (1, 15)] rfl Try.func47 rfl rfl (wire_Bytes_q0_ok _ _ _) (aW rfl <| aN) (rR rfl rfl <| rN) fun r63 n64 => R rfl (mv rfl) <| R rfl (ext rfl rfl) <| R rfl (ext rfl rfl) <| R rfl (asg rfl) <| R rfl (asg rfl) <| gNil <| eThen <| gSeq <| gReg <| lBind fun x65 h66 => Ef rfl (mks 17 rfl rfl h66 Try.underlying32 ti5 (Zr.num rfl) rfl) fun v67 => call [17] [(100, 18), (1, 17)] rfl Try.func47 rfl rfl (wire_Bytes_q0_ok _ _ _) (aW rfl <| aN) (rR rfl rfl <| rN) fun r68 n69 => R rfl (mv rfl) <| R rfl (ext rfl rfl) <| R rfl (ext rfl rfl) <| R rfl (asg rfl) <| R rfl (asg rfl) <| gNil <| eThen <| gSeq <| gReg <| call [] [(100, 19)] rfl Try.func48 rfl rfl (wire_ReadBytes_ok _ _) (aNil rfl <| aQ rfl <| aN) rN fun r70 n71 => R rfl (mv rfl) <| R rfl (ext rfl rfl) <| R rfl (ext rfl rfl) <| R rfl (ext rfl rfl) <| R rfl (asg rfl) <| R rfl (asg rfl) <| R rfl (asg rfl) <| gNil <| eThen <| gSeq <| gReg <| Ef rfl (lit (R := u8R) ([2, 1] : List UInt8) 20 (pP rfl rfl <| pP rfl rfl <| pN) rfl Try.underlying32 ti5 rfl rfl) fun v72 => call [20] [(100, 21), (1, 20)] rfl Try.func48 rfl rfl (wire_ReadBytes_q0_ok _ _ _ _) (aW rfl <| aQ rfl <| aN) (rR rfl rfl <| rN) fun r73 n74 => R rfl (mv rfl) <| R rfl (ext rfl rfl) <| R rfl (ext rfl rfl) <| R rfl (ext rfl rfl) <| R rfl (asg rfl) <| R rfl (asg rfl) <| R rfl (asg rfl) <| gNil <| eThen <| gSeq <| gReg <| Ef rfl (lit (R := u8R) ([2, 1, 1] : List UInt8) 22 (pP rfl rfl <| pP rfl rfl <| pP rfl rfl <| pN) rfl Try.underlying32 ti5 rfl rfl) fun v75 => call [22] [(100, 23), (1, 22)] rfl Try.func48 rfl rfl (wire_ReadBytes_q0_ok _ _ _ _) (aW rfl <| aQ rfl <| aN) (rR rfl rfl <| rN) fun r76 n77 => R rfl (mv rfl) <| R rfl (ext rfl rfl) <| R rfl (ext rfl rfl) <| R rfl (ext rfl rfl) <| R rfl (asg rfl) <| R rfl (asg rfl) <| R rfl (asg rfl) <| gNil <| eThen <| gSeq <| gReg <| Ef rfl (lit (R := u8R) ([2, 1, 1, 1] : List UInt8) 24 (pP rfl rfl <| pP rfl rfl <| pP rfl rfl <| pP rfl rfl <| pN) rfl Try.underlying32 ti5 rfl rfl) fun v78 => call [24] [(100, 25), (1, 24)] rfl Try.func48 rfl rfl (wire_ReadBytes_q0_ok _ _ _ _) (aW rfl <| aQ rfl <| aN) (rR rfl rfl <| rN) fun r79 n80 => R rfl (mv rfl) <| R rfl (ext rfl rfl) <| R rfl (ext rfl rfl) <| R rfl (ext rfl rfl) <| R rfl (asg rfl) <| R rfl (asg rfl) <| R rfl (asg rfl) <| gNil <| eThen <| gSeq <| gReg <| Ef rfl (lit (R := u8R) ([0] : List UInt8) 26 (pP rfl rfl <| pN) rfl Try.underlying32 ti5 rfl rfl) fun v81 => call [26] [(100, 27), (1, 26)] rfl Try.func48 rfl rfl (wire_ReadBytes_q0_ok _ _ _ _) (aW rfl <| aQ rfl <| aN) (rR rfl rfl <| rN) fun r82 n83 => R rfl (mv rfl) <| R rfl (ext rfl rfl) <| R rfl (ext rfl rfl) <| R rfl (ext rfl rfl) <| R rfl (asg rfl) <| R rfl (asg rfl) <| R rfl (asg rfl) <| gNil <| eThen <| gSeq <| gReg <| lBind fun x84 h85 => Ef rfl (mks 28 rfl rfl h85 Try.underlying83 ti102 zr101 rfl) fun v86 => lFrz 28 [143] rfl (fS rfl <| fN) <| call [] [(100, 29)] rfl Try.func59 rfl rfl (wire_IDs_ok _) (aQ rfl <| aN) rN fun r87 n88 => R rfl (mv rfl) <| R rfl (ext rfl rfl) <| R rfl (ext rfl rfl) <| R rfl (asg rfl) <| R rfl (asg rfl) <| gNil <| eThen <| gSeq <| gReg <| lBind fun x89 h90 => Ef rfl (mks 30 rfl rfl h90 Try.underlying83 ti102 zr101 rfl) fun v91 => lFrz 30 [148] rfl (fS rfl <| fN) <| call [] [(100, 31)] rfl Try.func59 rfl rfl (wire_IDs_ok _) (aQ rfl <| aN) rN fun r92 n93 => R rfl (mv rfl) <| R rfl (ext rfl rfl) <| R rfl (ext rfl rfl) <| R rfl (asg rfl) <| R rfl (asg rfl) <| gNil <| eThen <| gSeq <| gReg <| R rfl (bldG (x' := (vset (Vector.replicate 32 0) ((0 : Nat) : Int) 2 : Vector UInt8 32)) Try.underlying102 ti102 zr101 ti5 (Bld.cons (Part.el (vidx_ok (k := 0) (by decide))) rfl rfl <| Bld.done rfl)) <| R rfl (bldG (x' := (vset (Vector.replicate 32 0) ((0 : Nat) : Int) 1 : Vector UInt8 32)) Try.underlying102 ti102 zr101 ti5 (Bld.cons (Part.el (vidx_ok (k := 0) (by decide))) rfl rfl <| Bld.done rfl)) <| Ef rfl (lit (R := (arrR 32 u8R)) ([vset (Vector.replicate 32 0) ((0 : Nat) : Int) 2, vset (Vector.replicate 32 0) ((0 : Nat) : Int) 1] : List (Vector UInt8 32)) 32 (pP rfl rfl <| pP rfl rfl <| pN) rfl Try.underlying83 ti102 rfl rfl) fun v94 => lFrz 32 [155] rfl (fS rfl <| fN) <| call [] [(100, 33)] rfl Try.func59 rfl rfl (wire_IDs_ok _) (aQ rfl <| aN) rN fun r95 n96 => R rfl (mv rfl) <| R rfl (ext rfl rfl) <| R rfl (ext rfl rfl) <| R rfl (asg rfl) <| R rfl (asg rfl) <| gNil <| eThen <| gSeq <| gReg <| R rfl (bldG (x' := (vset (Vector.replicate 32 0) ((0 : Nat) : Int) 1 : Vector UInt8 32)) Try.underlying102 ti102 zr101 ti5 (Bld.cons (Part.el (vidx_ok (k := 0) (by decide))) rfl rfl <| Bld.done rfl)) <| R rfl (bldG (x' := (vset (vset (Vector.replicate 32 0) ((0 : Nat) : Int) 1) ((1 : Nat) : Int) 1 : Vector UInt8 32)) Try.underlying102 ti102 zr101 ti5 (Bld.cons (Part.el (vidx_ok (k := 0) (by decide))) rfl rfl <| Bld.cons (Part.el (vidx_ok (k := 1) (by decide))) rfl rfl <| Bld.done rfl)) <| Ef rfl (lit (R := (arrR 32 u8R)) ([vset (Vector.replicate 32 0) ((0 : Nat) : Int) 1, vset (vset (Vector.replicate 32 0) ((0 : Nat) : Int) 1) ((1 : Nat) : Int) 1] : List (Vector UInt8 32)) 34 (pP rfl rfl <| pP rfl rfl <| pN) rfl Try.underlying83 ti102 rfl rfl) fun v97 => lFrz 34 [162] rfl (fS rfl <| fN) <| call [] [(100, 35)] rfl Try.func59 rfl rfl (wire_IDs_ok _) (aQ rfl <| aN) rN fun r98 n99 => R rfl (mv rfl) <| R rfl (ext rfl rfl) <| R rfl (ext rfl rfl) <| R rfl (asg rfl) <| R rfl (asg rfl) <| gNil <| eThen <| gSeq <| gReg <| call [] [(100, 36)] rfl Try.func59 rfl rfl (wire_IDs_ok _) (aNil rfl <| aN) rN fun r100 n101 => R rfl (mv rfl) <| R rfl (ext rfl rfl) <| R rfl (ext rfl rfl) <| R rfl (asg rfl) <| R rfl (asg rfl) <| gNil <| eThen <| gSeq <| gSeq <| gReg <| R rfl (mv rfl) <| R rfl (I.neq rfl rfl) <| R rfl (mv rfl) <| lSplit 172 rfl (fun h102 => ?_) (fun h102 => ?_)
      · skip
        refine lKn 171 rfl h102 <| lSkip (gd rfl rfl rfl rfl) rfl rfl <| lSkip (gd rfl rfl rfl rfl) rfl rfl <| lSkip (gd rfl rfl rfl rfl) rfl rfl <| R rfl (pkT rfl rfl) <| gNil <| eThen <| gTrue rfl <| gSeq <| gReg <| R rfl (asg rfl) <| gNil <| eThen <| gRet <| eTret <| eRet [] [] rfl (eE rfl <| eN) (rN)
      · skip
        refine lKn 171 rfl h102 <| lRun (gd rfl rfl rfl rfl) rfl rfl (mv rfl) <| lRun (gd rfl rfl rfl rfl) rfl rfl (len' rfl (.own 35 rfl) rfl Try.underlying32) <| lRun (gd rfl rfl rfl rfl) rfl rfl (I.neq rfl rfl) <| R rfl (pkF rfl rfl) <| gNil <| eThen <| gIf rfl rfl (fun h103 => ?_) (fun h103 => ?_)
        · skip
          refine gKn 175 rfl h103 <| gSeq <| gReg <| R rfl (asg rfl) <| gNil <| eThen <| gRet <| eTret <| eRet [] [] rfl (eE rfl <| eN) (rN)
        · skip
          refine gKn 175 rfl h103 <| gSkip <| eThen <| gSeq <| gReg <| R rfl (mv rfl) <| call [35] [(1, 35)] rfl Try.func61 rfl rfl (wire_ReadIDs_q0_ok _ _ _ _) (aW rfl <| aQ rfl <| aN) (rR rfl rfl <| rN) fun r104 n105 => R rfl (mv rfl) <| R rfl (ext rfl rfl) <| R rfl (ext rfl rfl) <| R rfl (ext rfl rfl) <| R rfl (asg rfl) <| R rfl (asg rfl) <| R rfl (asg rfl) <| gNil <| eThen <| gSeq <| gReg <| R rfl (mv rfl) <| call [35] [(1, 35)] rfl Try.func61 rfl rfl (wire_ReadIDs_q0_ok _ _ _ _) (aW rfl <| aQ rfl <| aN) (rR rfl rfl <| rN) fun r106 n107 => R rfl (mv rfl) <| R rfl (ext rfl rfl) <| R rfl (ext rfl rfl) <| R rfl (ext rfl rfl) <| R rfl (asg rfl) <| R rfl (asg rfl) <| R rfl (asg rfl) <| gNil <| eThen <| gSeq <| gReg <| R rfl (mv rfl) <| lBind fun x108 h109 => R rfl (cutQ 35 rfl vwW rfl .no (.to rfl) h109 Try.underlying32 ti5) <| call [35] [(1, 35)] rfl Try.func61 rfl rfl (wire_ReadIDs_q0_ok _ _ _ _) (aQ rfl <| aQ rfl <| aN) (rR rfl rfl <| rN) fun r110 n111 => R rfl (mv rfl) <| R rfl (ext rfl rfl) <| R rfl (ext rfl rfl) <| R rfl (ext rfl rfl) <| R rfl (asg rfl) <| R rfl (asg rfl) <| R rfl (asg rfl) <| gNil <| eThen <| gSeq <| gReg <| R rfl (mv rfl) <| call [35] [(1, 35)] rfl Try.func61 rfl rfl (wire_ReadIDs_q0_ok _ _ _ _) (aW rfl <| aQ rfl <| aN) (rR rfl rfl <| rN) fun r112 n113 => R rfl (mv rfl) <| R rfl (ext rfl rfl) <| R rfl (ext rfl rfl) <| R rfl (ext rfl rfl) <| R rfl (asg rfl) <| R rfl (asg rfl) <| R rfl (asg rfl) <| gNil <| eThen <| gSeq <| gReg <| R rfl (mv rfl) <| R rfl (mv rfl) <| lBind fun x114 h115 => R rfl (ixO 35 rfl rfl rfl h115 Try.underlying32 ti5) <| Es (sto 35 rfl rfl (Foc.el h115) rfl ti5) <| lBind fun x116 h117 => R rfl (ixO 35 rfl rfl rfl h117 Try.underlying32 ti5) <| Es (sto 35 rfl rfl (Foc.el h117) rfl ti5) <| gNil <| eThen <| gSeq <| gReg <| R rfl (mv rfl) <| call [35] [(1, 35)] rfl Try.func61 rfl rfl (wire_ReadIDs_q0_ok _ _ _ _) (aW rfl <| aQ rfl <| aN) (rR rfl rfl <| rN) fun r118 n119 => R rfl (mv rfl) <| R rfl (ext rfl rfl) <| R rfl (ext rfl rfl) <| R rfl (ext rfl rfl) <| R rfl (asg rfl) <| R rfl (asg rfl) <| R rfl (asg rfl) <| gNil <| eThen <| gMid (fun (s120 : Bool) aa ww => Sta (ctx 325 H [] w) [(1, .rd boolR s1), (2, .rd boolR s37), (23, .rd i64R r87.2), (25, .rd i64R r92.2), (27, .rd i64R r95.2), (30, .val (n101 0)), (31, .rd i64R r100.2), (34, .rd i64R r104.2.2), (37, .rd i64R r106.2.2), (40, .rd i64R r110.2.2), (41, .rd (sliceR (arrR 32 u8R)) r112.1), (42, .rd i64R r112.2.1), (43, .rd i64R r112.2.2), (46, .rd i64R r118.2.2), (47, .rd boolR s120)] [(36, some ((n101 0), .list u8R 5 r100.1))] aa ww) ?_ (fun s120 => ?_)
          · skip
            refine gReg <| R rfl (mv rfl) <| R rfl (I.eql rfl rfl) <| R rfl (mv rfl) <| lSplit 214 rfl (fun h121 => ?_) (fun h121 => ?_)
            · skip
              refine lKn 213 rfl h121 <| lRun (gd rfl rfl rfl rfl) rfl rfl (mv rfl) <| lRun (gd rfl rfl rfl rfl) rfl rfl (I.eql rfl rfl) <| R rfl (pkT rfl rfl) <| R rfl (mv rfl) <| lSplit 218 rfl (fun h122 => ?_) (fun h122 => ?_)
              · skip
                refine lKn 216 rfl h122 <| lKn 217 rfl h122 <| lRun (gd rfl rfl rfl rfl) rfl rfl (mv rfl) <| lRun (gd rfl rfl rfl rfl) rfl rfl (len' rfl (.own 18 rfl) rfl Try.underlying32) <| lRun (gd rfl rfl rfl rfl) rfl rfl (I.eql rfl rfl) <| R rfl (pkT rfl rfl) <| R rfl (mv rfl) <| lSplit 223 rfl (fun h123 => ?_) (fun h123 => ?_)
                · skip
                  refine lKn 221 rfl h123 <| lKn 222 rfl h123 <| lRun (gd rfl rfl rfl rfl) rfl rfl (mv rfl) <| lRun (gd rfl rfl rfl rfl) rfl rfl (I.eql rfl rfl) <| R rfl (pkT rfl rfl) <| R rfl (mv rfl) <| lSplit 227 rfl (fun h124 => ?_) (fun h124 => ?_)
                  · skip
                    refine lKn 225 rfl h124 <| lKn 226 rfl h124 <| lRun (gd rfl rfl rfl rfl) rfl rfl (mv rfl) <| lRun (gd rfl rfl rfl rfl) rfl rfl (I.eql rfl rfl) <| R rfl (pkT rfl rfl) <| R rfl (mv rfl) <| lSplit 231 rfl (fun h125 => ?_) (fun h125 => ?_)
                    · skip
                      refine lKn 229 rfl h125 <| lKn 230 rfl h125 <| lRun (gd rfl rfl rfl rfl) rfl rfl (mv rfl) <| lRun (gd rfl rfl rfl rfl) rfl rfl (I.eql rfl rfl) <| R rfl (pkT rfl rfl) <| R rfl (mv rfl) <| lSplit 235 rfl (fun h126 => ?_) (fun h126 => ?_)
                      · skip
                        refine lKn 233 rfl h126 <| lKn 234 rfl h126 <| lRun (gd rfl rfl rfl rfl) rfl rfl (mv rfl) <| lRun (gd rfl rfl rfl rfl) rfl rfl (I.eql rfl rfl) <| R rfl (pkT rfl rfl) <| R rfl (mv rfl) <| lSplit 239 rfl (fun h127 => ?_) (fun h127 => ?_)
                        · skip
                          refine lKn 237 rfl h127 <| lKn 238 rfl h127 <| lRun (gd rfl rfl rfl rfl) rfl rfl (mv rfl) <| lRun (gd rfl rfl rfl rfl) rfl rfl (len' rfl (.own 25 rfl) rfl Try.underlying32) <| lRun (gd rfl rfl rfl rfl) rfl rfl (I.eql rfl rfl) <| R rfl (pkT rfl rfl) <| R rfl (mv rfl) <| lSplit 244 rfl (fun h128 => ?_) (fun h128 => ?_)
                          · skip
                            refine lKn 242 rfl h128 <| lKn 243 rfl h128 <| lRun (gd rfl rfl rfl rfl) rfl rfl (mv rfl) <| lRun (gd rfl rfl rfl rfl) rfl rfl (I.eql rfl rfl) <| R rfl (pkT rfl rfl) <| R rfl (mv rfl) <| lSplit 248 rfl (fun h129 => ?_) (fun h129 => ?_)
                            · skip
                              refine lKn 246 rfl h129 <| lKn 247 rfl h129 <| lRun (gd rfl rfl rfl rfl) rfl rfl (mv rfl) <| lRun (gd rfl rfl rfl rfl) rfl rfl (I.eql rfl rfl) <| R rfl (pkT rfl rfl) <| R rfl (mv rfl) <| lSplit 252 rfl (fun h130 => ?_) (fun h130 => ?_)
                              · skip
                                refine lKn 250 rfl h130 <| lKn 251 rfl h130 <| lRun (gd rfl rfl rfl rfl) rfl rfl (mv rfl) <| lRun (gd rfl rfl rfl rfl) rfl rfl (len' rfl (.own 27 rfl) rfl Try.underlying32) <| lRun (gd rfl rfl rfl rfl) rfl rfl (I.eql rfl rfl) <| R rfl (pkT rfl rfl) <| R rfl (mv rfl) <| lSplit 257 rfl (fun h131 => ?_) (fun h131 => ?_)
                                · skip
                                  refine lKn 255 rfl h131 <| lKn 256 rfl h131 <| lRun (gd rfl rfl rfl rfl) rfl rfl (mv rfl) <| lRun (gd rfl rfl rfl rfl) rfl rfl (I.eql rfl rfl) <| R rfl (pkT rfl rfl) <| R rfl (asg rfl) <| gNil <| eMid (fun aa ww h => h.sub [36] (sS rfl <| sS rfl <| sS rfl <| sS rfl <| sS rfl <| sS rfl <| sS rfl <| sS rfl <| sS rfl <| sS rfl <| sS rfl <| sS rfl <| sS rfl <| sS rfl <| sS rfl <| sN) (rR rfl rfl <| rN))
                                · skip
                                  refine lKn 255 rfl h131 <| lKn 256 rfl h131 <| lSkip (gd rfl rfl rfl rfl) rfl rfl <| lSkip (gd rfl rfl rfl rfl) rfl rfl <| R rfl (pkF rfl rfl) <| R rfl (asg rfl) <| gNil <| eMid (fun aa ww h => h.sub [36] (sS rfl <| sS rfl <| sS rfl <| sS rfl <| sS rfl <| sS rfl <| sS rfl <| sS rfl <| sS rfl <| sS rfl <| sS rfl <| sS rfl <| sS rfl <| sS rfl <| sS rfl <| sN) (rR rfl rfl <| rN))
                              · skip
                                refine lKn 250 rfl h130 <| lKn 251 rfl h130 <| lSkip (gd rfl rfl rfl rfl) rfl rfl <| lSkip (gd rfl rfl rfl rfl) rfl rfl <| lSkip (gd rfl rfl rfl rfl) rfl rfl <| R rfl (pkF rfl rfl) <| R rfl (mv rfl) <| lSkip (gd rfl rfl rfl rfl) rfl rfl <| lSkip (gd rfl rfl rfl rfl) rfl rfl <| R rfl (pkF rfl rfl) <| R rfl (asg rfl) <| gNil <| eMid (fun aa ww h => h.sub [36] (sS rfl <| sS rfl <| sS rfl <| sS rfl <| sS rfl <| sS rfl <| sS rfl <| sS rfl <| sS rfl <| sS rfl <| sS rfl <| sS rfl <| sS rfl <| sS rfl <| sS rfl <| sN) (rR rfl rfl <| rN))
                            · skip
                              refine lKn 246 rfl h129 <| lKn 247 rfl h129 <| lSkip (gd rfl rfl rfl rfl) rfl rfl <| lSkip (gd rfl rfl rfl rfl) rfl rfl <| R rfl (pkF rfl rfl) <| R rfl (mv rfl) <| lSkip (gd rfl rfl rfl rfl) rfl rfl <| lSkip (gd rfl rfl rfl rfl) rfl rfl <| lSkip (gd rfl rfl rfl rfl) rfl rfl <| R rfl (pkF rfl rfl) <| R rfl (mv rfl) <| lSkip (gd rfl rfl rfl rfl) rfl rfl <| lSkip (gd rfl rfl rfl rfl) rfl rfl <| R rfl (pkF rfl rfl) <| R rfl (asg rfl) <| gNil <| eMid (fun aa ww h => h.sub [36] (sS rfl <| sS rfl <| sS rfl <| sS rfl <| sS rfl <| sS rfl <| sS rfl <| sS rfl <| sS rfl <| sS rfl <| sS rfl <| sS rfl <| sS rfl <| sS rfl <| sS rfl <| sN) (rR rfl rfl <| rN))
                          · skip
                            refine lKn 242 rfl h128 <| lKn 243 rfl h128 <| lSkip (gd rfl rfl rfl rfl) rfl rfl <| lSkip (gd rfl rfl rfl rfl) rfl rfl <| R rfl (pkF rfl rfl) <| R rfl (mv rfl) <| lSkip (gd rfl rfl rfl rfl) rfl rfl <| lSkip (gd rfl rfl rfl rfl) rfl rfl <| R rfl (pkF rfl rfl) <| R rfl (mv rfl) <| lSkip (gd rfl rfl rfl rfl) rfl rfl <| lSkip (gd rfl rfl rfl rfl) rfl rfl <| lSkip (gd rfl rfl rfl rfl) rfl rfl <| R rfl (pkF rfl rfl) <| R rfl (mv rfl) <| lSkip (gd rfl rfl rfl rfl) rfl rfl <| lSkip (gd rfl rfl rfl rfl) rfl rfl <| R rfl (pkF rfl rfl) <| R rfl (asg rfl) <| gNil <| eMid (fun aa ww h => h.sub [36] (sS rfl <| sS rfl <| sS rfl <| sS rfl <| sS rfl <| sS rfl <| sS rfl <| sS rfl <| sS rfl <| sS rfl <| sS rfl <| sS rfl <| sS rfl <| sS rfl <| sS rfl <| sN) (rR rfl rfl <| rN))
                        · skip
                          refine lKn 237 rfl h127 <| lKn 238 rfl h127 <| lSkip (gd rfl rfl rfl rfl) rfl rfl <| lSkip (gd rfl rfl rfl rfl) rfl rfl <| lSkip (gd rfl rfl rfl rfl) rfl rfl <| R rfl (pkF rfl rfl) <| R rfl (mv rfl) <| lSkip (gd rfl rfl rfl rfl) rfl rfl <| lSkip (gd rfl rfl rfl rfl) rfl rfl <| R rfl (pkF rfl rfl) <| R rfl (mv rfl) <| lSkip (gd rfl rfl rfl rfl) rfl rfl <| lSkip (gd rfl rfl rfl rfl) rfl rfl <| R rfl (pkF rfl rfl) <| R rfl (mv rfl) <| lSkip (gd rfl rfl rfl rfl) rfl rfl <| lSkip (gd rfl rfl rfl rfl) rfl rfl <| lSkip (gd rfl rfl rfl rfl) rfl rfl <| R rfl (pkF rfl rfl) <| R rfl (mv rfl) <| lSkip (gd rfl rfl rfl rfl) rfl rfl <| lSkip (gd rfl rfl rfl rfl) rfl rfl <| R rfl (pkF rfl rfl) <| R rfl (asg rfl) <| gNil <| eMid (fun aa ww h => h.sub [36] (sS rfl <| sS rfl <| sS rfl <| sS rfl <| sS rfl <| sS rfl <| sS rfl <| sS rfl <| sS rfl <| sS rfl <| sS rfl <| sS rfl <| sS rfl <| sS rfl <| sS rfl <| sN) (rR rfl rfl <| rN))
                      · skip
                        refine lKn 233 rfl h126 <| lKn 234 rfl h126 <| lSkip (gd rfl rfl rfl rfl) rfl rfl <| lSkip (gd rfl rfl rfl rfl) rfl rfl <| R rfl (pkF rfl rfl) <| R rfl (mv rfl) <| lSkip (gd rfl rfl rfl rfl) rfl rfl <| lSkip (gd rfl rfl rfl rfl) rfl rfl <| lSkip (gd rfl rfl rfl rfl) rfl rfl <| R rfl (pkF rfl rfl) <| R rfl (mv rfl) <| lSkip (gd rfl rfl rfl rfl) rfl rfl <| lSkip (gd rfl rfl rfl rfl) rfl rfl <| R rfl (pkF rfl rfl) <| R rfl (mv rfl) <| lSkip (gd rfl rfl rfl rfl) rfl rfl <| lSkip (gd rfl rfl rfl rfl) rfl rfl <| R rfl (pkF rfl rfl) <| R rfl (mv rfl) <| lSkip (gd rfl rfl rfl rfl) rfl rfl <| lSkip (gd rfl rfl rfl rfl) rfl rfl <| lSkip (gd rfl rfl rfl rfl) rfl rfl <| R rfl (pkF rfl rfl) <| R rfl (mv rfl) <| lSkip (gd rfl rfl rfl rfl) rfl rfl <| lSkip (gd rfl rfl rfl rfl) rfl rfl <| R rfl (pkF rfl rfl) <| R rfl (asg rfl) <| gNil <| eMid (fun aa ww h => h.sub [36] (sS rfl <| sS rfl <| sS rfl <| sS rfl <| sS rfl <| sS rfl <| sS rfl <| sS rfl <| sS rfl <| sS rfl <| sS rfl <| sS rfl <| sS rfl <| sS rfl <| sS rfl <| sN) (rR rfl rfl <| rN))
                    · skip
                      refine lKn 229 rfl h125 <| lKn 230 rfl h125 <| lSkip (gd rfl rfl rfl rfl) rfl rfl <| lSkip (gd rfl rfl rfl rfl) rfl rfl <| R rfl (pkF rfl rfl) <| R rfl (mv rfl) <| lSkip (gd rfl rfl rfl rfl) rfl rfl <| lSkip (gd rfl rfl rfl rfl) rfl rfl <| R rfl (pkF rfl rfl) <| R rfl (mv rfl) <| lSkip (gd rfl rfl rfl rfl) rfl rfl <| lSkip (gd rfl rfl rfl rfl) rfl rfl <| lSkip (gd rfl rfl rfl rfl) rfl rfl <| R rfl (pkF rfl rfl) <| R rfl (mv rfl) <| lSkip (gd rfl rfl rfl rfl) rfl rfl <| lSkip (gd rfl rfl rfl rfl) rfl rfl <| R rfl (pkF rfl rfl) <| R rfl (mv rfl) <| lSkip (gd rfl rfl rfl rfl) rfl rfl <| lSkip (gd rfl rfl rfl rfl) rfl rfl <| R rfl (pkF rfl rfl) <| R rfl (mv rfl) <| lSkip (gd rfl rfl rfl rfl) rfl rfl <| lSkip (gd rfl rfl rfl rfl) rfl rfl <| lSkip (gd rfl rfl rfl rfl) rfl rfl <| R rfl (pkF rfl rfl) <| R rfl (mv rfl) <| lSkip (gd rfl rfl rfl rfl) rfl rfl <| lSkip (gd rfl rfl rfl rfl) rfl rfl <| R rfl (pkF rfl rfl) <| R rfl (asg rfl) <| gNil <| eMid (fun aa ww h => h.sub [36] (sS rfl <| sS rfl <| sS rfl <| sS rfl <| sS rfl <| sS rfl <| sS rfl <| sS rfl <| sS rfl <| sS rfl <| sS rfl <| sS rfl <| sS rfl <| sS rfl <| sS rfl <| sN) (rR rfl rfl <| rN))
                  · skip
                    refine lKn 225 rfl h124 <| lKn 226 rfl h124 <| lSkip (gd rfl rfl rfl rfl) rfl rfl <| lSkip (gd rfl rfl rfl rfl) rfl rfl <| R rfl (pkF rfl rfl) <| R rfl (mv rfl) <| lSkip (gd rfl rfl rfl rfl) rfl rfl <| lSkip (gd rfl rfl rfl rfl) rfl rfl <| R rfl (pkF rfl rfl) <| R rfl (mv rfl) <| lSkip (gd rfl rfl rfl rfl) rfl rfl <| lSkip (gd rfl rfl rfl rfl) rfl rfl <| R rfl (pkF rfl rfl) <| R rfl (mv rfl) <| lSkip (gd rfl rfl rfl rfl) rfl rfl <| lSkip (gd rfl rfl rfl rfl) rfl rfl <| lSkip (gd rfl rfl rfl rfl) rfl rfl <| R rfl (pkF rfl rfl) <| R rfl (mv rfl) <| lSkip (gd rfl rfl rfl rfl) rfl rfl <| lSkip (gd rfl rfl rfl rfl) rfl rfl <| R rfl (pkF rfl rfl) <| R rfl (mv rfl) <| lSkip (gd rfl rfl rfl rfl) rfl rfl <| lSkip (gd rfl rfl rfl rfl) rfl rfl <| R rfl (pkF rfl rfl) <| R rfl (mv rfl) <| lSkip (gd rfl rfl rfl rfl) rfl rfl <| lSkip (gd rfl rfl rfl rfl) rfl rfl <| lSkip (gd rfl rfl rfl rfl) rfl rfl <| R rfl (pkF rfl rfl) <| R rfl (mv rfl) <| lSkip (gd rfl rfl rfl rfl) rfl rfl <| lSkip (gd rfl rfl rfl rfl) rfl rfl <| R rfl (pkF rfl rfl) <| R rfl (asg rfl) <| gNil <| eMid (fun aa ww h => h.sub [36] (sS rfl <| sS rfl <| sS rfl <| sS rfl <| sS rfl <| sS rfl <| sS rfl <| sS rfl <| sS rfl <| sS rfl <| sS rfl <| sS rfl <| sS rfl <| sS rfl <| sS rfl <| sN) (rR rfl rfl <| rN))
                · skip
                  refine lKn 221 rfl h123 <| lKn 222 rfl h123 <| lSkip (gd rfl rfl rfl rfl) rfl rfl <| lSkip (gd rfl rfl rfl rfl) rfl rfl <| R rfl (pkF rfl rfl) <| R rfl (mv rfl) <| lSkip (gd rfl rfl rfl rfl) rfl rfl <| lSkip (gd rfl rfl rfl rfl) rfl rfl <| R rfl (pkF rfl rfl) <| R rfl (mv rfl) <| lSkip (gd rfl rfl rfl rfl) rfl rfl <| lSkip (gd rfl rfl rfl rfl) rfl rfl <| R rfl (pkF rfl rfl) <| R rfl (mv rfl) <| lSkip (gd rfl rfl rfl rfl) rfl rfl <| lSkip (gd rfl rfl rfl rfl) rfl rfl <| R rfl (pkF rfl rfl) <| R rfl (mv rfl) <| lSkip (gd rfl rfl rfl rfl) rfl rfl <| lSkip (gd rfl rfl rfl rfl) rfl rfl <| lSkip (gd rfl rfl rfl rfl) rfl rfl <| R rfl (pkF rfl rfl) <| R rfl (mv rfl) <| lSkip (gd rfl rfl rfl rfl) rfl rfl <| lSkip (gd rfl rfl rfl rfl) rfl rfl <| R rfl (pkF rfl rfl) <| R rfl (mv rfl) <| lSkip (gd rfl rfl rfl rfl) rfl rfl <| lSkip (gd rfl rfl rfl rfl) rfl rfl <| R rfl (pkF rfl rfl) <| R rfl (mv rfl) <| lSkip (gd rfl rfl rfl rfl) rfl rfl <| lSkip (gd rfl rfl rfl rfl) rfl rfl <| lSkip (gd rfl rfl rfl rfl) rfl rfl <| R rfl (pkF rfl rfl) <| R rfl (mv rfl) <| lSkip (gd rfl rfl rfl rfl) rfl rfl <| lSkip (gd rfl rfl rfl rfl) rfl rfl <| R rfl (pkF rfl rfl) <| R rfl (asg rfl) <| gNil <| eMid (fun aa ww h => h.sub [36] (sS rfl <| sS rfl <| sS rfl <| sS rfl <| sS rfl <| sS rfl <| sS rfl <| sS rfl <| sS rfl <| sS rfl <| sS rfl <| sS rfl <| sS rfl <| sS rfl <| sS rfl <| sN) (rR rfl rfl <| rN))
              · skip
                refine lKn 216 rfl h122 <| lKn 217 rfl h122 <| lSkip (gd rfl rfl rfl rfl) rfl rfl <| lSkip (gd rfl rfl rfl rfl) rfl rfl <| lSkip (gd rfl rfl rfl rfl) rfl rfl <| R rfl (pkF rfl rfl) <| R rfl (mv rfl) <| lSkip (gd rfl rfl rfl rfl) rfl rfl <| lSkip (gd rfl rfl rfl rfl) rfl rfl <| R rfl (pkF rfl rfl) <| R rfl (mv rfl) <| lSkip (gd rfl rfl rfl rfl) rfl rfl <| lSkip (gd rfl rfl rfl rfl) rfl rfl <| R rfl (pkF rfl rfl) <| R rfl (mv rfl) <| lSkip (gd rfl rfl rfl rfl) rfl rfl <| lSkip (gd rfl rfl rfl rfl) rfl rfl <| R rfl (pkF rfl rfl) <| R rfl (mv rfl) <| lSkip (gd rfl rfl rfl rfl) rfl rfl <| lSkip (gd rfl rfl rfl rfl) rfl rfl <| R rfl (pkF rfl rfl) <| R rfl (mv rfl) <| lSkip (gd rfl rfl rfl rfl) rfl rfl <| lSkip (gd rfl rfl rfl rfl) rfl rfl <| lSkip (gd rfl rfl rfl rfl) rfl rfl <| R rfl (pkF rfl rfl) <| R rfl (mv rfl) <| lSkip (gd rfl rfl rfl rfl) rfl rfl <| lSkip (gd rfl rfl rfl rfl) rfl rfl <| R rfl (pkF rfl rfl) <| R rfl (mv rfl) <| lSkip (gd rfl rfl rfl rfl) rfl rfl <| lSkip (gd rfl rfl rfl rfl) rfl rfl <| R rfl (pkF rfl rfl) <| R rfl (mv rfl) <| lSkip (gd rfl rfl rfl rfl) rfl rfl <| lSkip (gd rfl rfl rfl rfl) rfl rfl <| lSkip (gd rfl rfl rfl rfl) rfl rfl <| R rfl (pkF rfl rfl) <| R rfl (mv rfl) <| lSkip (gd rfl rfl rfl rfl) rfl rfl <| lSkip (gd rfl rfl rfl rfl) rfl rfl <| R rfl (pkF rfl rfl) <| R rfl (asg rfl) <| gNil <| eMid (fun aa ww h => h.sub [36] (sS rfl <| sS rfl <| sS rfl <| sS rfl <| sS rfl <| sS rfl <| sS rfl <| sS rfl <| sS rfl <| sS rfl <| sS rfl <| sS rfl <| sS rfl <| sS rfl <| sS rfl <| sN) (rR rfl rfl <| rN))
            · skip
              refine lKn 213 rfl h121 <| lSkip (gd rfl rfl rfl rfl) rfl rfl <| lSkip (gd rfl rfl rfl rfl) rfl rfl <| R rfl (pkF rfl rfl) <| R rfl (mv rfl) <| lSkip (gd rfl rfl rfl rfl) rfl rfl <| lSkip (gd rfl rfl rfl rfl) rfl rfl <| lSkip (gd rfl rfl rfl rfl) rfl rfl <| R rfl (pkF rfl rfl) <| R rfl (mv rfl) <| lSkip (gd rfl rfl rfl rfl) rfl rfl <| lSkip (gd rfl rfl rfl rfl) rfl rfl <| R rfl (pkF rfl rfl) <| R rfl (mv rfl) <| lSkip (gd rfl rfl rfl rfl) rfl rfl <| lSkip (gd rfl rfl rfl rfl) rfl rfl <| R rfl (pkF rfl rfl) <| R rfl (mv rfl) <| lSkip (gd rfl rfl rfl rfl) rfl rfl <| lSkip (gd rfl rfl rfl rfl) rfl rfl <| R rfl (pkF rfl rfl) <| R rfl (mv rfl) <| lSkip (gd rfl rfl rfl rfl) rfl rfl <| lSkip (gd rfl rfl rfl rfl) rfl rfl <| R rfl (pkF rfl rfl) <| R rfl (mv rfl) <| lSkip (gd rfl rfl rfl rfl) rfl rfl <| lSkip (gd rfl rfl rfl rfl) rfl rfl <| lSkip (gd rfl rfl rfl rfl) rfl rfl <| R rfl (pkF rfl rfl) <| R rfl (mv rfl) <| lSkip (gd rfl rfl rfl rfl) rfl rfl <| lSkip (gd rfl rfl rfl rfl) rfl rfl <| R rfl (pkF rfl rfl) <| R rfl (mv rfl) <| lSkip (gd rfl rfl rfl rfl) rfl rfl <| lSkip (gd rfl rfl rfl rfl) rfl rfl <| R rfl (pkF rfl rfl) <| R rfl (mv rfl) <| lSkip (gd rfl rfl rfl rfl) rfl rfl <| lSkip (gd rfl rfl rfl rfl) rfl rfl <| lSkip (gd rfl rfl rfl rfl) rfl rfl <| R rfl (pkF rfl rfl) <| R rfl (mv rfl) <| lSkip (gd rfl rfl rfl rfl) rfl rfl <| lSkip (gd rfl rfl rfl rfl) rfl rfl <| R rfl (pkF rfl rfl) <| R rfl (asg rfl) <| gNil <| eMid (fun aa ww h => h.sub [36] (sS rfl <| sS rfl <| sS rfl <| sS rfl <| sS rfl <| sS rfl <| sS rfl <| sS rfl <| sS rfl <| sS rfl <| sS rfl <| sS rfl <| sS rfl <| sS rfl <| sS rfl <| sN) (rR rfl rfl <| rN))
          · skip
            refine gSeq <| gReg <| R rfl (mv rfl) <| lRun (gd rfl rfl rfl rfl) rfl rfl (mv rfl) <| R rfl (pkT rfl rfl) <| R rfl (mv rfl) <| lSplit 264 rfl (fun h132 => ?_) (fun h132 => ?_)
            · skip
              refine lKn 1 rfl h132 <| lKn 262 rfl h132 <| lKn 263 rfl h132 <| lRun (gd rfl rfl rfl rfl) rfl rfl (mv rfl) <| R rfl (pkT rfl rfl) <| R rfl (mv rfl) <| lSplit 267 rfl (fun h133 => ?_) (fun h133 => ?_)
              · skip
                refine lKn 2 rfl h133 <| lKn 265 rfl h133 <| lKn 266 rfl h133 <| lRun (gd rfl rfl rfl rfl) rfl rfl (mv rfl) <| R rfl (pkT rfl rfl) <| R rfl (mv rfl) <| lSplit 270 rfl (fun h134 => ?_) (fun h134 => ?_)
                · skip
                  refine lKn 47 rfl h134 <| lKn 268 rfl h134 <| lKn 269 rfl h134 <| lRun (gd rfl rfl rfl rfl) rfl rfl (mv rfl) <| lRun (gd rfl rfl rfl rfl) rfl rfl (I.eql rfl rfl) <| R rfl (pkT rfl rfl) <| R rfl (mv rfl) <| lSplit 274 rfl (fun h135 => ?_) (fun h135 => ?_)
                  · skip
                    refine lKn 272 rfl h135 <| lKn 273 rfl h135 <| lRun (gd rfl rfl rfl rfl) rfl rfl (mv rfl) <| lRun (gd rfl rfl rfl rfl) rfl rfl (I.eql rfl rfl) <| R rfl (pkT rfl rfl) <| R rfl (mv rfl) <| lSplit 278 rfl (fun h136 => ?_) (fun h136 => ?_)
                    · skip
                      refine lKn 276 rfl h136 <| lKn 277 rfl h136 <| lRun (gd rfl rfl rfl rfl) rfl rfl (mv rfl) <| lRun (gd rfl rfl rfl rfl) rfl rfl (I.eql rfl rfl) <| R rfl (pkT rfl rfl) <| R rfl (mv rfl) <| lSplit 282 rfl (fun h137 => ?_) (fun h137 => ?_)
                      · skip
                        refine lKn 280 rfl h137 <| lKn 281 rfl h137 <| lRun (gd rfl rfl rfl rfl) rfl rfl (mv rfl) <| lRun (gd rfl rfl rfl rfl) rfl rfl (I.eql rfl rfl) <| R rfl (pkT rfl rfl) <| R rfl (mv rfl) <| lSplit 286 rfl (fun h138 => ?_) (fun h138 => ?_)
                        · skip
                          refine lKn 284 rfl h138 <| lKn 285 rfl h138 <| lRun (gd rfl rfl rfl rfl) rfl rfl (mv rfl) <| lRun (gd rfl rfl rfl rfl) rfl rfl (len' rfl (.own 36 rfl) rfl Try.underlying32) <| lRun (gd rfl rfl rfl rfl) rfl rfl (I.eql rfl rfl) <| R rfl (pkT rfl rfl) <| R rfl (mv rfl) <| lSplit 291 rfl (fun h139 => ?_) (fun h139 => ?_)
                          · skip
                            refine lKn 289 rfl h139 <| lKn 290 rfl h139 <| lRun (gd rfl rfl rfl rfl) rfl rfl (mv rfl) <| lRun (gd rfl rfl rfl rfl) rfl rfl (I.eql rfl rfl) <| R rfl (pkT rfl rfl) <| R rfl (mv rfl) <| lSplit 295 rfl (fun h140 => ?_) (fun h140 => ?_)
                            · skip
                              refine lKn 293 rfl h140 <| lKn 294 rfl h140 <| lRun (gd rfl rfl rfl rfl) rfl rfl (mv rfl) <| lRun (gd rfl rfl rfl rfl) rfl rfl (I.eql rfl rfl) <| R rfl (pkT rfl rfl) <| R rfl (mv rfl) <| lSplit 299 rfl (fun h141 => ?_) (fun h141 => ?_)
                              · skip
                                refine lKn 297 rfl h141 <| lKn 298 rfl h141 <| lRun (gd rfl rfl rfl rfl) rfl rfl (mv rfl) <| lRun (gd rfl rfl rfl rfl) rfl rfl (I.eql rfl rfl) <| R rfl (pkT rfl rfl) <| R rfl (mv rfl) <| lSplit 303 rfl (fun h142 => ?_) (fun h142 => ?_)
                                · skip
                                  refine lKn 301 rfl h142 <| lKn 302 rfl h142 <| lRun (gd rfl rfl rfl rfl) rfl rfl (mv rfl) <| lRun (gd rfl rfl rfl rfl) rfl rfl (I.eql rfl rfl) <| R rfl (pkT rfl rfl) <| R rfl (mv rfl) <| lSplit 307 rfl (fun h143 => ?_) (fun h143 => ?_)
                                  · skip
                                    refine lKn 305 rfl h143 <| lKn 306 rfl h143 <| lRun (gd rfl rfl rfl rfl) rfl rfl (mv rfl) <| lRun (gd rfl rfl rfl rfl) rfl rfl (I.eql rfl rfl) <| R rfl (pkT rfl rfl) <| R rfl (mv rfl) <| lSplit 311 rfl (fun h144 => ?_) (fun h144 => ?_)
                                    · skip
                                      refine lKn 309 rfl h144 <| lKn 310 rfl h144 <| lRun (gd rfl rfl rfl rfl) rfl rfl (mv rfl) <| lRun (gd rfl rfl rfl rfl) rfl rfl (bldG (x' := (vset (Vector.replicate 32 0) ((0 : Nat) : Int) 1 : Vector UInt8 32)) Try.underlying102 ti102 zr101 ti5 (Bld.cons (Part.el (vidx_ok (k := 0) (by decide))) rfl rfl <| Bld.done rfl)) <| lRun (gd rfl rfl rfl rfl) rfl rfl (bldG (x' := (vset (vset (Vector.replicate 32 0) ((0 : Nat) : Int) 1) ((1 : Nat) : Int) 1 : Vector UInt8 32)) Try.underlying102 ti102 zr101 ti5 (Bld.cons (Part.el (vidx_ok (k := 0) (by decide))) rfl rfl <| Bld.cons (Part.el (vidx_ok (k := 1) (by decide))) rfl rfl <| Bld.done rfl)) <| Efg (gd rfl rfl rfl rfl) rfl rfl (lit (R := (arrR 32 u8R)) ([vset (Vector.replicate 32 0) ((0 : Nat) : Int) 1, vset (vset (Vector.replicate 32 0) ((0 : Nat) : Int) 1) ((1 : Nat) : Int) 1] : List (Vector UInt8 32)) 37 (pP rfl rfl <| pP rfl rfl <| pN) rfl Try.underlying83 ti102 rfl rfl) fun v145 => lFrz 37 [315] rfl (fS rfl <| fN) <| callg [] [] (gd rfl rfl rfl rfl) rfl Try.func62 rfl rfl (braidref04_SameIDs_ok _ _) (aQ rfl <| aQ rfl <| aN) rN fun r146 n147 => R rfl (pkT rfl rfl) <| R rfl (mv rfl) <| lSplit 318 rfl (fun h148 => ?_) (fun h148 => ?_)
                                      · skip
                                        refine lKn 316 rfl h148 <| lKn 317 rfl h148 <| lRun (gd rfl rfl rfl rfl) rfl rfl (mv rfl) <| lRun (gd rfl rfl rfl rfl) rfl rfl (I.eql rfl rfl) <| R rfl (pkT rfl rfl) <| R rfl (mv rfl) <| lSplit 322 rfl (fun h149 => ?_) (fun h149 => ?_)
                                        · skip
                                          refine lKn 320 rfl h149 <| lKn 321 rfl h149 <| callg [] [] (gd rfl rfl rfl rfl) rfl Try.func36 rfl rfl (braidlaw04_alive_ok) (aN) rN fun r150 n151 => R rfl (pkT rfl rfl) <| R rfl (asg rfl) <| gNil <| eThen <| gRet <| eRet [] [] rfl (eE rfl <| eN) (rN)
                                        · skip
                                          refine lKn 320 rfl h149 <| lKn 321 rfl h149 <| lSkip (gd rfl rfl rfl rfl) rfl rfl <| R rfl (pkF rfl rfl) <| R rfl (asg rfl) <| gNil <| eThen <| gRet <| eRet [] [] rfl (eE rfl <| eN) (rN)
                                      · skip
                                        refine lKn 316 rfl h148 <| lKn 317 rfl h148 <| lSkip (gd rfl rfl rfl rfl) rfl rfl <| lSkip (gd rfl rfl rfl rfl) rfl rfl <| R rfl (pkF rfl rfl) <| R rfl (mv rfl) <| lSkip (gd rfl rfl rfl rfl) rfl rfl <| R rfl (pkF rfl rfl) <| R rfl (asg rfl) <| gNil <| eThen <| gRet <| eRet [] [] rfl (eE rfl <| eN) (rN)
                                    · skip
                                      refine lKn 309 rfl h144 <| lKn 310 rfl h144 <| lSkip (gd rfl rfl rfl rfl) rfl rfl <| lSkip (gd rfl rfl rfl rfl) rfl rfl <| lSkip (gd rfl rfl rfl rfl) rfl rfl <| lSkip (gd rfl rfl rfl rfl) rfl rfl <| lSkip (gd rfl rfl rfl rfl) rfl rfl <| R rfl (pkF rfl rfl) <| R rfl (mv rfl) <| lSkip (gd rfl rfl rfl rfl) rfl rfl <| lSkip (gd rfl rfl rfl rfl) rfl rfl <| R rfl (pkF rfl rfl) <| R rfl (mv rfl) <| lSkip (gd rfl rfl rfl rfl) rfl rfl <| R rfl (pkF rfl rfl) <| R rfl (asg rfl) <| gNil <| eThen <| gRet <| eRet [] [] rfl (eE rfl <| eN) (rN)
                                  · skip
                                    refine lKn 305 rfl h143 <| lKn 306 rfl h143 <| lSkip (gd rfl rfl rfl rfl) rfl rfl <| lSkip (gd rfl rfl rfl rfl) rfl rfl <| R rfl (pkF rfl rfl) <| R rfl (mv rfl) <| lSkip (gd rfl rfl rfl rfl) rfl rfl <| lSkip (gd rfl rfl rfl rfl) rfl rfl <| lSkip (gd rfl rfl rfl rfl) rfl rfl <| lSkip (gd rfl rfl rfl rfl) rfl rfl <| lSkip (gd rfl rfl rfl rfl) rfl rfl <| R rfl (pkF rfl rfl) <| R rfl (mv rfl) <| lSkip (gd rfl rfl rfl rfl) rfl rfl <| lSkip (gd rfl rfl rfl rfl) rfl rfl <| R rfl (pkF rfl rfl) <| R rfl (mv rfl) <| lSkip (gd rfl rfl rfl rfl) rfl rfl <| R rfl (pkF rfl rfl) <| R rfl (asg rfl) <| gNil <| eThen <| gRet <| eRet [] [] rfl (eE rfl <| eN) (rN)
                                · skip
                                  refine lKn 301 rfl h142 <| lKn 302 rfl h142 <| lSkip (gd rfl rfl rfl rfl) rfl rfl <| lSkip (gd rfl rfl rfl rfl) rfl rfl <| R rfl (pkF rfl rfl) <| R rfl (mv rfl) <| lSkip (gd rfl rfl rfl rfl) rfl rfl <| lSkip (gd rfl rfl rfl rfl) rfl rfl <| R rfl (pkF rfl rfl) <| R rfl (mv rfl) <| lSkip (gd rfl rfl rfl rfl) rfl rfl <| lSkip (gd rfl rfl rfl rfl) rfl rfl <| lSkip (gd rfl rfl rfl rfl) rfl rfl <| lSkip (gd rfl rfl rfl rfl) rfl rfl <| lSkip (gd rfl rfl rfl rfl) rfl rfl <| R rfl (pkF rfl rfl) <| R rfl (mv rfl) <| lSkip (gd rfl rfl rfl rfl) rfl rfl <| lSkip (gd rfl rfl rfl rfl) rfl rfl <| R rfl (pkF rfl rfl) <| R rfl (mv rfl) <| lSkip (gd rfl rfl rfl rfl) rfl rfl <| R rfl (pkF rfl rfl) <| R rfl (asg rfl) <| gNil <| eThen <| gRet <| eRet [] [] rfl (eE rfl <| eN) (rN)
                              · skip
                                refine lKn 297 rfl h141 <| lKn 298 rfl h141 <| lSkip (gd rfl rfl rfl rfl) rfl rfl <| lSkip (gd rfl rfl rfl rfl) rfl rfl <| R rfl (pkF rfl rfl) <| R rfl (mv rfl) <| lSkip (gd rfl rfl rfl rfl) rfl rfl <| lSkip (gd rfl rfl rfl rfl) rfl rfl <| R rfl (pkF rfl rfl) <| R rfl (mv rfl) <| lSkip (gd rfl rfl rfl rfl) rfl rfl <| lSkip (gd rfl rfl rfl rfl) rfl rfl <| R rfl (pkF rfl rfl) <| R rfl (mv rfl) <| lSkip (gd rfl rfl rfl rfl) rfl rfl <| lSkip (gd rfl rfl rfl rfl) rfl rfl <| lSkip (gd rfl rfl rfl rfl) rfl rfl <| lSkip (gd rfl rfl rfl rfl) rfl rfl <| lSkip (gd rfl rfl rfl rfl) rfl rfl <| R rfl (pkF rfl rfl) <| R rfl (mv rfl) <| lSkip (gd rfl rfl rfl rfl) rfl rfl <| lSkip (gd rfl rfl rfl rfl) rfl rfl <| R rfl (pkF rfl rfl) <| R rfl (mv rfl) <| lSkip (gd rfl rfl rfl rfl) rfl rfl <| R rfl (pkF rfl rfl) <| R rfl (asg rfl) <| gNil <| eThen <| gRet <| eRet [] [] rfl (eE rfl <| eN) (rN)
                            · skip
                              refine lKn 293 rfl h140 <| lKn 294 rfl h140 <| lSkip (gd rfl rfl rfl rfl) rfl rfl <| lSkip (gd rfl rfl rfl rfl) rfl rfl <| R rfl (pkF rfl rfl) <| R rfl (mv rfl) <| lSkip (gd rfl rfl rfl rfl) rfl rfl <| lSkip (gd rfl rfl rfl rfl) rfl rfl <| R rfl (pkF rfl rfl) <| R rfl (mv rfl) <| lSkip (gd rfl rfl rfl rfl) rfl rfl <| lSkip (gd rfl rfl rfl rfl) rfl rfl <| R rfl (pkF rfl rfl) <| R rfl (mv rfl) <| lSkip (gd rfl rfl rfl rfl) rfl rfl <| lSkip (gd rfl rfl rfl rfl) rfl rfl <| R rfl (pkF rfl rfl) <| R rfl (mv rfl) <| lSkip (gd rfl rfl rfl rfl) rfl rfl <| lSkip (gd rfl rfl rfl rfl) rfl rfl <| lSkip (gd rfl rfl rfl rfl) rfl rfl <| lSkip (gd rfl rfl rfl rfl) rfl rfl <| lSkip (gd rfl rfl rfl rfl) rfl rfl <| R rfl (pkF rfl rfl) <| R rfl (mv rfl) <| lSkip (gd rfl rfl rfl rfl) rfl rfl <| lSkip (gd rfl rfl rfl rfl) rfl rfl <| R rfl (pkF rfl rfl) <| R rfl (mv rfl) <| lSkip (gd rfl rfl rfl rfl) rfl rfl <| R rfl (pkF rfl rfl) <| R rfl (asg rfl) <| gNil <| eThen <| gRet <| eRet [] [] rfl (eE rfl <| eN) (rN)
                          · skip
                            refine lKn 289 rfl h139 <| lKn 290 rfl h139 <| lSkip (gd rfl rfl rfl rfl) rfl rfl <| lSkip (gd rfl rfl rfl rfl) rfl rfl <| R rfl (pkF rfl rfl) <| R rfl (mv rfl) <| lSkip (gd rfl rfl rfl rfl) rfl rfl <| lSkip (gd rfl rfl rfl rfl) rfl rfl <| R rfl (pkF rfl rfl) <| R rfl (mv rfl) <| lSkip (gd rfl rfl rfl rfl) rfl rfl <| lSkip (gd rfl rfl rfl rfl) rfl rfl <| R rfl (pkF rfl rfl) <| R rfl (mv rfl) <| lSkip (gd rfl rfl rfl rfl) rfl rfl <| lSkip (gd rfl rfl rfl rfl) rfl rfl <| R rfl (pkF rfl rfl) <| R rfl (mv rfl) <| lSkip (gd rfl rfl rfl rfl) rfl rfl <| lSkip (gd rfl rfl rfl rfl) rfl rfl <| R rfl (pkF rfl rfl) <| R rfl (mv rfl) <| lSkip (gd rfl rfl rfl rfl) rfl rfl <| lSkip (gd rfl rfl rfl rfl) rfl rfl <| lSkip (gd rfl rfl rfl rfl) rfl rfl <| lSkip (gd rfl rfl rfl rfl) rfl rfl <| lSkip (gd rfl rfl rfl rfl) rfl rfl <| R rfl (pkF rfl rfl) <| R rfl (mv rfl) <| lSkip (gd rfl rfl rfl rfl) rfl rfl <| lSkip (gd rfl rfl rfl rfl) rfl rfl <| R rfl (pkF rfl rfl) <| R rfl (mv rfl) <| lSkip (gd rfl rfl rfl rfl) rfl rfl <| R rfl (pkF rfl rfl) <| R rfl (asg rfl) <| gNil <| eThen <| gRet <| eRet [] [] rfl (eE rfl <| eN) (rN)
                        · skip
                          refine lKn 284 rfl h138 <| lKn 285 rfl h138 <| lSkip (gd rfl rfl rfl rfl) rfl rfl <| lSkip (gd rfl rfl rfl rfl) rfl rfl <| lSkip (gd rfl rfl rfl rfl) rfl rfl <| R rfl (pkF rfl rfl) <| R rfl (mv rfl) <| lSkip (gd rfl rfl rfl rfl) rfl rfl <| lSkip (gd rfl rfl rfl rfl) rfl rfl <| R rfl (pkF rfl rfl) <| R rfl (mv rfl) <| lSkip (gd rfl rfl rfl rfl) rfl rfl <| lSkip (gd rfl rfl rfl rfl) rfl rfl <| R rfl (pkF rfl rfl) <| R rfl (mv rfl) <| lSkip (gd rfl rfl rfl rfl) rfl rfl <| lSkip (gd rfl rfl rfl rfl) rfl rfl <| R rfl (pkF rfl rfl) <| R rfl (mv rfl) <| lSkip (gd rfl rfl rfl rfl) rfl rfl <| lSkip (gd rfl rfl rfl rfl) rfl rfl <| R rfl (pkF rfl rfl) <| R rfl (mv rfl) <| lSkip (gd rfl rfl rfl rfl) rfl rfl <| lSkip (gd rfl rfl rfl rfl) rfl rfl <| R rfl (pkF rfl rfl) <| R rfl (mv rfl) <| lSkip (gd rfl rfl rfl rfl) rfl rfl <| lSkip (gd rfl rfl rfl rfl) rfl rfl <| lSkip (gd rfl rfl rfl rfl) rfl rfl <| lSkip (gd rfl rfl rfl rfl) rfl rfl <| lSkip (gd rfl rfl rfl rfl) rfl rfl <| R rfl (pkF rfl rfl) <| R rfl (mv rfl) <| lSkip (gd rfl rfl rfl rfl) rfl rfl <| lSkip (gd rfl rfl rfl rfl) rfl rfl <| R rfl (pkF rfl rfl) <| R rfl (mv rfl) <| lSkip (gd rfl rfl rfl rfl) rfl rfl <| R rfl (pkF rfl rfl) <| R rfl (asg rfl) <| gNil <| eThen <| gRet <| eRet [] [] rfl (eE rfl <| eN) (rN)
                      · skip
                        refine lKn 280 rfl h137 <| lKn 281 rfl h137 <| lSkip (gd rfl rfl rfl rfl) rfl rfl <| lSkip (gd rfl rfl rfl rfl) rfl rfl <| R rfl (pkF rfl rfl) <| R rfl (mv rfl) <| lSkip (gd rfl rfl rfl rfl) rfl rfl <| lSkip (gd rfl rfl rfl rfl) rfl rfl <| lSkip (gd rfl rfl rfl rfl) rfl rfl <| R rfl (pkF rfl rfl) <| R rfl (mv rfl) <| lSkip (gd rfl rfl rfl rfl) rfl rfl <| lSkip (gd rfl rfl rfl rfl) rfl rfl <| R rfl (pkF rfl rfl) <| R rfl (mv rfl) <| lSkip (gd rfl rfl rfl rfl) rfl rfl <| lSkip (gd rfl rfl rfl rfl) rfl rfl <| R rfl (pkF rfl rfl) <| R rfl (mv rfl) <| lSkip (gd rfl rfl rfl rfl) rfl rfl <| lSkip (gd rfl rfl rfl rfl) rfl rfl <| R rfl (pkF rfl rfl) <| R rfl (mv rfl) <| lSkip (gd rfl rfl rfl rfl) rfl rfl <| lSkip (gd rfl rfl rfl rfl) rfl rfl <| R rfl (pkF rfl rfl) <| R rfl (mv rfl) <| lSkip (gd rfl rfl rfl rfl) rfl rfl <| lSkip (gd rfl rfl rfl rfl) rfl rfl <| R rfl (pkF rfl rfl) <| R rfl (mv rfl) <| lSkip (gd rfl rfl rfl rfl) rfl rfl <| lSkip (gd rfl rfl rfl rfl) rfl rfl <| lSkip (gd rfl rfl rfl rfl) rfl rfl <| lSkip (gd rfl rfl rfl rfl) rfl rfl <| lSkip (gd rfl rfl rfl rfl) rfl rfl <| R rfl (pkF rfl rfl) <| R rfl (mv rfl) <| lSkip (gd rfl rfl rfl rfl) rfl rfl <| lSkip (gd rfl rfl rfl rfl) rfl rfl <| R rfl (pkF rfl rfl) <| R rfl (mv rfl) <| lSkip (gd rfl rfl rfl rfl) rfl rfl <| R rfl (pkF rfl rfl) <| R rfl (asg rfl) <| gNil <| eThen <| gRet <| eRet [] [] rfl (eE rfl <| eN) (rN)
                    · skip
                      refine lKn 276 rfl h136 <| lKn 277 rfl h136 <| lSkip (gd rfl rfl rfl rfl) rfl rfl <| lSkip (gd rfl rfl rfl rfl) rfl rfl <| R rfl (pkF rfl rfl) <| R rfl (mv rfl) <| lSkip (gd rfl rfl rfl rfl) rfl rfl <| lSkip (gd rfl rfl rfl rfl) rfl rfl <| R rfl (pkF rfl rfl) <| R rfl (mv rfl) <| lSkip (gd rfl rfl rfl rfl) rfl rfl <| lSkip (gd rfl rfl rfl rfl) rfl rfl <| lSkip (gd rfl rfl rfl rfl) rfl rfl <| R rfl (pkF rfl rfl) <| R rfl (mv rfl) <| lSkip (gd rfl rfl rfl rfl) rfl rfl <| lSkip (gd rfl rfl rfl rfl) rfl rfl <| R rfl (pkF rfl rfl) <| R rfl (mv rfl) <| lSkip (gd rfl rfl rfl rfl) rfl rfl <| lSkip (gd rfl rfl rfl rfl) rfl rfl <| R rfl (pkF rfl rfl) <| R rfl (mv rfl) <| lSkip (gd rfl rfl rfl rfl) rfl rfl <| lSkip (gd rfl rfl rfl rfl) rfl rfl <| R rfl (pkF rfl rfl) <| R rfl (mv rfl) <| lSkip (gd rfl rfl rfl rfl) rfl rfl <| lSkip (gd rfl rfl rfl rfl) rfl rfl <| R rfl (pkF rfl rfl) <| R rfl (mv rfl) <| lSkip (gd rfl rfl rfl rfl) rfl rfl <| lSkip (gd rfl rfl rfl rfl) rfl rfl <| R rfl (pkF rfl rfl) <| R rfl (mv rfl) <| lSkip (gd rfl rfl rfl rfl) rfl rfl <| lSkip (gd rfl rfl rfl rfl) rfl rfl <| lSkip (gd rfl rfl rfl rfl) rfl rfl <| lSkip (gd rfl rfl rfl rfl) rfl rfl <| lSkip (gd rfl rfl rfl rfl) rfl rfl <| R rfl (pkF rfl rfl) <| R rfl (mv rfl) <| lSkip (gd rfl rfl rfl rfl) rfl rfl <| lSkip (gd rfl rfl rfl rfl) rfl rfl <| R rfl (pkF rfl rfl) <| R rfl (mv rfl) <| lSkip (gd rfl rfl rfl rfl) rfl rfl <| R rfl (pkF rfl rfl) <| R rfl (asg rfl) <| gNil <| eThen <| gRet <| eRet [] [] rfl (eE rfl <| eN) (rN)
                  · skip
                    refine lKn 272 rfl h135 <| lKn 273 rfl h135 <| lSkip (gd rfl rfl rfl rfl) rfl rfl <| lSkip (gd rfl rfl rfl rfl) rfl rfl <| R rfl (pkF rfl rfl) <| R rfl (mv rfl) <| lSkip (gd rfl rfl rfl rfl) rfl rfl <| lSkip (gd rfl rfl rfl rfl) rfl rfl <| R rfl (pkF rfl rfl) <| R rfl (mv rfl) <| lSkip (gd rfl rfl rfl rfl) rfl rfl <| lSkip (gd rfl rfl rfl rfl) rfl rfl <| R rfl (pkF rfl rfl) <| R rfl (mv rfl) <| lSkip (gd rfl rfl rfl rfl) rfl rfl <| lSkip (gd rfl rfl rfl rfl) rfl rfl <| lSkip (gd rfl rfl rfl rfl) rfl rfl <| R rfl (pkF rfl rfl) <| R rfl (mv rfl) <| lSkip (gd rfl rfl rfl rfl) rfl rfl <| lSkip (gd rfl rfl rfl rfl) rfl rfl <| R rfl (pkF rfl rfl) <| R rfl (mv rfl) <| lSkip (gd rfl rfl rfl rfl) rfl rfl <| lSkip (gd rfl rfl rfl rfl) rfl rfl <| R rfl (pkF rfl rfl) <| R rfl (mv rfl) <| lSkip (gd rfl rfl rfl rfl) rfl rfl <| lSkip (gd rfl rfl rfl rfl) rfl rfl <| R rfl (pkF rfl rfl) <| R rfl (mv rfl) <| lSkip (gd rfl rfl rfl rfl) rfl rfl <| lSkip (gd rfl rfl rfl rfl) rfl rfl <| R rfl (pkF rfl rfl) <| R rfl (mv rfl) <| lSkip (gd rfl rfl rfl rfl) rfl rfl <| lSkip (gd rfl rfl rfl rfl) rfl rfl <| R rfl (pkF rfl rfl) <| R rfl (mv rfl) <| lSkip (gd rfl rfl rfl rfl) rfl rfl <| lSkip (gd rfl rfl rfl rfl) rfl rfl <| lSkip (gd rfl rfl rfl rfl) rfl rfl <| lSkip (gd rfl rfl rfl rfl) rfl rfl <| lSkip (gd rfl rfl rfl rfl) rfl rfl <| R rfl (pkF rfl rfl) <| R rfl (mv rfl) <| lSkip (gd rfl rfl rfl rfl) rfl rfl <| lSkip (gd rfl rfl rfl rfl) rfl rfl <| R rfl (pkF rfl rfl) <| R rfl (mv rfl) <| lSkip (gd rfl rfl rfl rfl) rfl rfl <| R rfl (pkF rfl rfl) <| R rfl (asg rfl) <| gNil <| eThen <| gRet <| eRet [] [] rfl (eE rfl <| eN) (rN)
                · skip
                  refine lKn 47 rfl h134 <| lKn 268 rfl h134 <| lKn 269 rfl h134 <| lSkip (gd rfl rfl rfl rfl) rfl rfl <| lSkip (gd rfl rfl rfl rfl) rfl rfl <| R rfl (pkF rfl rfl) <| R rfl (mv rfl) <| lSkip (gd rfl rfl rfl rfl) rfl rfl <| lSkip (gd rfl rfl rfl rfl) rfl rfl <| R rfl (pkF rfl rfl) <| R rfl (mv rfl) <| lSkip (gd rfl rfl rfl rfl) rfl rfl <| lSkip (gd rfl rfl rfl rfl) rfl rfl <| R rfl (pkF rfl rfl) <| R rfl (mv rfl) <| lSkip (gd rfl rfl rfl rfl) rfl rfl <| lSkip (gd rfl rfl rfl rfl) rfl rfl <| R rfl (pkF rfl rfl) <| R rfl (mv rfl) <| lSkip (gd rfl rfl rfl rfl) rfl rfl <| lSkip (gd rfl rfl rfl rfl) rfl rfl <| lSkip (gd rfl rfl rfl rfl) rfl rfl <| R rfl (pkF rfl rfl) <| R rfl (mv rfl) <| lSkip (gd rfl rfl rfl rfl) rfl rfl <| lSkip (gd rfl rfl rfl rfl) rfl rfl <| R rfl (pkF rfl rfl) <| R rfl (mv rfl) <| lSkip (gd rfl rfl rfl rfl) rfl rfl <| lSkip (gd rfl rfl rfl rfl) rfl rfl <| R rfl (pkF rfl rfl) <| R rfl (mv rfl) <| lSkip (gd rfl rfl rfl rfl) rfl rfl <| lSkip (gd rfl rfl rfl rfl) rfl rfl <| R rfl (pkF rfl rfl) <| R rfl (mv rfl) <| lSkip (gd rfl rfl rfl rfl) rfl rfl <| lSkip (gd rfl rfl rfl rfl) rfl rfl <| R rfl (pkF rfl rfl) <| R rfl (mv rfl) <| lSkip (gd rfl rfl rfl rfl) rfl rfl <| lSkip (gd rfl rfl rfl rfl) rfl rfl <| R rfl (pkF rfl rfl) <| R rfl (mv rfl) <| lSkip (gd rfl rfl rfl rfl) rfl rfl <| lSkip (gd rfl rfl rfl rfl) rfl rfl <| lSkip (gd rfl rfl rfl rfl) rfl rfl <| lSkip (gd rfl rfl rfl rfl) rfl rfl <| lSkip (gd rfl rfl rfl rfl) rfl rfl <| R rfl (pkF rfl rfl) <| R rfl (mv rfl) <| lSkip (gd rfl rfl rfl rfl) rfl rfl <| lSkip (gd rfl rfl rfl rfl) rfl rfl <| R rfl (pkF rfl rfl) <| R rfl (mv rfl) <| lSkip (gd rfl rfl rfl rfl) rfl rfl <| R rfl (pkF rfl rfl) <| R rfl (asg rfl) <| gNil <| eThen <| gRet <| eRet [] [] rfl (eE rfl <| eN) (rN)
              · skip
                refine lKn 2 rfl h133 <| lKn 265 rfl h133 <| lKn 266 rfl h133 <| lSkip (gd rfl rfl rfl rfl) rfl rfl <| R rfl (pkF rfl rfl) <| R rfl (mv rfl) <| lSkip (gd rfl rfl rfl rfl) rfl rfl <| lSkip (gd rfl rfl rfl rfl) rfl rfl <| R rfl (pkF rfl rfl) <| R rfl (mv rfl) <| lSkip (gd rfl rfl rfl rfl) rfl rfl <| lSkip (gd rfl rfl rfl rfl) rfl rfl <| R rfl (pkF rfl rfl) <| R rfl (mv rfl) <| lSkip (gd rfl rfl rfl rfl) rfl rfl <| lSkip (gd rfl rfl rfl rfl) rfl rfl <| R rfl (pkF rfl rfl) <| R rfl (mv rfl) <| lSkip (gd rfl rfl rfl rfl) rfl rfl <| lSkip (gd rfl rfl rfl rfl) rfl rfl <| R rfl (pkF rfl rfl) <| R rfl (mv rfl) <| lSkip (gd rfl rfl rfl rfl) rfl rfl <| lSkip (gd rfl rfl rfl rfl) rfl rfl <| lSkip (gd rfl rfl rfl rfl) rfl rfl <| R rfl (pkF rfl rfl) <| R rfl (mv rfl) <| lSkip (gd rfl rfl rfl rfl) rfl rfl <| lSkip (gd rfl rfl rfl rfl) rfl rfl <| R rfl (pkF rfl rfl) <| R rfl (mv rfl) <| lSkip (gd rfl rfl rfl rfl) rfl rfl <| lSkip (gd rfl rfl rfl rfl) rfl rfl <| R rfl (pkF rfl rfl) <| R rfl (mv rfl) <| lSkip (gd rfl rfl rfl rfl) rfl rfl <| lSkip (gd rfl rfl rfl rfl) rfl rfl <| R rfl (pkF rfl rfl) <| R rfl (mv rfl) <| lSkip (gd rfl rfl rfl rfl) rfl rfl <| lSkip (gd rfl rfl rfl rfl) rfl rfl <| R rfl (pkF rfl rfl) <| R rfl (mv rfl) <| lSkip (gd rfl rfl rfl rfl) rfl rfl <| lSkip (gd rfl rfl rfl rfl) rfl rfl <| R rfl (pkF rfl rfl) <| R rfl (mv rfl) <| lSkip (gd rfl rfl rfl rfl) rfl rfl <| lSkip (gd rfl rfl rfl rfl) rfl rfl <| lSkip (gd rfl rfl rfl rfl) rfl rfl <| lSkip (gd rfl rfl rfl rfl) rfl rfl <| lSkip (gd rfl rfl rfl rfl) rfl rfl <| R rfl (pkF rfl rfl) <| R rfl (mv rfl) <| lSkip (gd rfl rfl rfl rfl) rfl rfl <| lSkip (gd rfl rfl rfl rfl) rfl rfl <| R rfl (pkF rfl rfl) <| R rfl (mv rfl) <| lSkip (gd rfl rfl rfl rfl) rfl rfl <| R rfl (pkF rfl rfl) <| R rfl (asg rfl) <| gNil <| eThen <| gRet <| eRet [] [] rfl (eE rfl <| eN) (rN)
            · skip
              refine lKn 1 rfl h132 <| lKn 262 rfl h132 <| lKn 263 rfl h132 <| lSkip (gd rfl rfl rfl rfl) rfl rfl <| R rfl (pkF rfl rfl) <| R rfl (mv rfl) <| lSkip (gd rfl rfl rfl rfl) rfl rfl <| R rfl (pkF rfl rfl) <| R rfl (mv rfl) <| lSkip (gd rfl rfl rfl rfl) rfl rfl <| lSkip (gd rfl rfl rfl rfl) rfl rfl <| R rfl (pkF rfl rfl) <| R rfl (mv rfl) <| lSkip (gd rfl rfl rfl rfl) rfl rfl <| lSkip (gd rfl rfl rfl rfl) rfl rfl <| R rfl (pkF rfl rfl) <| R rfl (mv rfl) <| lSkip (gd rfl rfl rfl rfl) rfl rfl <| lSkip (gd rfl rfl rfl rfl) rfl rfl <| R rfl (pkF rfl rfl) <| R rfl (mv rfl) <| lSkip (gd rfl rfl rfl rfl) rfl rfl <| lSkip (gd rfl rfl rfl rfl) rfl rfl <| R rfl (pkF rfl rfl) <| R rfl (mv rfl) <| lSkip (gd rfl rfl rfl rfl) rfl rfl <| lSkip (gd rfl rfl rfl rfl) rfl rfl <| lSkip (gd rfl rfl rfl rfl) rfl rfl <| R rfl (pkF rfl rfl) <| R rfl (mv rfl) <| lSkip (gd rfl rfl rfl rfl) rfl rfl <| lSkip (gd rfl rfl rfl rfl) rfl rfl <| R rfl (pkF rfl rfl) <| R rfl (mv rfl) <| lSkip (gd rfl rfl rfl rfl) rfl rfl <| lSkip (gd rfl rfl rfl rfl) rfl rfl <| R rfl (pkF rfl rfl) <| R rfl (mv rfl) <| lSkip (gd rfl rfl rfl rfl) rfl rfl <| lSkip (gd rfl rfl rfl rfl) rfl rfl <| R rfl (pkF rfl rfl) <| R rfl (mv rfl) <| lSkip (gd rfl rfl rfl rfl) rfl rfl <| lSkip (gd rfl rfl rfl rfl) rfl rfl <| R rfl (pkF rfl rfl) <| R rfl (mv rfl) <| lSkip (gd rfl rfl rfl rfl) rfl rfl <| lSkip (gd rfl rfl rfl rfl) rfl rfl <| R rfl (pkF rfl rfl) <| R rfl (mv rfl) <| lSkip (gd rfl rfl rfl rfl) rfl rfl <| lSkip (gd rfl rfl rfl rfl) rfl rfl <| lSkip (gd rfl rfl rfl rfl) rfl rfl <| lSkip (gd rfl rfl rfl rfl) rfl rfl <| lSkip (gd rfl rfl rfl rfl) rfl rfl <| R rfl (pkF rfl rfl) <| R rfl (mv rfl) <| lSkip (gd rfl rfl rfl rfl) rfl rfl <| lSkip (gd rfl rfl rfl rfl) rfl rfl <| R rfl (pkF rfl rfl) <| R rfl (mv rfl) <| lSkip (gd rfl rfl rfl rfl) rfl rfl <| R rfl (pkF rfl rfl) <| R rfl (asg rfl) <| gNil <| eThen <| gRet <| eRet [] [] rfl (eE rfl <| eN) (rN)

end Go.Proofs.Ytklfgpdfongaeaa
