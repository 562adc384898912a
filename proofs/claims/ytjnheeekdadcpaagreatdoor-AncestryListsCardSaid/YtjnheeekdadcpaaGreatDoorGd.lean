import Derived.Test.YtjnheeekdadcpaaGreatDoorGc
set_option linter.unusedSimpArgs false
set_option linter.unusedVariables false
namespace Go.Proofs.YtjnheeekdadcpaaGreatDoor
section
open Go Go.RowKit
set_option maxRecDepth 100000
theorem braidref06_Of_ok (a0 : api_Op) : Spec Tryz.prog 58 [.rd R_api_Op a0] [] (braidref06_Of a0) (fun r nv => ⟨[.rd (arrR 32 u8R) r], []⟩) := by
 refine spec 6 Tryz.func58 rfl rfl rfl fun H w => ?_
 refine gSR <| Eb rfl (bx 1 rfl) fun v1 => Eb rfl (allc 2 ti27 (.zr (R := (arrR 32 u8R)) (x := (Vector.replicate 32 0)) zr26)) fun v2 => Zn <| gSR <| Zq (ld 1 rfl rfl Foc.here ty65 rfl) <| call [] [(100, 3)] rfl Tryz.func75 rfl rfl (braidref06_Bytes_ok _) (aQ rfl <| aN) rN fun r3 n4 => lFrz 3 [4] rfl (fS rfl <| fN) <| call [] [] rfl Tryz.func74 rfl rfl (braidref01_Of_ok _) (aQ rfl <| aN) rN fun r5 n6 => Es (sto 2 rfl rfl Foc.here rfl ti27) <| Zn <| gRet <| eRet [] [] rfl (eC 2 rfl rfl ty27 <| eN) (rN)
def braidref01_Cmp_L0 (a0 : Vector UInt8 32) (a1 : Vector UInt8 32) (s4 : Int) : Option (Sum (Sum Int Unit) Int) :=
 if decide (s4 < 32) then
  vidx a0 s4 >>= fun x6 =>
  vidx a1 s4 >>= fun x8 =>
  if decide (x6 < x8) then
   some (.inl (.inl (-1)))
  else
   vidx a0 s4 >>= fun x11 =>
   vidx a1 s4 >>= fun x13 =>
   if decide (x13 < x11) then
    some (.inl (.inl 1))
   else
    some (.inr (w64 (s4 + 1)))
 else
  some (.inl (.inr ()))
def braidref01_Cmp (a0 : Vector UInt8 32) (a1 : Vector UInt8 32) : Option (Int) :=
 orRet (iter (braidref01_Cmp_L0 a0 a1) 0) fun s3 =>
 some 0
theorem braidref01_Cmp_ok (a0 : Vector UInt8 32) (a1 : Vector UInt8 32) : Spec Tryz.prog 65 [.rd (arrR 32 u8R) a0, .rd (arrR 32 u8R) a1] [] (braidref01_Cmp a0 a1) (fun r nv => ⟨[.rd i64R r], []⟩) := by
 refine spec 24 Tryz.func65 rfl rfl rfl fun H w => ?_
 refine gSR <| Eb rfl (bx 1 rfl) fun v1 => Eb rfl (bx 2 rfl) fun v2 => Za rfl <| Zn <| gMidR (fun (s3 : Unit) aa ww => Sta (ctx 24 H [] w) [] [] aa ww) ?_ (fun s3 => ?_)
 ·
  refine gSR <| Za rfl <| Zn <| gLoop (fun (s4 : Int) aa ww => Sta (ctx 24 H [] w) [(2, .val (ptrTo v1 0)), (3, .val (ptrTo v2 0)), (5, .rd i64R s4)] [(1, some (v1, .box 27 [.rd (arrR 32 u8R) a0])), (2, some (v2, .box 27 [.rd (arrR 32 u8R) a1]))] aa ww) (fun aa ww h => h.sub [1, 2] (sS rfl <| sS rfl <| sS rfl <| sN) (Zi rfl <| Zi rfl <| rN)) (fun s4 => ?_)
  refine gSeq <| gSR <| Zm rfl <| Zq (I.lss rfl rfl) <| Zn <| gIf rfl rfl (fun h5 => ?_) (fun h5 => ?_)
  ·
   refine Zt <| gSeq <| gBlk <| gSeq <| gSeq <| gRegQ mixed (by kernel_rfl) <| Rq rfl (mv rfl) <| qBind fun x6 h7 => Rq rfl (ixB 1 rfl rfl rfl h7 tu27 ti5) <| Rq rfl (ld 1 rfl rfl ((Foc.here).part (.el h7)) ty5 rfl) <| Rq rfl (mv rfl) <| qBind fun x8 h9 => Rq rfl (ixB 2 rfl rfl rfl h9 tu27 ti5) <| Rq rfl (ld 2 rfl rfl ((Foc.here).part (.el h9)) ty5 rfl) <| Rq rfl (B.lss rfl rfl) <| qNil <| eThen <| gIf rfl rfl (fun h10 => ?_) (fun h10 => ?_)
   ·
    refine gSR <| Za rfl <| Zn <| gRet <| eTret <| eBret <| eTret <| eLret <| eMret <| eRet [] [] rfl (eE rfl <| eN) (rN)
   ·
    refine Zt <| gSeq <| gRegQ mixed (by kernel_rfl) <| Rq rfl (mv rfl) <| qBind fun x11 h12 => Rq rfl (ixB 1 rfl rfl rfl h12 tu27 ti5) <| Rq rfl (ld 1 rfl rfl ((Foc.here).part (.el h12)) ty5 rfl) <| Rq rfl (mv rfl) <| qBind fun x13 h14 => Rq rfl (ixB 2 rfl rfl rfl h14 tu27 ti5) <| Rq rfl (ld 2 rfl rfl ((Foc.here).part (.el h14)) ty5 rfl) <| Rq rfl (B.gtr rfl rfl) <| qNil <| eThen <| gIf rfl rfl (fun h15 => ?_) (fun h15 => ?_)
    ·
     refine gSR <| Za rfl <| Zn <| gRet <| eBret <| eTret <| eLret <| eMret <| eRet [] [] rfl (eE rfl <| eN) (rN)
    ·
     refine gSkip <| eBlk <| eThen <| gReg <| Zm rfl <| Zq (I.add rfl rfl) <| Za rfl <| gNil <| eNext (fun aa ww h => h.sub [1, 2] (sS rfl <| sS rfl <| sS rfl <| sN) (Zi rfl <| Zi rfl <| rN))
  ·
   refine gExit <| eTexit <| eLeave <| eMidR (fun aa ww h => h.sub [] (sN) (rN))
 ·
  refine gSR <| Za rfl <| Zn <| gRet <| eRet [] [] rfl (eE rfl <| eN) (rN)
def braidref04_Rising_L0 (a0 : List (Vector UInt8 32)) (s2 : Int) : Option (Sum (Sum Bool Unit) Int) :=
 if decide (s2 < (a0.length : Int)) then
  idx a0 (w64 (s2 - 1)) >>= fun x4 =>
  idx a0 s2 >>= fun x6 =>
  braidref01_Cmp x4 x6 >>= fun r8 =>
  if decide (0 ≤ r8) then
   some (.inl (.inl false))
  else
   some (.inr (w64 (s2 + 1)))
 else
  some (.inl (.inr ()))
def braidref04_Rising (a0 : List (Vector UInt8 32)) : Option (Bool) :=
 orRet (iter (braidref04_Rising_L0 a0) 1) fun s1 =>
 some true
theorem braidref04_Rising_ok (a0 : List (Vector UInt8 32)) : Spec Tryz.prog 76 [.rd (sliceR (arrR 32 u8R)) a0] [] (braidref04_Rising a0) (fun r nv => ⟨[.rd boolR r], []⟩) := by
 refine spec 21 Tryz.func76 rfl rfl rfl fun H w => ?_
 refine gSR <| Za rfl <| Zn <| gMidR (fun (s1 : Unit) aa ww => Sta (ctx 21 H [] w) [] [] aa ww) ?_ (fun s1 => ?_)
 ·
  refine gSR <| Za rfl <| Zn <| gLoop (fun (s2 : Int) aa ww => Sta (ctx 21 H [] w) [(0, .rd (sliceR (arrR 32 u8R)) a0), (3, .rd i64R s2)] [] aa ww) (fun aa ww h => h.sub [] (sS rfl <| sS rfl <| sN) (rN)) (fun s2 => ?_)
  refine gSeq <| gSR <| Zm rfl <| Zm rfl <| Zq (len' rfl .rd rfl tu22) <| Zq (I.lss rfl rfl) <| Zn <| gIf rfl rfl (fun h3 => ?_) (fun h3 => ?_)
  ·
   refine Zt <| gSeq <| gBlk <| gSeq <| gRegH [] mixed rfl rfl <| hTk 0 rfl rfl (mv rfl) <| hTk 1 rfl rfl (mv rfl) <| hTk 2 rfl rfl (I.sub rfl rfl) <| hBind fun x4 h5 => hTk 3 rfl rfl (ixR rfl rfl h5 tu22 ti27 rfl) <| hTk 4 rfl rfl (ldR rfl ty27) <| hTk 5 rfl rfl (mv rfl) <| hTk 6 rfl rfl (mv rfl) <| hBind fun x6 h7 => hTk 7 rfl rfl (ixR rfl rfl h7 tu22 ti27 rfl) <| hTk 8 rfl rfl (ldR rfl ty27) <| hCallF 9 [] [] rfl (by kernel_rfl) rfl (gd0 rfl) rfl Tryz.func65 rfl rfl (braidref01_Cmp_ok _ _) (aQ rfl <| aQ rfl <| aN) rN rfl (fun _ _ => flat_num) fun r8 n9 => hTk 10 rfl rfl (I.geq rfl rfl) <| hDone (by kernel_rfl) <| eThen <| gIf rfl rfl (fun h10 => ?_) (fun h10 => ?_)
   ·
    refine gSR <| Za rfl <| Zn <| gRet <| eBret <| eTret <| eLret <| eMret <| eRet [] [] rfl (eE rfl <| eN) (rN)
   ·
    refine gSkip <| eBlk <| eThen <| gReg <| Zm rfl <| Zq (I.add rfl rfl) <| Za rfl <| gNil <| eNext (fun aa ww h => h.sub [] (sS rfl <| sS rfl <| sN) (rN))
  ·
   refine gExit <| eTexit <| eLeave <| eMidR (fun aa ww h => h.sub [] (sN) (rN))
 ·
  refine gSR <| Za rfl <| Zn <| gRet <| eRet [] [] rfl (eE rfl <| eN) (rN)
def braidref02_Power_L0 (a2 : UInt64) (s2 : UInt64 × UInt64 × UInt64) : Option (Sum UInt64 (UInt64 × UInt64 × UInt64)) :=
 if decide (0 < s2.2.1) then
  (if (s2.2.1 % 2) == 1 then
   chk (a2 ≠ 0) >>= fun u6 =>
   some ((s2.2.2 * s2.1) % a2) >>= fun y8 =>
   some y8
  else
   some s2.2.2) >>= fun s4 =>
  chk (a2 ≠ 0) >>= fun u9 =>
  some ((s2.1 * s2.1) % a2) >>= fun y11 =>
  some (.inr (y11, s2.2.1 / 2, s4))
 else
  some (.inl s2.2.2)
def braidref02_Power (a0 : UInt64) (a1 : UInt64) (a2 : UInt64) : Option (UInt64) :=
 (iter (braidref02_Power_L0 a2) (a0, a1, 1)) >>= fun s1 =>
 some s1
theorem braidref02_Power_ok (a0 : UInt64) (a1 : UInt64) (a2 : UInt64) : Spec Tryz.prog 130 [.rd u64R a0, .rd u64R a1, .rd u64R a2] [] (braidref02_Power a0 a1 a2) (fun r nv => ⟨[.rd u64R r], []⟩) := by
 refine spec 26 Tryz.func130 rfl rfl rfl fun H w => ?_
 refine gSR <| Za rfl <| Zn <| gSR <| Za rfl <| Zn <| gMid (fun (s1 : UInt64) aa ww => Sta (ctx 26 H [] w) [(7, .rd u64R s1)] [] aa ww) ?_ (fun s1 => ?_)
 ·
  refine gLoop (fun (s2 : UInt64 × UInt64 × UInt64) aa ww => Sta (ctx 26 H [] w) [(0, .rd u64R s2.1), (1, .rd u64R s2.2.1), (2, .rd u64R a2), (7, .rd u64R s2.2.2)] [] aa ww) (fun aa ww h => h.sub [] (Zs rfl rfl rfl rfl <| sN) (rN)) (fun s2 => ?_)
  refine gSeq <| gSR <| Zm rfl <| Zq (U.gtr rfl rfl) <| Zn <| gIf rfl rfl (fun h3 => ?_) (fun h3 => ?_)
  ·
   refine Zt <| gBlk <| gMid (fun (s4 : UInt64) aa ww => Sta (ctx 26 H [] w) [(0, .rd u64R s2.1), (1, .rd u64R s2.2.1), (2, .rd u64R a2), (7, .rd u64R s4)] [] aa ww) ?_ (fun s4 => ?_)
   ·
    refine gSR <| Zm rfl <| Zq (U.rem rfl rfl (by decide)) <| Zq (U.eql rfl rfl) <| Zn <| gIf rfl rfl (fun h5 => ?_) (fun h5 => ?_)
    ·
     refine gReg <| Zm rfl <| Zm rfl <| Zq (U.mul rfl rfl) <| Zm rfl <| lBind fun u6 h7 => Zq (U.rem rfl rfl (chk_some h7)) <| Za rfl <| lName 7 rfl fun y8 => gNil <| eMid (fun aa ww h => h.sub [] (Zs rfl rfl rfl rfl <| sN) (rN))
    ·
     refine gSkip <| eMid (fun aa ww h => h.sub [] (Zs rfl rfl rfl rfl <| sN) (rN))
   ·
    refine gSR <| Zm rfl <| Zm rfl <| Zq (U.mul rfl rfl) <| Zm rfl <| lBind fun u9 h10 => Zq (U.rem rfl rfl (chk_some h10)) <| Za rfl <| lName 0 rfl fun y11 => Zn <| gReg <| Zm rfl <| Zq (U.quo rfl rfl (by decide)) <| Za rfl <| gNil <| eBlk <| eNext (fun aa ww h => h.sub [] (Zs rfl rfl rfl rfl <| sN) (rN))
  ·
   refine gExit <| eTexit <| eLeave <| eMid (fun aa ww h => h.sub [] (sS rfl <| sN) (rN))
 ·
  refine gSR <| Zm rfl <| Za rfl <| Zn <| gRet <| eRet [] [] rfl (eE rfl <| eN) (rN)
def braidref02_Is (a0 : UInt32) : Option (Bool) :=
 if decide (1 ≤ a0) then
  if decide (a0 < 1000000007) then
   braidref02_Power a0.toUInt64 500000003 1000000007 >>= fun r3 =>
   some (r3 == 1)
  else
   some false
 else
  some false
theorem braidref02_Is_ok (a0 : UInt32) : Spec Tryz.prog 101 [.rd u32R a0] [] (braidref02_Is a0) (fun r nv => ⟨[.rd boolR r], []⟩) := by
 refine spec 15 Tryz.func101 rfl rfl rfl fun H w => ?_
 refine gSR <| Za rfl <| Zn <| gSR <| Zm rfl <| Zq (W.geq rfl rfl) <| Zm rfl <| lSplit 5 rfl (fun h1 => ?_) (fun h1 => ?_)
 ·
  refine lKn 4 rfl h1 <| lRun (gd rfl rfl rfl rfl) rfl rfl (mv rfl) <| lRun (gd rfl rfl rfl rfl) rfl rfl (W.lss rfl rfl) <| Zq (pkT rfl rfl) <| Zm rfl <| lSplit 9 rfl (fun h2 => ?_) (fun h2 => ?_)
  ·
   refine lKn 7 rfl h2 <| lKn 8 rfl h2 <| lRun (gd rfl rfl rfl rfl) rfl rfl (mv rfl) <| lRun (gd rfl rfl rfl rfl) rfl rfl (W.toU rfl tu56 tu57) <| callg [] [] (gd rfl rfl rfl rfl) rfl Tryz.func130 rfl rfl (braidref02_Power_ok _ _ _) (aQ rfl <| aQ rfl <| aQ rfl <| aN) rN fun r3 n4 => lRun (gd rfl rfl rfl rfl) rfl rfl (U.eql rfl rfl) <| Zq (pkT rfl rfl) <| Za rfl <| Zn <| gRet <| eRet [] [] rfl (eE rfl <| eN) (rN)
  ·
   refine lKn 7 rfl h2 <| lKn 8 rfl h2 <| Zk rfl <| Zk rfl <| Zk rfl <| Zk rfl <| Zq (pkF rfl rfl) <| Za rfl <| Zn <| gRet <| eRet [] [] rfl (eE rfl <| eN) (rN)
 ·
  refine lKn 4 rfl h1 <| Zk rfl <| Zk rfl <| Zq (pkF rfl rfl) <| Zm rfl <| Zk rfl <| Zk rfl <| Zk rfl <| Zk rfl <| Zq (pkF rfl rfl) <| Za rfl <| Zn <| gRet <| eRet [] [] rfl (eE rfl <| eN) (rN)
def braidref06_Name_L0 (a0 : List UInt8) (s4 : Int) : Option (Sum (Sum Bool Unit) Int) :=
 if decide (s4 < (a0.length : Int)) then
  idx a0 s4 >>= fun x6 =>
  if decide (x6 < 33) then
   some (.inl (.inl false))
  else
   idx a0 s4 >>= fun x9 =>
   if decide (126 < x9) then
    some (.inl (.inl false))
   else
    some (.inr (w64 (s4 + 1)))
 else
  some (.inl (.inr ()))
def braidref06_Name (a0 : List UInt8) : Option (Bool) :=
 if decide ((a0.length : Int) < 1) then
  some false
 else
  if decide (20 < (a0.length : Int)) then
   some false
  else
   orRet (iter (braidref06_Name_L0 a0) 0) fun s3 =>
   some true
theorem braidref06_Name_ok (a0 : List UInt8) : Spec Tryz.prog 131 [.rd strR a0] [] (braidref06_Name a0) (fun r nv => ⟨[.rd boolR r], []⟩) := by
 refine spec 28 Tryz.func131 rfl rfl rfl fun H w => ?_
 refine gSR <| Za rfl <| Zn <| gSeq <| gSR <| Zm rfl <| Zq (lenT rfl rfl tu9) <| Zq (I.lss rfl rfl) <| Zm rfl <| lSplit 7 rfl (fun h1 => ?_) (fun h1 => ?_)
 ·
  refine lKn 6 rfl h1 <| Zk rfl <| Zk rfl <| Zk rfl <| Zq (pkT rfl rfl) <| Zn <| gTrue rfl <| gSR <| Za rfl <| Zn <| gRet <| eTret <| eRet [] [] rfl (eE rfl <| eN) (rN)
 ·
  refine lKn 6 rfl h1 <| lRun (gd rfl rfl rfl rfl) rfl rfl (mv rfl) <| lRun (gd rfl rfl rfl rfl) rfl rfl (lenT rfl rfl tu9) <| lRun (gd rfl rfl rfl rfl) rfl rfl (I.gtr rfl rfl) <| Zq (pkF rfl rfl) <| Zn <| gIf rfl rfl (fun h2 => ?_) (fun h2 => ?_)
  ·
   refine gKn 10 rfl h2 <| gSR <| Za rfl <| Zn <| gRet <| eTret <| eRet [] [] rfl (eE rfl <| eN) (rN)
  ·
   refine gKn 10 rfl h2 <| Zt <| gMidR (fun (s3 : Unit) aa ww => Sta (ctx 28 H [] w) [] [] aa ww) ?_ (fun s3 => ?_)
   ·
    refine gSR <| Za rfl <| Zn <| gLoop (fun (s4 : Int) aa ww => Sta (ctx 28 H [] w) [(0, .rd strR a0), (3, .rd i64R s4)] [] aa ww) (fun aa ww h => h.sub [] (sS rfl <| sS rfl <| sN) (rN)) (fun s4 => ?_)
    refine gSeq <| gSR <| Zm rfl <| Zm rfl <| Zq (lenT rfl rfl tu9) <| Zq (I.lss rfl rfl) <| Zn <| gIf rfl rfl (fun h5 => ?_) (fun h5 => ?_)
    ·
     refine Zt <| gSeq <| gBlk <| gSR <| Zm rfl <| Zm rfl <| lBind fun x6 h7 => Zq (idxT rfl rfl tu9 (idx_some h7).1 (idx_some h7).2.1) <| Zq (B.lss rfl rfl) <| Zm rfl <| lSplit 22 rfl (fun h8 => ?_) (fun h8 => ?_)
     ·
      refine lKn 21 rfl h8 <| Zk rfl <| Zk rfl <| Zk rfl <| Zk rfl <| Zq (pkT rfl rfl) <| Zn <| gTrue rfl <| gSR <| Za rfl <| Zn <| gRet <| eBret <| eTret <| eLret <| eMret <| eRet [] [] rfl (eE rfl <| eN) (rN)
     ·
      refine lKn 21 rfl h8 <| lRun (gd rfl rfl rfl rfl) rfl rfl (mv rfl) <| lRun (gd rfl rfl rfl rfl) rfl rfl (mv rfl) <| lBind fun x9 h10 => lRun (gd rfl rfl rfl rfl) rfl rfl (idxT rfl rfl tu9 (idx_some h10).1 (idx_some h10).2.1) <| lRun (gd rfl rfl rfl rfl) rfl rfl (B.gtr rfl rfl) <| Zq (pkF rfl rfl) <| Zn <| gIf rfl rfl (fun h11 => ?_) (fun h11 => ?_)
      ·
       refine gKn 26 rfl h11 <| gSR <| Za rfl <| Zn <| gRet <| eBret <| eTret <| eLret <| eMret <| eRet [] [] rfl (eE rfl <| eN) (rN)
      ·
       refine gKn 26 rfl h11 <| gSkip <| eBlk <| eThen <| gReg <| Zm rfl <| Zq (I.add rfl rfl) <| Za rfl <| gNil <| eNext (fun aa ww h => h.sub [] (sS rfl <| sS rfl <| sN) (rN))
    ·
     refine gExit <| eTexit <| eLeave <| eMidR (fun aa ww h => h.sub [] (sN) (rN))
   ·
    refine gSR <| Za rfl <| Zn <| gRet <| eRet [] [] rfl (eE rfl <| eN) (rN)
def braidref05_Exponent (a0 : UInt64) : Option (Int) :=
 some (w64 (((a0 % 9223372036854775808) / 4503599627370496).toNat : Int)) >>= fun y1 =>
 some y1
theorem braidref05_Exponent_ok (a0 : UInt64) : Spec Tryz.prog 169 [.rd u64R a0] [] (braidref05_Exponent a0) (fun r nv => ⟨[.rd i64R r], []⟩) := by
 refine spec 7 Tryz.func169 rfl rfl rfl fun H w => ?_
 refine gSR <| Za rfl <| Zn <| gSR <| Zm rfl <| Zq (U.rem rfl rfl (by decide)) <| Zq (U.quo rfl rfl (by decide)) <| Zq (U.toI rfl tu57 tu3) <| Za rfl <| lName 2 rfl fun y1 => Zn <| gRet <| eRet [] [] rfl (eE rfl <| eN) (rN)
def braidref05_Fraction (a0 : UInt64) : Option (UInt64) :=
 some (a0 % 4503599627370496) >>= fun y1 =>
 some y1
theorem braidref05_Fraction_ok (a0 : UInt64) : Spec Tryz.prog 170 [.rd u64R a0] [] (braidref05_Fraction a0) (fun r nv => ⟨[.rd u64R r], []⟩) := by
 refine spec 5 Tryz.func170 rfl rfl rfl fun H w => ?_
 refine gSR <| Za rfl <| Zn <| gSR <| Zm rfl <| Zq (U.rem rfl rfl (by decide)) <| Za rfl <| lName 2 rfl fun y1 => Zn <| gRet <| eRet [] [] rfl (eE rfl <| eN) (rN)
def braidref05_Class (a0 : UInt64) : Option (UInt8) :=
 braidref05_Exponent a0 >>= fun r1 =>
 braidref05_Fraction a0 >>= fun r3 =>
 orRet (if r1 == 0 then
  if r3 == 0 then
   some (.inl 1)
  else
   some (.inr ())
 else
  some (.inr ())) fun s5 =>
 if r1 == 0 then
  some 2
 else
  if decide (r1 < 2047) then
   some 3
  else
   if r3 == 0 then
    some 4
   else
    some 5
theorem braidref05_Class_ok (a0 : UInt64) : Spec Tryz.prog 166 [.rd u64R a0] [] (braidref05_Class a0) (fun r nv => ⟨[.rd u8R r], []⟩) := by
 refine spec 21 Tryz.func166 rfl rfl rfl fun H w => ?_
 refine gSR <| Za rfl <| Zn <| gSR <| Zm rfl <| call [] [] rfl Tryz.func169 rfl rfl (braidref05_Exponent_ok _) (aQ rfl <| aN) rN fun r1 n2 => Zm rfl <| call [] [] rfl Tryz.func170 rfl rfl (braidref05_Fraction_ok _) (aQ rfl <| aN) rN fun r3 n4 => Za rfl <| Za rfl <| Zn <| gMidR (fun (s5 : Unit) aa ww => Sta (ctx 21 H [] w) [(3, .rd i64R r1), (4, .rd u64R r3)] [] aa ww) ?_ (fun s5 => ?_)
 ·
  refine gSR <| Zm rfl <| Zq (I.eql rfl rfl) <| Zm rfl <| lSplit 11 rfl (fun h6 => ?_) (fun h6 => ?_)
  ·
   refine lKn 10 rfl h6 <| lRun (gd rfl rfl rfl rfl) rfl rfl (mv rfl) <| lRun (gd rfl rfl rfl rfl) rfl rfl (U.eql rfl rfl) <| Zq (pkT rfl rfl) <| Zn <| gIf rfl rfl (fun h7 => ?_) (fun h7 => ?_)
   ·
    refine gKn 13 rfl h7 <| gSR <| Za rfl <| Zn <| gRet <| eMret <| eRet [] [] rfl (eE rfl <| eN) (rN)
   ·
    refine gKn 13 rfl h7 <| gSkip <| eMidR (fun aa ww h => h.sub [] (sS rfl <| sS rfl <| sN) (rN))
  ·
   refine lKn 10 rfl h6 <| Zk rfl <| Zk rfl <| Zq (pkF rfl rfl) <| Zn <| gFalse rfl <| gSkip <| eMidR (fun aa ww h => h.sub [] (sS rfl <| sS rfl <| sN) (rN))
 ·
  refine gSeq <| gSR <| Zm rfl <| Zq (I.eql rfl rfl) <| Zn <| gIf rfl rfl (fun h8 => ?_) (fun h8 => ?_)
  ·
   refine gSR <| Za rfl <| Zn <| gRet <| eTret <| eRet [] [] rfl (eE rfl <| eN) (rN)
  ·
   refine Zt <| gSeq <| gSR <| Zm rfl <| Zq (I.lss rfl rfl) <| Zn <| gIf rfl rfl (fun h9 => ?_) (fun h9 => ?_)
   ·
    refine gSR <| Za rfl <| Zn <| gRet <| eTret <| eRet [] [] rfl (eE rfl <| eN) (rN)
   ·
    refine Zt <| gSeq <| gSR <| Zm rfl <| Zq (U.eql rfl rfl) <| Zn <| gIf rfl rfl (fun h10 => ?_) (fun h10 => ?_)
    ·
     refine gSR <| Za rfl <| Zn <| gRet <| eTret <| eRet [] [] rfl (eE rfl <| eN) (rN)
    ·
     refine Zt <| gSR <| Za rfl <| Zn <| gRet <| eRet [] [] rfl (eE rfl <| eN) (rN)
def braidref05_Canon (a0 : UInt64) : Option (UInt64) :=
 braidref05_Class a0 >>= fun r1 =>
 if r1 == 5 then
  some 9221120237041090560
 else
  some a0
theorem braidref05_Canon_ok (a0 : UInt64) : Spec Tryz.prog 153 [.rd u64R a0] [] (braidref05_Canon a0) (fun r nv => ⟨[.rd u64R r], []⟩) := by
 refine spec 7 Tryz.func153 rfl rfl rfl fun H w => ?_
 refine gSR <| Za rfl <| Zn <| gSeq <| gSR <| Zm rfl <| call [] [] rfl Tryz.func166 rfl rfl (braidref05_Class_ok _) (aQ rfl <| aN) rN fun r1 n2 => Zq (B.eql rfl rfl) <| Zn <| gIf rfl rfl (fun h3 => ?_) (fun h3 => ?_)
 ·
  refine gSR <| Za rfl <| Zn <| gRet <| eTret <| eRet [] [] rfl (eE rfl <| eN) (rN)
 ·
  refine Zt <| gSR <| Zm rfl <| Za rfl <| Zn <| gRet <| eRet [] [] rfl (eE rfl <| eN) (rN)
def braidref05_Printable_L0 (a0 : List UInt8) (s2 : Int) : Option (Sum (Sum Bool Unit) Int) :=
 if decide (s2 < (a0.length : Int)) then
  idx a0 s2 >>= fun x4 =>
  if decide (x4 < 32) then
   some (.inl (.inl false))
  else
   idx a0 s2 >>= fun x7 =>
   if decide (126 < x7) then
    some (.inl (.inl false))
   else
    some (.inr (w64 (s2 + 1)))
 else
  some (.inl (.inr ()))
def braidref05_Printable (a0 : List UInt8) : Option (Bool) :=
 orRet (iter (braidref05_Printable_L0 a0) 0) fun s1 =>
 some true
theorem braidref05_Printable_ok (a0 : List UInt8) : Spec Tryz.prog 154 [.rd strR a0] [] (braidref05_Printable a0) (fun r nv => ⟨[.rd boolR r], []⟩) := by
 refine spec 20 Tryz.func154 rfl rfl rfl fun H w => ?_
 refine gSR <| Za rfl <| Zn <| gMidR (fun (s1 : Unit) aa ww => Sta (ctx 20 H [] w) [] [] aa ww) ?_ (fun s1 => ?_)
 ·
  refine gSR <| Za rfl <| Zn <| gLoop (fun (s2 : Int) aa ww => Sta (ctx 20 H [] w) [(0, .rd strR a0), (3, .rd i64R s2)] [] aa ww) (fun aa ww h => h.sub [] (sS rfl <| sS rfl <| sN) (rN)) (fun s2 => ?_)
  refine gSeq <| gSR <| Zm rfl <| Zm rfl <| Zq (lenT rfl rfl tu9) <| Zq (I.lss rfl rfl) <| Zn <| gIf rfl rfl (fun h3 => ?_) (fun h3 => ?_)
  ·
   refine Zt <| gSeq <| gBlk <| gSR <| Zm rfl <| Zm rfl <| lBind fun x4 h5 => Zq (idxT rfl rfl tu9 (idx_some h5).1 (idx_some h5).2.1) <| Zq (B.lss rfl rfl) <| Zm rfl <| lSplit 14 rfl (fun h6 => ?_) (fun h6 => ?_)
   ·
    refine lKn 13 rfl h6 <| Zk rfl <| Zk rfl <| Zk rfl <| Zk rfl <| Zq (pkT rfl rfl) <| Zn <| gTrue rfl <| gSR <| Za rfl <| Zn <| gRet <| eBret <| eTret <| eLret <| eMret <| eRet [] [] rfl (eE rfl <| eN) (rN)
   ·
    refine lKn 13 rfl h6 <| lRun (gd rfl rfl rfl rfl) rfl rfl (mv rfl) <| lRun (gd rfl rfl rfl rfl) rfl rfl (mv rfl) <| lBind fun x7 h8 => lRun (gd rfl rfl rfl rfl) rfl rfl (idxT rfl rfl tu9 (idx_some h8).1 (idx_some h8).2.1) <| lRun (gd rfl rfl rfl rfl) rfl rfl (B.gtr rfl rfl) <| Zq (pkF rfl rfl) <| Zn <| gIf rfl rfl (fun h9 => ?_) (fun h9 => ?_)
    ·
     refine gKn 18 rfl h9 <| gSR <| Za rfl <| Zn <| gRet <| eBret <| eTret <| eLret <| eMret <| eRet [] [] rfl (eE rfl <| eN) (rN)
    ·
     refine gKn 18 rfl h9 <| gSkip <| eBlk <| eThen <| gReg <| Zm rfl <| Zq (I.add rfl rfl) <| Za rfl <| gNil <| eNext (fun aa ww h => h.sub [] (sS rfl <| sS rfl <| sN) (rN))
  ·
   refine gExit <| eTexit <| eLeave <| eMidR (fun aa ww h => h.sub [] (sN) (rN))
 ·
  refine gSR <| Za rfl <| Zn <| gRet <| eRet [] [] rfl (eE rfl <| eN) (rN)
def braidref05_Check (a0 : api_Value) : Option (Int) :=
 if a0.Kind == 1 then
  if a0.Bits == 0 then
   if a0.Text == [] then
    some 0
   else
    some 8
  else
   some 8
 else
  if a0.Kind == 2 then
   (if a0.Num == 0 then
    if a0.Text == [] then
     braidref05_Canon a0.Bits >>= fun r9 =>
     some (r9 == a0.Bits)
    else
     some false
   else
    some false) >>= fun s6 =>
   if s6 then
    some 0
   else
    some 8
  else
   if a0.Kind == 3 then
    (if a0.Num == 0 then
     if a0.Bits == 0 then
      if decide ((a0.Text.length : Int) ≤ 30) then
       braidref05_Printable a0.Text >>= fun r17 =>
       some r17
      else
       some false
     else
      some false
    else
     some false) >>= fun s13 =>
    if s13 then
     some 0
    else
     some 8
   else
    some 8
theorem braidref05_Check_ok (a0 : api_Value) : Spec Tryz.prog 132 [.rd R_api_Value a0] [] (braidref05_Check a0) (fun r nv => ⟨[.rd i64R r], []⟩) := by
 refine spec 54 Tryz.func132 rfl rfl rfl fun H w => ?_
 refine gSR <| Eb rfl (bx 1 rfl) fun v1 => Za rfl <| Zn <| gSeq <| gSR <| Zq (faB 1 rfl rfl Tryz.underlying59 rfl (by exact ti5)) <| Zq (ld 1 rfl rfl ((Foc.here).part (pt_api_Value_Kind _)) ty5 rfl) <| Zn <| gBlk <| gSR <| Zq (B.eql rfl rfl) <| Za rfl <| Zn <| gIf rfl rfl (fun h2 => ?_) (fun h2 => ?_)
 ·
  refine gKn 6 rfl h2 <| gSR <| Zq (faB 1 rfl rfl Tryz.underlying59 rfl (by exact ti57)) <| Zq (ld 1 rfl rfl ((Foc.here).part (pt_api_Value_Bits _)) ty57 rfl) <| Zq (U.eql rfl rfl) <| Zm rfl <| lSplit 10 rfl (fun h3 => ?_) (fun h3 => ?_)
  ·
   refine lKn 9 rfl h3 <| lRun (gd rfl rfl rfl rfl) rfl rfl (faB 1 rfl rfl Tryz.underlying59 rfl (by exact ti9)) <| lRun (gd rfl rfl rfl rfl) rfl rfl (ld 1 rfl rfl ((Foc.here).part (pt_api_Value_Text _)) ty9 rfl) <| lRun (gd rfl rfl rfl rfl) rfl rfl (eqS rfl rfl) <| Zq (pkT rfl rfl) <| Zn <| gIf rfl rfl (fun h4 => ?_) (fun h4 => ?_)
   ·
    refine gKn 13 rfl h4 <| gSR <| Za rfl <| Zn <| gRet <| eBret <| eTret <| eRet [] [] rfl (eE rfl <| eN) (rN)
   ·
    refine gKn 13 rfl h4 <| gSkip <| eBlk <| eThen <| gSR <| Za rfl <| Zn <| gRet <| eRet [] [] rfl (eE rfl <| eN) (rN)
  ·
   refine lKn 9 rfl h3 <| Zk rfl <| Zk rfl <| Zk rfl <| Zq (pkF rfl rfl) <| Zn <| gFalse rfl <| gSkip <| eBlk <| eThen <| gSR <| Za rfl <| Zn <| gRet <| eRet [] [] rfl (eE rfl <| eN) (rN)
 ·
  refine gKn 6 rfl h2 <| gSR <| Zq (B.eql rfl rfl) <| Za rfl <| Zn <| gIf rfl rfl (fun h5 => ?_) (fun h5 => ?_)
  ·
   refine gKn 16 rfl h5 <| gMid (fun (s6 : Bool) aa ww => Sta (ctx 54 H [] w) [(32, .rd boolR s6)] [] aa ww) ?_ (fun s6 => ?_)
   ·
    refine gRegH [] mixed rfl rfl <| hTk 0 rfl rfl (faB 1 rfl rfl Tryz.underlying59 rfl (by exact ti2)) <| hTk 1 rfl rfl (ld 1 rfl rfl ((Foc.here).part (pt_api_Value_Num _)) ty2 rfl) <| hTk 2 rfl rfl (I.eql rfl rfl) <| hTk 3 rfl rfl (mv rfl) <| hIf 20 rfl rfl (fun h7 => ?_) (fun h7 => ?_)
    ·
     refine hKn 19 rfl rfl h7 <| hTake 4 rfl (by kernel_rfl) (by kernel_rfl) (by kernel_rfl) (gd rfl rfl rfl rfl) rfl rfl (faB 1 rfl rfl Tryz.underlying59 rfl (by exact ti9)) <| hTake 5 rfl (by kernel_rfl) (by kernel_rfl) (by kernel_rfl) (gd rfl rfl rfl rfl) rfl rfl (ld 1 rfl rfl ((Foc.here).part (pt_api_Value_Text _)) ty9 rfl) <| hTake 6 rfl (by kernel_rfl) (by kernel_rfl) (by kernel_rfl) (gd rfl rfl rfl rfl) rfl rfl (eqS rfl rfl) <| hTk 7 rfl rfl (pkT rfl rfl) <| hTk 8 rfl rfl (mv rfl) <| hIf 25 rfl rfl (fun h8 => ?_) (fun h8 => ?_)
     ·
      refine hKn 23 rfl rfl h8 <| hKn 24 rfl rfl h8 <| hTake 9 rfl (by kernel_rfl) (by kernel_rfl) (by kernel_rfl) (gd rfl rfl rfl rfl) rfl rfl (faB 1 rfl rfl Tryz.underlying59 rfl (by exact ti57)) <| hTake 10 rfl (by kernel_rfl) (by kernel_rfl) (by kernel_rfl) (gd rfl rfl rfl rfl) rfl rfl (ld 1 rfl rfl ((Foc.here).part (pt_api_Value_Bits _)) ty57 rfl) <| hTake 12 rfl (by kernel_rfl) (by kernel_rfl) (by kernel_rfl) (gd rfl rfl rfl rfl) rfl rfl (faB 1 rfl rfl Tryz.underlying59 rfl (by exact ti57)) <| hTake 13 rfl (by kernel_rfl) (by kernel_rfl) (by kernel_rfl) (gd rfl rfl rfl rfl) rfl rfl (ld 1 rfl rfl ((Foc.here).part (pt_api_Value_Bits _)) ty57 rfl) <| hCallF 11 [] [] rfl (by kernel_rfl) rfl (gd rfl rfl rfl rfl) rfl Tryz.func153 rfl rfl (braidref05_Canon_ok _) (aQ rfl <| aN) rN rfl (fun _ _ => flat_num) fun r9 n10 => hTake 14 rfl (by kernel_rfl) (by kernel_rfl) (by kernel_rfl) (gd rfl rfl rfl rfl) rfl rfl (U.eql rfl rfl) <| hTk 15 rfl rfl (pkT rfl rfl) <| hDone (by kernel_rfl) <| eMid (fun aa ww h => h.sub [] (sS rfl <| sN) (rN))
     ·
      refine hKn 23 rfl rfl h8 <| hKn 24 rfl rfl h8 <| hSk 9 rfl rfl <| hSk 10 rfl rfl <| hSk 11 rfl rfl <| hSk 12 rfl rfl <| hSk 13 rfl rfl <| hSk 14 rfl rfl <| hTk 15 rfl rfl (pkF rfl rfl) <| hDone (by kernel_rfl) <| eMid (fun aa ww h => h.sub [] (sS rfl <| sN) (rN))
    ·
     refine hKn 19 rfl rfl h7 <| hSk 4 rfl rfl <| hSk 5 rfl rfl <| hSk 6 rfl rfl <| hTk 7 rfl rfl (pkF rfl rfl) <| hTk 8 rfl rfl (mv rfl) <| hSk 9 rfl rfl <| hSk 10 rfl rfl <| hSk 11 rfl rfl <| hSk 12 rfl rfl <| hSk 13 rfl rfl <| hSk 14 rfl rfl <| hTk 15 rfl rfl (pkF rfl rfl) <| hDone (by kernel_rfl) <| eMid (fun aa ww h => h.sub [] (sS rfl <| sN) (rN))
   ·
    refine gIf rfl rfl (fun h11 => ?_) (fun h11 => ?_)
    ·
     refine gSR <| Za rfl <| Zn <| gRet <| eBret <| eTret <| eRet [] [] rfl (eE rfl <| eN) (rN)
    ·
     refine gSkip <| eBlk <| eThen <| gSR <| Za rfl <| Zn <| gRet <| eRet [] [] rfl (eE rfl <| eN) (rN)
  ·
   refine gKn 16 rfl h5 <| gSR <| Zq (B.eql rfl rfl) <| Za rfl <| Zn <| gIf rfl rfl (fun h12 => ?_) (fun h12 => ?_)
   ·
    refine gKn 34 rfl h12 <| gMid (fun (s13 : Bool) aa ww => Sta (ctx 54 H [] w) [(53, .rd boolR s13)] [] aa ww) ?_ (fun s13 => ?_)
    ·
     refine gReg <| Zq (faB 1 rfl rfl Tryz.underlying59 rfl (by exact ti2)) <| Zq (ld 1 rfl rfl ((Foc.here).part (pt_api_Value_Num _)) ty2 rfl) <| Zq (I.eql rfl rfl) <| Zm rfl <| lSplit 38 rfl (fun h14 => ?_) (fun h14 => ?_)
     ·
      refine lKn 37 rfl h14 <| lRun (gd rfl rfl rfl rfl) rfl rfl (faB 1 rfl rfl Tryz.underlying59 rfl (by exact ti57)) <| lRun (gd rfl rfl rfl rfl) rfl rfl (ld 1 rfl rfl ((Foc.here).part (pt_api_Value_Bits _)) ty57 rfl) <| lRun (gd rfl rfl rfl rfl) rfl rfl (U.eql rfl rfl) <| Zq (pkT rfl rfl) <| Zm rfl <| lSplit 43 rfl (fun h15 => ?_) (fun h15 => ?_)
      ·
       refine lKn 41 rfl h15 <| lKn 42 rfl h15 <| lRun (gd rfl rfl rfl rfl) rfl rfl (faB 1 rfl rfl Tryz.underlying59 rfl (by exact ti9)) <| lRun (gd rfl rfl rfl rfl) rfl rfl (ld 1 rfl rfl ((Foc.here).part (pt_api_Value_Text _)) ty9 rfl) <| lRun (gd rfl rfl rfl rfl) rfl rfl (lenT rfl rfl tu9) <| lRun (gd rfl rfl rfl rfl) rfl rfl (I.leq rfl rfl) <| Zq (pkT rfl rfl) <| Zm rfl <| lSplit 49 rfl (fun h16 => ?_) (fun h16 => ?_)
       ·
        refine lKn 47 rfl h16 <| lKn 48 rfl h16 <| lRun (gd rfl rfl rfl rfl) rfl rfl (faB 1 rfl rfl Tryz.underlying59 rfl (by exact ti9)) <| lRun (gd rfl rfl rfl rfl) rfl rfl (ld 1 rfl rfl ((Foc.here).part (pt_api_Value_Text _)) ty9 rfl) <| callg [] [] (gd rfl rfl rfl rfl) rfl Tryz.func154 rfl rfl (braidref05_Printable_ok _) (aQ rfl <| aN) rN fun r17 n18 => Zq (pkT rfl rfl) <| gNil <| eMid (fun aa ww h => h.sub [] (sS rfl <| sN) (rN))
       ·
        refine lKn 47 rfl h16 <| lKn 48 rfl h16 <| Zk rfl <| Zk rfl <| Zk rfl <| Zq (pkF rfl rfl) <| gNil <| eMid (fun aa ww h => h.sub [] (sS rfl <| sN) (rN))
      ·
       refine lKn 41 rfl h15 <| lKn 42 rfl h15 <| Zk rfl <| Zk rfl <| Zk rfl <| Zk rfl <| Zq (pkF rfl rfl) <| Zm rfl <| Zk rfl <| Zk rfl <| Zk rfl <| Zq (pkF rfl rfl) <| gNil <| eMid (fun aa ww h => h.sub [] (sS rfl <| sN) (rN))
     ·
      refine lKn 37 rfl h14 <| Zk rfl <| Zk rfl <| Zk rfl <| Zq (pkF rfl rfl) <| Zm rfl <| Zk rfl <| Zk rfl <| Zk rfl <| Zk rfl <| Zq (pkF rfl rfl) <| Zm rfl <| Zk rfl <| Zk rfl <| Zk rfl <| Zq (pkF rfl rfl) <| gNil <| eMid (fun aa ww h => h.sub [] (sS rfl <| sN) (rN))
    ·
     refine gIf rfl rfl (fun h19 => ?_) (fun h19 => ?_)
     ·
      refine gSR <| Za rfl <| Zn <| gRet <| eBret <| eTret <| eRet [] [] rfl (eE rfl <| eN) (rN)
     ·
      refine gSkip <| eBlk <| eThen <| gSR <| Za rfl <| Zn <| gRet <| eRet [] [] rfl (eE rfl <| eN) (rN)
   ·
    refine gKn 34 rfl h12 <| gSkip <| eBlk <| eThen <| gSR <| Za rfl <| Zn <| gRet <| eRet [] [] rfl (eE rfl <| eN) (rN)
def braidref06_CheckAct (a0 : api_Act) : Option (Int) :=
 some (decide (a0.Value = (⟨0, 0, 0, []⟩ : api_Value))) >>= fun y2 =>
 if a0.Kind == 1 then
  if a0.Key == [] then
   if y2 then
    some 0
   else
    some 8
  else
   some 8
 else
  (if a0.Kind == 2 then
   some true
  else
   some (a0.Kind == 3)) >>= fun s6 =>
  if s6 then
   braidref06_Name a0.Key >>= fun r9 =>
   if r9 then
    if y2 then
     some 0
    else
     some 8
   else
    some 8
  else
   if a0.Kind == 4 then
    braidref06_Name a0.Key >>= fun r14 =>
    if r14 then
     braidref05_Check a0.Value >>= fun r17 =>
     if r17 == 0 then
      some 0
     else
      some 8
    else
     some 8
   else
    some 8
theorem braidref06_CheckAct_ok (a0 : api_Act) : Spec Tryz.prog 102 [.rd R_api_Act a0] [] (braidref06_CheckAct a0) (fun r nv => ⟨[.rd i64R r], []⟩) := by
 refine spec 38 Tryz.func102 rfl rfl rfl fun H w => ?_
 refine gSR <| Eb rfl (bx 1 rfl) fun v1 => Za rfl <| Zn <| gSR <| Zq (faB 1 rfl rfl Tryz.underlying61 rfl (by exact ti59)) <| Zq (ld 1 rfl rfl ((Foc.here).part (pt_api_Act_Value _)) ty59 rfl) <| Zq (bld (x' := (⟨0, 0, 0, []⟩ : api_Value)) [(0, 1), (1, 1), (2, 1), (3, 1)] Tryz.underlying59 ti59 rfl zr59 rfl (Bld.done rfl)) <| Zq (eqA rfl rfl eq59 rfl rfl gq59) <| Za rfl <| lName 3 rfl fun y2 => Zn <| gSeq <| gSR <| Zq (faB 1 rfl rfl Tryz.underlying61 rfl (by exact ti5)) <| Zq (ld 1 rfl rfl ((Foc.here).part (pt_api_Act_Kind _)) ty5 rfl) <| Zn <| gBlk <| gSR <| Zq (B.eql rfl rfl) <| Za rfl <| Zn <| gIf rfl rfl (fun h3 => ?_) (fun h3 => ?_)
 ·
  refine gKn 11 rfl h3 <| gSR <| Zq (faB 1 rfl rfl Tryz.underlying61 rfl (by exact ti9)) <| Zq (ld 1 rfl rfl ((Foc.here).part (pt_api_Act_Key _)) ty9 rfl) <| Zq (eqS rfl rfl) <| Zm rfl <| lSplit 15 rfl (fun h4 => ?_) (fun h4 => ?_)
  ·
   refine lKn 14 rfl h4 <| lRun (gd rfl rfl rfl rfl) rfl rfl (mv rfl) <| Zq (pkT rfl rfl) <| Zn <| gIf rfl rfl (fun h5 => ?_) (fun h5 => ?_)
   ·
    refine gKn 3 rfl h5 <| gKn 16 rfl h5 <| gSR <| Za rfl <| Zn <| gRet <| eBret <| eTret <| eRet [] [] rfl (eE rfl <| eN) (rN)
   ·
    refine gKn 3 rfl h5 <| gKn 16 rfl h5 <| gSkip <| eBlk <| eThen <| gSR <| Za rfl <| Zn <| gRet <| eRet [] [] rfl (eE rfl <| eN) (rN)
  ·
   refine lKn 14 rfl h4 <| Zk rfl <| Zq (pkF rfl rfl) <| Zn <| gFalse rfl <| gSkip <| eBlk <| eThen <| gSR <| Za rfl <| Zn <| gRet <| eRet [] [] rfl (eE rfl <| eN) (rN)
 ·
  refine gKn 11 rfl h3 <| gMid (fun (s6 : Bool) aa ww => Sta (ctx 38 H [] w) [(1, .val (ptrTo v1 0)), (3, .rd boolR y2), (9, .rd u8R a0.Kind), (18, .rd boolR s6)] [(1, some (v1, .box 61 [.rd R_api_Act a0]))] aa ww) ?_ (fun s6 => ?_)
  ·
   refine gSR <| Zq (B.eql rfl rfl) <| Za rfl <| Zn <| gIf rfl rfl (fun h7 => ?_) (fun h7 => ?_)
   ·
    refine gKn 19 rfl h7 <| gSkip <| eMid (fun aa ww h => h.sub [1] (Zs rfl rfl rfl rfl <| sN) (Zi rfl <| rN))
   ·
    refine gKn 19 rfl h7 <| gReg <| Zq (B.eql rfl rfl) <| Za rfl <| gNil <| eMid (fun aa ww h => h.sub [1] (Zs rfl rfl rfl rfl <| sN) (Zi rfl <| rN))
  ·
   refine gIf rfl rfl (fun h8 => ?_) (fun h8 => ?_)
   ·
    refine gSR <| Zq (faB 1 rfl rfl Tryz.underlying61 rfl (by exact ti9)) <| Zq (ld 1 rfl rfl ((Foc.here).part (pt_api_Act_Key _)) ty9 rfl) <| call [] [] rfl Tryz.func131 rfl rfl (braidref06_Name_ok _) (aQ rfl <| aN) rN fun r9 n10 => Zm rfl <| lSplit 24 rfl (fun h11 => ?_) (fun h11 => ?_)
    ·
     refine lKn 23 rfl h11 <| lRun (gd rfl rfl rfl rfl) rfl rfl (mv rfl) <| Zq (pkT rfl rfl) <| Zn <| gIf rfl rfl (fun h12 => ?_) (fun h12 => ?_)
     ·
      refine gKn 3 rfl h12 <| gKn 25 rfl h12 <| gSR <| Za rfl <| Zn <| gRet <| eBret <| eTret <| eRet [] [] rfl (eE rfl <| eN) (rN)
     ·
      refine gKn 3 rfl h12 <| gKn 25 rfl h12 <| gSkip <| eBlk <| eThen <| gSR <| Za rfl <| Zn <| gRet <| eRet [] [] rfl (eE rfl <| eN) (rN)
    ·
     refine lKn 23 rfl h11 <| Zk rfl <| Zq (pkF rfl rfl) <| Zn <| gFalse rfl <| gSkip <| eBlk <| eThen <| gSR <| Za rfl <| Zn <| gRet <| eRet [] [] rfl (eE rfl <| eN) (rN)
   ·
    refine gSR <| Zq (B.eql rfl rfl) <| Za rfl <| Zn <| gIf rfl rfl (fun h13 => ?_) (fun h13 => ?_)
    ·
     refine gKn 28 rfl h13 <| gSR <| Zq (faB 1 rfl rfl Tryz.underlying61 rfl (by exact ti9)) <| Zq (ld 1 rfl rfl ((Foc.here).part (pt_api_Act_Key _)) ty9 rfl) <| call [] [] rfl Tryz.func131 rfl rfl (braidref06_Name_ok _) (aQ rfl <| aN) rN fun r14 n15 => Zm rfl <| lSplit 32 rfl (fun h16 => ?_) (fun h16 => ?_)
     ·
      refine lKn 31 rfl h16 <| lRun (gd rfl rfl rfl rfl) rfl rfl (faB 1 rfl rfl Tryz.underlying61 rfl (by exact ti59)) <| lRun (gd rfl rfl rfl rfl) rfl rfl (ld 1 rfl rfl ((Foc.here).part (pt_api_Act_Value _)) ty59 rfl) <| callg [] [] (gd rfl rfl rfl rfl) rfl Tryz.func132 rfl rfl (braidref05_Check_ok _) (aQ rfl <| aN) rN fun r17 n18 => lRun (gd rfl rfl rfl rfl) rfl rfl (I.eql rfl rfl) <| Zq (pkT rfl rfl) <| Zn <| gIf rfl rfl (fun h19 => ?_) (fun h19 => ?_)
      ·
       refine gKn 36 rfl h19 <| gSR <| Za rfl <| Zn <| gRet <| eBret <| eTret <| eRet [] [] rfl (eE rfl <| eN) (rN)
      ·
       refine gKn 36 rfl h19 <| gSkip <| eBlk <| eThen <| gSR <| Za rfl <| Zn <| gRet <| eRet [] [] rfl (eE rfl <| eN) (rN)
     ·
      refine lKn 31 rfl h16 <| Zk rfl <| Zk rfl <| Zk rfl <| Zk rfl <| Zq (pkF rfl rfl) <| Zn <| gFalse rfl <| gSkip <| eBlk <| eThen <| gSR <| Za rfl <| Zn <| gRet <| eRet [] [] rfl (eE rfl <| eN) (rN)
    ·
     refine gKn 28 rfl h13 <| gSkip <| eBlk <| eThen <| gSR <| Za rfl <| Zn <| gRet <| eRet [] [] rfl (eE rfl <| eN) (rN)
def braidref02_Exponent (a0 : UInt32) : Option (Bool) :=
 some (decide (a0.toUInt64 < 500000003)) >>= fun y1 =>
 some y1
theorem braidref02_Exponent_ok (a0 : UInt32) : Spec Tryz.prog 103 [.rd u32R a0] [] (braidref02_Exponent a0) (fun r nv => ⟨[.rd boolR r], []⟩) := by
 refine spec 6 Tryz.func103 rfl rfl rfl fun H w => ?_
 refine gSR <| Za rfl <| Zn <| gSR <| Zm rfl <| Zq (W.toU rfl tu56 tu57) <| Zq (U.lss rfl rfl) <| Za rfl <| lName 2 rfl fun y1 => Zn <| gRet <| eRet [] [] rfl (eE rfl <| eN) (rN)
def braidref06_Check (a0 : api_Op) : Option (Int) :=
 if decide (4 < (a0.Preds.length : Int)) then
  some 4
 else
  braidref04_Rising a0.Preds >>= fun r3 =>
  if !r3 then
   some 32
  else
   (braidref02_Is a0.Author >>= fun r7 =>
   if !r7 then
    some true
   else
    if decide (1000000000000 < a0.Stamp) then
     some true
    else
     braidref06_CheckAct a0.Act >>= fun r11 =>
     if r11 != 0 then
      some true
     else
      braidref02_Exponent a0.Sig.E >>= fun r14 =>
      if !r14 then
       some true
      else
       braidref02_Exponent a0.Sig.S >>= fun r17 =>
       some (!r17)) >>= fun s6 =>
   if s6 then
    some 8
   else
    some 0
theorem braidref06_Check_ok (a0 : api_Op) : Spec Tryz.prog 72 [.rd R_api_Op a0] [] (braidref06_Check a0) (fun r nv => ⟨[.rd i64R r], []⟩) := by
 refine spec 40 Tryz.func72 rfl rfl rfl fun H w => ?_
 refine gSR <| Eb rfl (bx 1 rfl) fun v1 => Za rfl <| Zn <| gSeq <| gSR <| Zq (faB 1 rfl rfl Tryz.underlying65 rfl (by exact ti22)) <| Zq (ld 1 rfl rfl ((Foc.here).part (pt_api_Op_Preds _)) ty22 rfl) <| Zq (len' rfl .rd rfl tu22) <| Zq (I.gtr rfl rfl) <| Zn <| gIf rfl rfl (fun h2 => ?_) (fun h2 => ?_)
 ·
  refine gSR <| Za rfl <| Zn <| gRet <| eTret <| eRet [] [] rfl (eE rfl <| eN) (rN)
 ·
  refine Zt <| gSeq <| gSR <| Zq (faB 1 rfl rfl Tryz.underlying65 rfl (by exact ti22)) <| Zq (ld 1 rfl rfl ((Foc.here).part (pt_api_Op_Preds _)) ty22 rfl) <| call [] [] rfl Tryz.func76 rfl rfl (braidref04_Rising_ok _) (aQ rfl <| aN) rN fun r3 n4 => Zq (not' rfl) <| Zn <| gIf rfl rfl (fun h5 => ?_) (fun h5 => ?_)
  ·
   refine gSR <| Za rfl <| Zn <| gRet <| eTret <| eRet [] [] rfl (eE rfl <| eN) (rN)
  ·
   refine Zt <| gSeq <| gMid (fun (s6 : Bool) aa ww => Sta (ctx 40 H [] w) [(39, .rd boolR s6)] [] aa ww) ?_ (fun s6 => ?_)
   ·
    refine gReg <| Zq (faB 1 rfl rfl Tryz.underlying65 rfl (by exact ti56)) <| Zq (ld 1 rfl rfl ((Foc.here).part (pt_api_Op_Author _)) ty56 rfl) <| call [] [] rfl Tryz.func101 rfl rfl (braidref02_Is_ok _) (aQ rfl <| aN) rN fun r7 n8 => Zq (not' rfl) <| Zm rfl <| lSplit 15 rfl (fun h9 => ?_) (fun h9 => ?_)
    ·
     refine lKn 14 rfl h9 <| Zk rfl <| Zk rfl <| Zk rfl <| Zq (pkT rfl rfl) <| Zm rfl <| Zk rfl <| Zk rfl <| Zk rfl <| Zk rfl <| Zq (pkT rfl rfl) <| Zm rfl <| Zk rfl <| Zk rfl <| Zk rfl <| Zk rfl <| Zk rfl <| Zq (pkT rfl rfl) <| Zm rfl <| Zk rfl <| Zk rfl <| Zk rfl <| Zk rfl <| Zk rfl <| Zq (pkT rfl rfl) <| gNil <| eMid (fun aa ww h => h.sub [] (sS rfl <| sN) (rN))
    ·
     refine lKn 14 rfl h9 <| lRun (gd rfl rfl rfl rfl) rfl rfl (faB 1 rfl rfl Tryz.underlying65 rfl (by exact ti57)) <| lRun (gd rfl rfl rfl rfl) rfl rfl (ld 1 rfl rfl ((Foc.here).part (pt_api_Op_Stamp _)) ty57 rfl) <| lRun (gd rfl rfl rfl rfl) rfl rfl (U.gtr rfl rfl) <| Zq (pkF rfl rfl) <| Zm rfl <| lSplit 20 rfl (fun h10 => ?_) (fun h10 => ?_)
     ·
      refine lKn 18 rfl h10 <| lKn 19 rfl h10 <| Zk rfl <| Zk rfl <| Zk rfl <| Zk rfl <| Zq (pkT rfl rfl) <| Zm rfl <| Zk rfl <| Zk rfl <| Zk rfl <| Zk rfl <| Zk rfl <| Zq (pkT rfl rfl) <| Zm rfl <| Zk rfl <| Zk rfl <| Zk rfl <| Zk rfl <| Zk rfl <| Zq (pkT rfl rfl) <| gNil <| eMid (fun aa ww h => h.sub [] (sS rfl <| sN) (rN))
     ·
      refine lKn 18 rfl h10 <| lKn 19 rfl h10 <| lRun (gd rfl rfl rfl rfl) rfl rfl (faB 1 rfl rfl Tryz.underlying65 rfl (by exact ti61)) <| lRun (gd rfl rfl rfl rfl) rfl rfl (ld 1 rfl rfl ((Foc.here).part (pt_api_Op_Act _)) ty61 rfl) <| callg [] [] (gd rfl rfl rfl rfl) rfl Tryz.func102 rfl rfl (braidref06_CheckAct_ok _) (aQ rfl <| aN) rN fun r11 n12 => lRun (gd rfl rfl rfl rfl) rfl rfl (I.neq rfl rfl) <| Zq (pkF rfl rfl) <| Zm rfl <| lSplit 26 rfl (fun h13 => ?_) (fun h13 => ?_)
      ·
       refine lKn 24 rfl h13 <| lKn 25 rfl h13 <| Zk rfl <| Zk rfl <| Zk rfl <| Zk rfl <| Zk rfl <| Zq (pkT rfl rfl) <| Zm rfl <| Zk rfl <| Zk rfl <| Zk rfl <| Zk rfl <| Zk rfl <| Zq (pkT rfl rfl) <| gNil <| eMid (fun aa ww h => h.sub [] (sS rfl <| sN) (rN))
      ·
       refine lKn 24 rfl h13 <| lKn 25 rfl h13 <| lRun (gd rfl rfl rfl rfl) rfl rfl (faB 1 rfl rfl Tryz.underlying65 rfl (by exact ti63)) <| lRun (gd rfl rfl rfl rfl) rfl rfl (faB 1 rfl rfl Tryz.underlying63 rfl (by exact ti56)) <| lRun (gd rfl rfl rfl rfl) rfl rfl (ld 1 rfl rfl (((Foc.here).part (pt_api_Op_Sig _)).part (pt_api_Sig_E _)) ty56 rfl) <| callg [] [] (gd rfl rfl rfl rfl) rfl Tryz.func103 rfl rfl (braidref02_Exponent_ok _) (aQ rfl <| aN) rN fun r14 n15 => lRun (gd rfl rfl rfl rfl) rfl rfl (not' rfl) <| Zq (pkF rfl rfl) <| Zm rfl <| lSplit 33 rfl (fun h16 => ?_) (fun h16 => ?_)
       ·
        refine lKn 31 rfl h16 <| lKn 32 rfl h16 <| Zk rfl <| Zk rfl <| Zk rfl <| Zk rfl <| Zk rfl <| Zq (pkT rfl rfl) <| gNil <| eMid (fun aa ww h => h.sub [] (sS rfl <| sN) (rN))
       ·
        refine lKn 31 rfl h16 <| lKn 32 rfl h16 <| lRun (gd rfl rfl rfl rfl) rfl rfl (faB 1 rfl rfl Tryz.underlying65 rfl (by exact ti63)) <| lRun (gd rfl rfl rfl rfl) rfl rfl (faB 1 rfl rfl Tryz.underlying63 rfl (by exact ti56)) <| lRun (gd rfl rfl rfl rfl) rfl rfl (ld 1 rfl rfl (((Foc.here).part (pt_api_Op_Sig _)).part (pt_api_Sig_S _)) ty56 rfl) <| callg [] [] (gd rfl rfl rfl rfl) rfl Tryz.func103 rfl rfl (braidref02_Exponent_ok _) (aQ rfl <| aN) rN fun r17 n18 => lRun (gd rfl rfl rfl rfl) rfl rfl (not' rfl) <| Zq (pkF rfl rfl) <| gNil <| eMid (fun aa ww h => h.sub [] (sS rfl <| sN) (rN))
   ·
    refine gIf rfl rfl (fun h19 => ?_) (fun h19 => ?_)
    ·
     refine gSR <| Za rfl <| Zn <| gRet <| eTret <| eRet [] [] rfl (eE rfl <| eN) (rN)
    ·
     refine Zt <| gSR <| Za rfl <| Zn <| gRet <| eRet [] [] rfl (eE rfl <| eN) (rN)
def braidref02_Raised (a0 : UInt32) (a1 : UInt64) : Option (UInt32) :=
 braidref02_Power a0.toUInt64 a1 1000000007 >>= fun r1 =>
 some r1.toUInt32
theorem braidref02_Raised_ok (a0 : UInt32) (a1 : UInt64) : Spec Tryz.prog 134 [.rd u32R a0, .rd u64R a1] [] (braidref02_Raised a0 a1) (fun r nv => ⟨[.rd u32R r], []⟩) := by
 refine spec 10 Tryz.func134 rfl rfl rfl fun H w => ?_
 refine gSR <| Za rfl <| Zn <| gSR <| Zm rfl <| Zq (W.toU rfl tu56 tu57) <| Zm rfl <| call [] [] rfl Tryz.func130 rfl rfl (braidref02_Power_ok _ _ _) (aQ rfl <| aQ rfl <| aQ rfl <| aN) rN fun r1 n2 => Zq (U.toW rfl tu57 tu56) <| Za rfl <| Zn <| gRet <| eRet [] [] rfl (eE rfl <| eN) (rN)
def braidref02_Inv (a0 : UInt32) : Option (UInt32 × Int) :=
 braidref02_Is a0 >>= fun r1 =>
 if !r1 then
  some (0, 2)
 else
  braidref02_Raised a0 500000002 >>= fun r4 =>
  some (r4, 0)
theorem braidref02_Inv_ok (a0 : UInt32) : Spec Tryz.prog 133 [.rd u32R a0] [] (braidref02_Inv a0) (fun r nv => ⟨[.rd u32R r.1, .rd i64R r.2], []⟩) := by
 refine spec 9 Tryz.func133 rfl rfl rfl fun H w => ?_
 refine gSR <| Za rfl <| Za rfl <| Zn <| gSeq <| gSR <| Zm rfl <| call [] [] rfl Tryz.func101 rfl rfl (braidref02_Is_ok _) (aQ rfl <| aN) rN fun r1 n2 => Zq (not' rfl) <| Zn <| gIf rfl rfl (fun h3 => ?_) (fun h3 => ?_)
 ·
  refine gSR <| Za rfl <| Za rfl <| Zn <| gRet <| eTret <| eRet [] [] rfl (eE rfl <| eE rfl <| eN) (rN)
 ·
  refine Zt <| gSR <| Zm rfl <| call [] [] rfl Tryz.func134 rfl rfl (braidref02_Raised_ok _ _) (aQ rfl <| aQ rfl <| aN) rN fun r4 n5 => Za rfl <| Za rfl <| Zn <| gRet <| eRet [] [] rfl (eE rfl <| eE rfl <| eN) (rN)
def braidref02_Base (a0 : UInt64) : Option (UInt32) :=
 braidref02_Raised 4 a0 >>= fun r1 =>
 some r1
theorem braidref02_Base_ok (a0 : UInt64) : Spec Tryz.prog 157 [.rd u64R a0] [] (braidref02_Base a0) (fun r nv => ⟨[.rd u32R r], []⟩) := by
 refine spec 5 Tryz.func157 rfl rfl rfl fun H w => ?_
 refine gSR <| Za rfl <| Zn <| gSR <| Zm rfl <| call [] [] rfl Tryz.func134 rfl rfl (braidref02_Raised_ok _ _) (aQ rfl <| aQ rfl <| aN) rN fun r1 n2 => Za rfl <| Zn <| gRet <| eRet [] [] rfl (eE rfl <| eN) (rN)
def braidref03_Key (a0 : UInt32) : Option (UInt32) :=
 braidref02_Base a0.toUInt64 >>= fun r1 =>
 some r1
theorem braidref03_Key_ok (a0 : UInt32) : Spec Tryz.prog 137 [.rd u32R a0] [] (braidref03_Key a0) (fun r nv => ⟨[.rd u32R r], []⟩) := by
 refine spec 6 Tryz.func137 rfl rfl rfl fun H w => ?_
 refine gSR <| Za rfl <| Zn <| gSR <| Zm rfl <| Zq (W.toU rfl tu56 tu57) <| call [] [] rfl Tryz.func157 rfl rfl (braidref02_Base_ok _) (aQ rfl <| aN) rN fun r1 n2 => Za rfl <| Zn <| gRet <| eRet [] [] rfl (eE rfl <| eN) (rN)
def braidref02_Product (a0 : UInt32) (a1 : UInt32) : Option (UInt32) :=
 some (((a0.toUInt64 * a1.toUInt64) % 1000000007).toUInt32) >>= fun y1 =>
 some y1
theorem braidref02_Product_ok (a0 : UInt32) (a1 : UInt32) : Spec Tryz.prog 136 [.rd u32R a0, .rd u32R a1] [] (braidref02_Product a0 a1) (fun r nv => ⟨[.rd u32R r], []⟩) := by
 refine spec 12 Tryz.func136 rfl rfl rfl fun H w => ?_
 refine gSR <| Za rfl <| Zn <| gSR <| Zm rfl <| Zq (W.toU rfl tu56 tu57) <| Zm rfl <| Zq (W.toU rfl tu56 tu57) <| Zq (U.mul rfl rfl) <| Zq (U.rem rfl rfl (by decide)) <| Zq (U.toW rfl tu57 tu56) <| Za rfl <| lName 4 rfl fun y1 => Zn <| gRet <| eRet [] [] rfl (eE rfl <| eN) (rN)
def braidref03_four (a0 : UInt32) : Option ((List UInt8)) :=
 some [(a0 / 16777216).toUInt8, ((a0 / 65536) % 256).toUInt8, ((a0 / 256) % 256).toUInt8, (a0 % 256).toUInt8]
theorem braidref03_four_ok (a0 : UInt32) : Spec Tryz.prog 155 [.rd u32R a0] [] (braidref03_four a0) (fun r nv => ⟨[.val (nv 0)], [(100, some (nv 0, .list u8R 5 r))]⟩) := by
 refine spec 18 Tryz.func155 rfl rfl rfl fun H w => ?_
 refine gSR <| Za rfl <| Zn <| gSR <| Zm rfl <| Zq (W.quo rfl rfl (by decide)) <| Zq (W.toB rfl tu56 tu5) <| Zm rfl <| Zq (W.quo rfl rfl (by decide)) <| Zq (W.rem rfl rfl (by decide)) <| Zq (W.toB rfl tu56 tu5) <| Zm rfl <| Zq (W.quo rfl rfl (by decide)) <| Zq (W.rem rfl rfl (by decide)) <| Zq (W.toB rfl tu56 tu5) <| Zm rfl <| Zq (W.rem rfl rfl (by decide)) <| Zq (W.toB rfl tu56 tu5) <| Ef rfl (lit (R := u8R) ([(a0 / 16777216).toUInt8, ((a0 / 65536) % 256).toUInt8, ((a0 / 256) % 256).toUInt8, (a0 % 256).toUInt8] : List UInt8) 1 (pP rfl rfl <| pP rfl rfl <| pP rfl rfl <| pP rfl rfl <| pN) rfl tu103 ti5 rfl rfl) fun v1 => Za rfl <| Zn <| gRet <| eRet [v1] [1] rfl (eE rfl <| eN) (Zi rfl <| rN)
def braidref03_number_L0 (r1 : (Vector UInt8 32)) (s5 : UInt64 × Int) : Option (Sum UInt64 (UInt64 × Int)) :=
 if decide (s5.2 < 8) then
  vidx r1 s5.2 >>= fun x7 =>
  some ((256 * s5.1) + x7.toUInt64) >>= fun y9 =>
  some (w64 (s5.2 + 1)) >>= fun y10 =>
  some (.inr (y9, y10))
 else
  some (.inl s5.1)
def braidref03_number (a0 : List UInt8) : Option (UInt64) :=
 braidref01_Of a0 >>= fun r1 =>
 (iter (braidref03_number_L0 r1) (0, 0)) >>= fun s4 =>
 some s4
theorem braidref03_number_ok (a0 : List UInt8) : Spec Tryz.prog 156 [.rd (sliceR u8R) a0] [] (braidref03_number a0) (fun r nv => ⟨[.rd u64R r], []⟩) := by
 refine spec 20 Tryz.func156 rfl rfl rfl fun H w => ?_
 refine gSR <| Za rfl <| Zn <| gSR <| Zm rfl <| call [] [] rfl Tryz.func74 rfl rfl (braidref01_Of_ok _) (aQ rfl <| aN) rN fun r1 n2 => Eb rfl (allc 1 ti27 (.zr (R := (arrR 32 u8R)) (x := (Vector.replicate 32 0)) zr26)) fun v3 => Es (sto 1 rfl rfl Foc.here rfl ti27) <| Zn <| gSR <| Za rfl <| Zn <| gMid (fun (s4 : UInt64) aa ww => Sta (ctx 20 H [] w) [(4, .rd u64R s4)] [] aa ww) ?_ (fun s4 => ?_)
 ·
  refine gSR <| Za rfl <| Zn <| gLoop (fun (s5 : UInt64 × Int) aa ww => Sta (ctx 20 H [] w) [(3, .val (ptrTo v3 0)), (4, .rd u64R s5.1), (5, .rd i64R s5.2)] [(1, some (v3, .box 27 [.rd (arrR 32 u8R) r1]))] aa ww) (fun aa ww h => h.sub [1] (sS rfl <| sS rfl <| sS rfl <| sN) (Zi rfl <| rN)) (fun s5 => ?_)
  refine gSeq <| gSR <| Zm rfl <| Zq (I.lss rfl rfl) <| Zn <| gIf rfl rfl (fun h6 => ?_) (fun h6 => ?_)
  ·
   refine Zt <| gSeq <| gBlk <| gReg <| Zm rfl <| Zq (U.mul rfl rfl) <| Zm rfl <| lBind fun x7 h8 => Zq (ixB 1 rfl rfl rfl h8 tu27 ti5) <| Zq (ld 1 rfl rfl ((Foc.here).part (.el h8)) ty5 rfl) <| Zq (B.toU rfl tu5 tu57) <| Zq (U.add rfl rfl) <| Za rfl <| lName 4 rfl fun y9 => gNil <| eBlk <| eThen <| gReg <| Zm rfl <| Zq (I.add rfl rfl) <| Za rfl <| lName 5 rfl fun y10 => gNil <| eNext (fun aa ww h => h.sub [1] (sS rfl <| sS rfl <| sS rfl <| sN) (Zi rfl <| rN))
  ·
   refine gExit <| eTexit <| eLeave <| eMid (fun aa ww h => h.sub [] (sS rfl <| sN) (rN))
 ·
  refine gSR <| Zm rfl <| Za rfl <| Zn <| gRet <| eRet [] [] rfl (eE rfl <| eN) (rN)
def braidref03_challenge (a0 : UInt32) (a1 : UInt32) (a2 : List UInt8) : Option (UInt32) :=
 braidref03_four a0 >>= fun r2 =>
 app 1 [99] r2 >>= fun x4 =>
 braidref03_four a1 >>= fun r7 =>
 app 1 x4 r7 >>= fun x9 =>
 app 1 x9 a2 >>= fun x12 =>
 braidref03_number x12 >>= fun r15 =>
 some ((r15 % 500000003).toUInt32) >>= fun y17 =>
 some y17
theorem braidref03_challenge_ok (a0 : UInt32) (a1 : UInt32) (a2 : List UInt8) : Spec Tryz.prog 135 [.rd u32R a0, .rd u32R a1, .rd (sliceR u8R) a2] [] (braidref03_challenge a0 a1 a2) (fun r nv => ⟨[.rd u32R r], []⟩) := by
 refine spec 21 Tryz.func135 rfl rfl rfl fun H w => ?_
 refine gSR <| Za rfl <| Zn <| gSR <| Ef rfl (lit (R := u8R) ([99] : List UInt8) 1 (pP rfl rfl <| pN) rfl tu103 ti5 rfl rfl) fun v1 => Zm rfl <| call [] [(100, 2)] rfl Tryz.func155 rfl rfl (braidref03_four_ok _) (aQ rfl <| aN) rN fun r2 n3 => lBind fun x4 h5 => Ef rfl (apn 1 rfl rfl rfl (.own 2 rfl) h5 tu103 ti5 rfl rfl rfl) fun v6 => Zm rfl <| call [] [(100, 3)] rfl Tryz.func155 rfl rfl (braidref03_four_ok _) (aQ rfl <| aN) rN fun r7 n8 => lBind fun x9 h10 => Ef rfl (apn 1 rfl rfl rfl (.own 3 rfl) h10 tu103 ti5 rfl rfl rfl) fun v11 => Za rfl <| Zn <| gSR <| Zm rfl <| Zm rfl <| lBind fun x12 h13 => Ef rfl (apn 1 rfl rfl rfl .rd h13 tu103 ti5 rfl rfl rfl) fun v14 => lFrz 1 [17] rfl (fS rfl <| fN) <| call [] [] rfl Tryz.func156 rfl rfl (braidref03_number_ok _) (aQ rfl <| aN) rN fun r15 n16 => Zq (U.rem rfl rfl (by decide)) <| Zq (U.toW rfl tu57 tu56) <| Za rfl <| lName 6 rfl fun y17 => Zn <| gRet <| eRet [] [] rfl (eE rfl <| eN) (rN)
def braidref03_Right (a0 : UInt32) (a1 : List UInt8) (a2 : api_Sig) : Option (Bool) :=
 braidref02_Exponent a2.E >>= fun r2 =>
 if !r2 then
  some false
 else
  braidref02_Exponent a2.S >>= fun r5 =>
  if !r5 then
   some false
  else
   braidref02_Raised a0 a2.E.toUInt64 >>= fun r8 =>
   braidref02_Inv r8 >>= fun r10 =>
   braidref03_Key a2.S >>= fun r12 =>
   braidref02_Product r12 r10.1 >>= fun r14 =>
   braidref03_challenge r14 a0 a1 >>= fun r16 =>
   some (r16 == a2.E)
theorem braidref03_Right_ok (a0 : UInt32) (a1 : List UInt8) (a2 : api_Sig) : Spec Tryz.prog 104 [.rd u32R a0, .rd (sliceR u8R) a1, .rd R_api_Sig a2] [] (braidref03_Right a0 a1 a2) (fun r nv => ⟨[.rd boolR r], []⟩) := by
 refine spec 39 Tryz.func104 rfl rfl rfl fun H w => ?_
 refine gSR <| Eb rfl (bx 1 rfl) fun v1 => Za rfl <| Zn <| gSeq <| gSR <| Zq (faB 1 rfl rfl Tryz.underlying63 rfl (by exact ti56)) <| Zq (ld 1 rfl rfl ((Foc.here).part (pt_api_Sig_E _)) ty56 rfl) <| call [] [] rfl Tryz.func103 rfl rfl (braidref02_Exponent_ok _) (aQ rfl <| aN) rN fun r2 n3 => Zq (not' rfl) <| Zm rfl <| lSplit 13 rfl (fun h4 => ?_) (fun h4 => ?_)
 ·
  refine lKn 12 rfl h4 <| Zk rfl <| Zk rfl <| Zk rfl <| Zk rfl <| Zq (pkT rfl rfl) <| Zn <| gTrue rfl <| gSR <| Za rfl <| Zn <| gRet <| eTret <| eRet [] [] rfl (eE rfl <| eN) (rN)
 ·
  refine lKn 12 rfl h4 <| lRun (gd rfl rfl rfl rfl) rfl rfl (faB 1 rfl rfl Tryz.underlying63 rfl (by exact ti56)) <| lRun (gd rfl rfl rfl rfl) rfl rfl (ld 1 rfl rfl ((Foc.here).part (pt_api_Sig_S _)) ty56 rfl) <| callg [] [] (gd rfl rfl rfl rfl) rfl Tryz.func103 rfl rfl (braidref02_Exponent_ok _) (aQ rfl <| aN) rN fun r5 n6 => lRun (gd rfl rfl rfl rfl) rfl rfl (not' rfl) <| Zq (pkF rfl rfl) <| Zn <| gIf rfl rfl (fun h7 => ?_) (fun h7 => ?_)
  ·
   refine gKn 17 rfl h7 <| gSR <| Za rfl <| Zn <| gRet <| eTret <| eRet [] [] rfl (eE rfl <| eN) (rN)
  ·
   refine gKn 17 rfl h7 <| Zt <| gSR <| Zm rfl <| Zq (faB 1 rfl rfl Tryz.underlying63 rfl (by exact ti56)) <| Zq (ld 1 rfl rfl ((Foc.here).part (pt_api_Sig_E _)) ty56 rfl) <| Zq (W.toU rfl tu56 tu57) <| call [] [] rfl Tryz.func134 rfl rfl (braidref02_Raised_ok _ _) (aQ rfl <| aQ rfl <| aN) rN fun r8 n9 => call [] [] rfl Tryz.func133 rfl rfl (braidref02_Inv_ok _) (aQ rfl <| aN) rN fun r10 n11 => Zm rfl <| Zq (ext rfl rfl) <| Zq (ext rfl rfl) <| Za rfl <| Za rfl <| Zn <| gSeq <| gRegH [] mixed rfl rfl <| hTk 0 rfl rfl (faB 1 rfl rfl Tryz.underlying63 rfl (by exact ti56)) <| hTk 1 rfl rfl (ld 1 rfl rfl ((Foc.here).part (pt_api_Sig_S _)) ty56 rfl) <| hTk 3 rfl rfl (mv rfl) <| hTk 5 rfl rfl (mv rfl) <| hTk 6 rfl rfl (mv rfl) <| hTk 8 rfl rfl (faB 1 rfl rfl Tryz.underlying63 rfl (by exact ti56)) <| hTk 9 rfl rfl (ld 1 rfl rfl ((Foc.here).part (pt_api_Sig_E _)) ty56 rfl) <| hCallF 2 [] [] rfl (by kernel_rfl) rfl (gd0 rfl) rfl Tryz.func137 rfl rfl (braidref03_Key_ok _) (aQ rfl <| aN) rN rfl (fun _ _ => flat_num) fun r12 n13 => hCallF 4 [] [] rfl (by kernel_rfl) rfl (gd0 rfl) rfl Tryz.func136 rfl rfl (braidref02_Product_ok _ _) (aQ rfl <| aQ rfl <| aN) rN rfl (fun _ _ => flat_num) fun r14 n15 => hCallF 7 [] [] rfl (by kernel_rfl) rfl (gd0 rfl) rfl Tryz.func135 rfl rfl (braidref03_challenge_ok _ _ _) (aQ rfl <| aQ rfl <| aQ rfl <| aN) rN rfl (fun _ _ => flat_num) fun r16 n17 => hTk 10 rfl rfl (W.eql rfl rfl) <| hTk 11 rfl rfl (asg rfl) <| hDone (by kernel_rfl) <| eThen <| gRet <| eRet [] [] rfl (eE rfl <| eN) (rN)
def braidref06_Signed (a0 : api_Op) : Option (Bool) :=
 braidref06_text a0 >>= fun r2 =>
 braidref03_Right a0.Author r2 a0.Sig >>= fun r4 =>
 some r4
theorem braidref06_Signed_ok (a0 : api_Op) : Spec Tryz.prog 73 [.rd R_api_Op a0] [] (braidref06_Signed a0) (fun r nv => ⟨[.rd boolR r], []⟩) := by
 refine spec 10 Tryz.func73 rfl rfl rfl fun H w => ?_
 refine gSR <| Eb rfl (bx 1 rfl) fun v1 => Za rfl <| Zn <| gSeq <| gRegH [11] mixed rfl rfl <| hTk 0 rfl rfl (faB 1 rfl rfl Tryz.underlying65 rfl (by exact ti56)) <| hTk 1 rfl rfl (ld 1 rfl rfl ((Foc.here).part (pt_api_Op_Author _)) ty56 rfl) <| hTk 2 rfl rfl (ld 1 rfl rfl Foc.here ty65 rfl) <| hTk 4 rfl rfl (faB 1 rfl rfl Tryz.underlying65 rfl (by exact ti63)) <| hTk 5 rfl rfl (ld 1 rfl rfl ((Foc.here).part (pt_api_Op_Sig _)) ty63 rfl) <| hCallF 3 [] [(100, 11)] rfl (by kernel_rfl) rfl (gd0 rfl) rfl Tryz.func105 rfl rfl (braidref06_text_ok _) (aQ rfl <| aN) rN rfl (fun _ _ => flat_val) fun r2 n3 => hFrz 11 [6] rfl (fS rfl <| fN) <| hCallF 6 [] [] rfl (by kernel_rfl) rfl (gd0 rfl) rfl Tryz.func104 rfl rfl (braidref03_Right_ok _ _ _) (aQ rfl <| aQ rfl <| aQ rfl <| aN) rN rfl (fun _ _ => flat_bool) fun r4 n5 => hTk 7 rfl rfl (asg rfl) <| hDone (by kernel_rfl) <| eThen <| gRet <| eRet [] [] rfl (eE rfl <| eN) (rN)
def braidref06_Verify (a0 : api_Op) : Option (Int) :=
 braidref06_Check a0 >>= fun r2 =>
 if r2 != 0 then
  braidref06_Check a0 >>= fun r5 =>
  some r5
 else
  braidref06_Signed a0 >>= fun r7 =>
  if !r7 then
   some 22
  else
   some 0
theorem braidref06_Verify_ok (a0 : api_Op) : Spec Tryz.prog 57 [.rd R_api_Op a0] [] (braidref06_Verify a0) (fun r nv => ⟨[.rd i64R r], []⟩) := by
 refine spec 11 Tryz.func57 rfl rfl rfl fun H w => ?_
 refine gSR <| Eb rfl (bx 1 rfl) fun v1 => Za rfl <| Zn <| gSeq <| gSR <| Zq (ld 1 rfl rfl Foc.here ty65 rfl) <| call [] [] rfl Tryz.func72 rfl rfl (braidref06_Check_ok _) (aQ rfl <| aN) rN fun r2 n3 => Zq (I.neq rfl rfl) <| Zn <| gIf rfl rfl (fun h4 => ?_) (fun h4 => ?_)
 ·
  refine gSR <| Zq (ld 1 rfl rfl Foc.here ty65 rfl) <| call [] [] rfl Tryz.func72 rfl rfl (braidref06_Check_ok _) (aQ rfl <| aN) rN fun r5 n6 => Za rfl <| Zn <| gRet <| eTret <| eRet [] [] rfl (eE rfl <| eN) (rN)
 ·
  refine Zt <| gSeq <| gSR <| Zq (ld 1 rfl rfl Foc.here ty65 rfl) <| call [] [] rfl Tryz.func73 rfl rfl (braidref06_Signed_ok _) (aQ rfl <| aN) rN fun r7 n8 => Zq (not' rfl) <| Zn <| gIf rfl rfl (fun h9 => ?_) (fun h9 => ?_)
  ·
   refine gSR <| Za rfl <| Zn <| gRet <| eTret <| eRet [] [] rfl (eE rfl <| eN) (rN)
  ·
   refine Zt <| gSR <| Za rfl <| Zn <| gRet <| eRet [] [] rfl (eE rfl <| eN) (rN)
end
section
open Go Go.RowKit
set_option maxRecDepth 100000
def slices_BinarySearchFunc_api_ID_api_ID_api_ID_digest_Cmp_L0 (a0 : List (Vector UInt8 32)) (a1 : Vector UInt8 32) (s4 : Int × Int) : Option (Sum Int (Int × Int)) :=
 if decide (s4.1 < s4.2) then
  some (w64 ((shr64 (UInt64.ofInt (w64 (s4.1 + s4.2))) 1).toNat : Int)) >>= fun y6 =>
  idx a0 y6 >>= fun x7 =>
  digest_Cmp x7 a1 >>= fun r9 =>
  if decide (r9 < 0) then
   some (.inr (w64 (y6 + 1), s4.2))
  else
   some (.inr (s4.1, y6))
 else
  some (.inl s4.1)
def slices_BinarySearchFunc_api_ID_api_ID_api_ID_digest_Cmp (a0 : List (Vector UInt8 32)) (a1 : Vector UInt8 32) : Option (Int × Bool) :=
 some (a0.length : Int) >>= fun y2 =>
 (iter (slices_BinarySearchFunc_api_ID_api_ID_api_ID_digest_Cmp_L0 a0 a1) (0, y2)) >>= fun s3 =>
 if decide (s3 < y2) then
  idx a0 s3 >>= fun x13 =>
  digest_Cmp x13 a1 >>= fun r15 =>
  some (s3, r15 == 0)
 else
  some (s3, false)
theorem slices_BinarySearchFunc_api_ID_api_ID_api_ID_digest_Cmp_ok (a0 : List (Vector UInt8 32)) (a1 : Vector UInt8 32) : Spec Tryz.prog 50 [.rd (sliceR (arrR 32 u8R)) a0, .rd (arrR 32 u8R) a1, .val (.func (.func 41) #[] #[])] [] (slices_BinarySearchFunc_api_ID_api_ID_api_ID_digest_Cmp a0 a1) (fun r nv => ⟨[.rd i64R r.1, .rd boolR r.2], []⟩) := by
 refine spec 49 Tryz.func50 rfl rfl rfl fun H w => ?_
 refine gSR <| Eb rfl (bx 1 rfl) fun v1 => Za rfl <| Za rfl <| Zn <| gSR <| Zm rfl <| Zq (len' rfl .rd rfl tu22) <| Za rfl <| lName 8 rfl fun y2 => Zn <| gSR <| Zm rfl <| Za rfl <| Za rfl <| Zn <| gMid (fun (s3 : Int) aa ww => Sta (ctx 49 H [] w) [(0, .rd (sliceR (arrR 32 u8R)) a0), (2, .val (.func (.func 41) #[] #[])), (4, .val (ptrTo v1 0)), (8, .rd i64R y2), (9, .rd i64R s3)] [(1, some (v1, .box 27 [.rd (arrR 32 u8R) a1]))] aa ww) ?_ (fun s3 => ?_)
 ·
  refine gLoop (fun (s4 : Int × Int) aa ww => Sta (ctx 49 H [] w) [(0, .rd (sliceR (arrR 32 u8R)) a0), (2, .val (.func (.func 41) #[] #[])), (4, .val (ptrTo v1 0)), (8, .rd i64R y2), (9, .rd i64R s4.1), (10, .rd i64R s4.2)] [(1, some (v1, .box 27 [.rd (arrR 32 u8R) a1]))] aa ww) (fun aa ww h => h.sub [1] (Zs rfl rfl rfl rfl <| sS rfl <| sS rfl <| sN) (Zi rfl <| rN)) (fun s4 => ?_)
  refine gSeq <| gSR <| Zm rfl <| Zm rfl <| Zq (I.lss rfl rfl) <| Zn <| gIf rfl rfl (fun h5 => ?_) (fun h5 => ?_)
  ·
   refine Zt <| gBlk <| gSR <| Zm rfl <| Zm rfl <| Zq (I.add rfl rfl) <| Zq (I.toU rfl tu3 Tryz.underlying101) <| Zq (U.shr rfl rfl (Int.natCast_nonneg _)) <| Zq (U.toI rfl Tryz.underlying101 tu3) <| Za rfl <| lName 11 rfl fun y6 => Zn <| gSeq <| gRegH [] mixed rfl rfl <| hTk 0 rfl rfl (mv rfl) <| hTk 1 rfl rfl (mv rfl) <| hTk 2 rfl rfl (mv rfl) <| hBind fun x7 h8 => hTk 3 rfl rfl (ixR rfl rfl h8 tu22 ti27 rfl) <| hTk 4 rfl rfl (ldR rfl ty27) <| hTk 5 rfl rfl (ld 1 rfl rfl Foc.here ty27 rfl) <| hCallVF 6 [] [] rfl (by kernel_rfl) rfl (gd0 rfl) rfl Tryz.func41 rfl rfl rfl (digest_Cmp_ok _ _) (aQ rfl <| aQ rfl <| aN) (cN) rfl rN rfl (fun _ _ => flat_num) fun r9 n10 => hTk 7 rfl rfl (I.lss rfl rfl) <| hDone (by kernel_rfl) <| eThen <| gIf rfl rfl (fun h11 => ?_) (fun h11 => ?_)
   ·
    refine gReg <| Zm rfl <| Zq (I.add rfl rfl) <| Za rfl <| gNil <| eBlk <| eNext (fun aa ww h => h.sub [1] (Zs rfl rfl rfl rfl <| sS rfl <| sS rfl <| sN) (Zi rfl <| rN))
   ·
    refine gReg <| Zm rfl <| Za rfl <| gNil <| eBlk <| eNext (fun aa ww h => h.sub [1] (Zs rfl rfl rfl rfl <| sS rfl <| sS rfl <| sN) (Zi rfl <| rN))
  ·
   refine gExit <| eTexit <| eLeave <| eMid (fun aa ww h => h.sub [1] (Zs rfl rfl rfl rfl <| sS rfl <| sN) (Zi rfl <| rN))
 ·
  refine gSeq <| gRegH [] mixed rfl rfl <| hTk 0 rfl rfl (mv rfl) <| hTk 1 rfl rfl (mv rfl) <| hTk 2 rfl rfl (mv rfl) <| hTk 3 rfl rfl (I.lss rfl rfl) <| hTk 4 rfl rfl (mv rfl) <| hIf 39 rfl rfl (fun h12 => ?_) (fun h12 => ?_)
  ·
   refine hKn 38 rfl rfl h12 <| hTake 5 rfl (by kernel_rfl) (by kernel_rfl) (by kernel_rfl) (gd rfl rfl rfl rfl) rfl rfl (mv rfl) <| hTake 6 rfl (by kernel_rfl) (by kernel_rfl) (by kernel_rfl) (gd rfl rfl rfl rfl) rfl rfl (mv rfl) <| hTake 7 rfl (by kernel_rfl) (by kernel_rfl) (by kernel_rfl) (gd rfl rfl rfl rfl) rfl rfl (mv rfl) <| hBind fun x13 h14 => hTake 8 rfl (by kernel_rfl) (by kernel_rfl) (by kernel_rfl) (gd rfl rfl rfl rfl) rfl rfl (ixR rfl rfl h14 tu22 ti27 rfl) <| hTake 9 rfl (by kernel_rfl) (by kernel_rfl) (by kernel_rfl) (gd rfl rfl rfl rfl) rfl rfl (ldR rfl ty27) <| hTake 10 rfl (by kernel_rfl) (by kernel_rfl) (by kernel_rfl) (gd rfl rfl rfl rfl) rfl rfl (ld 1 rfl rfl Foc.here ty27 rfl) <| hCallVF 11 [] [] rfl (by kernel_rfl) rfl (gd rfl rfl rfl rfl) rfl Tryz.func41 rfl rfl rfl (digest_Cmp_ok _ _) (aQ rfl <| aQ rfl <| aN) (cN) rfl rN rfl (fun _ _ => flat_num) fun r15 n16 => hTake 12 rfl (by kernel_rfl) (by kernel_rfl) (by kernel_rfl) (gd rfl rfl rfl rfl) rfl rfl (I.eql rfl rfl) <| hTk 13 rfl rfl (pkT rfl rfl) <| hTk 14 rfl rfl (asg rfl) <| hTk 15 rfl rfl (asg rfl) <| hDone (by kernel_rfl) <| eThen <| gRet <| eRet [] [] rfl (eE rfl <| eE rfl <| eN) (rN)
  ·
   refine hKn 38 rfl rfl h12 <| hSk 5 rfl rfl <| hSk 6 rfl rfl <| hSk 7 rfl rfl <| hSk 8 rfl rfl <| hSk 9 rfl rfl <| hSk 10 rfl rfl <| hSk 11 rfl rfl <| hSk 12 rfl rfl <| hTk 13 rfl rfl (pkF rfl rfl) <| hTk 14 rfl rfl (asg rfl) <| hTk 15 rfl rfl (asg rfl) <| hDone (by kernel_rfl) <| eThen <| gRet <| eRet [] [] rfl (eE rfl <| eE rfl <| eN) (rN)
def dag_find (a0 : api_Graph) (a1 : Vector UInt8 32) : Option (Int × Bool) :=
 slices_BinarySearchFunc_api_ID_api_ID_api_ID_digest_Cmp a0.IDs a1 >>= fun r3 =>
 some (r3.1, r3.2)
theorem dag_find_ok (a0 : api_Graph) (a1 : Vector UInt8 32) : Spec Tryz.prog 71 [.rd R_api_Graph a0, .rd (arrR 32 u8R) a1] [] (dag_find a0 a1) (fun r nv => ⟨[.rd i64R r.1, .rd boolR r.2], []⟩) := by
 refine spec 12 Tryz.func71 rfl rfl rfl fun H w => ?_
 refine gSR <| Eb rfl (bx 1 rfl) fun v1 => Eb rfl (bx 2 rfl) fun v2 => Za rfl <| Za rfl <| Zn <| gSR <| Zq (faB 1 rfl rfl Tryz.underlying25 rfl (by exact ti22)) <| Zq (ld 1 rfl rfl ((Foc.here).part (pt_api_Graph_IDs _)) ty22 rfl) <| Zq (ld 2 rfl rfl Foc.here ty27 rfl) <| call [] [] rfl Tryz.func50 rfl rfl (slices_BinarySearchFunc_api_ID_api_ID_api_ID_digest_Cmp_ok _ _) (aQ rfl <| aQ rfl <| aQ rfl <| aN) rN fun r3 n4 => Zq (ext rfl rfl) <| Zq (ext rfl rfl) <| Za rfl <| Za rfl <| Zn <| gRet <| eRet [] [] rfl (eE rfl <| eE rfl <| eN) (rN)
def dag_shape_L0 (a0 : api_Graph) (s3 : Int) : Option (Sum (Sum Int Unit) Int) :=
 if decide (s3 < (a0.IDs.length : Int)) then
  idx a0.IDs (w64 (s3 - 1)) >>= fun x5 =>
  idx a0.IDs s3 >>= fun x7 =>
  digest_Cmp x5 x7 >>= fun r9 =>
  if decide (0 ≤ r9) then
   some (.inl (.inl 32))
  else
   some (.inr (w64 (s3 + 1)))
 else
  some (.inl (.inr ()))
def dag_shape_L4 (a0 : api_Graph) (s19 : (List Int) × (List (List Int)) × (List Int) × Int) (x22 : api_Op) (s26 : (List (List Int)) × Int) : Option (Sum (Sum (Sum (Sum Int ((List Int) × (List (List Int)) × (List Int))) ((List Int) × (List (List Int)) × (List Int) × Int)) ((List (List Int)))) ((List (List Int)) × Int)) :=
 if decide (s26.2 < (x22.Preds.length : Int)) then
  idx x22.Preds s26.2 >>= fun x29 =>
  dag_find a0 x29 >>= fun r32 =>
  if !r32.2 then
   some (.inl (.inl (.inl (.inl 40))))
  else
   idx s26.1 r32.1 >>= fun x35 =>
   app 8 x35 [s19.2.2.2] >>= fun x38 =>
   some (.inr (s26.1.set (r32.1 : Int).toNat x38, w64 (s26.2 + 1)))
 else
  some (.inl (.inr s26.1))
def dag_shape_L2 (a0 : api_Graph) (s19 : (List Int) × (List (List Int)) × (List Int) × Int) : Option (Sum (Sum Int ((List Int) × (List (List Int)) × (List Int))) ((List Int) × (List (List Int)) × (List Int) × Int)) :=
 if decide (s19.2.2.2 < (a0.Ops.length : Int)) then
  idx a0.Ops s19.2.2.2 >>= fun x22 =>
  orRet (iter (dag_shape_L4 a0 s19 x22) (s19.2.1, 0)) fun s25 =>
  idx s19.1 s19.2.2.2 >>= fun x42 =>
  idx (s19.1.set (s19.2.2.2 : Int).toNat (x22.Preds.length : Int)) s19.2.2.2 >>= fun x44 =>
  if x44 == 0 then
   app 8 s19.2.2.1 [s19.2.2.2] >>= fun x48 =>
   some (.inr (s19.1.set (s19.2.2.2 : Int).toNat (x22.Preds.length : Int), s25, x48, w64 (s19.2.2.2 + 1)))
  else
   some (.inr (s19.1.set (s19.2.2.2 : Int).toNat (x22.Preds.length : Int), s25, s19.2.2.1, w64 (s19.2.2.2 + 1)))
 else
  some (.inl (.inr (s19.1, s19.2.1, s19.2.2.1)))
def dag_shape_L8 (x59 : List Int) (s61 : (List Int) × (List Int) × Int) : Option (Sum ((List Int) × (List Int)) ((List Int) × (List Int) × Int)) :=
 if decide (s61.2.2 < (x59.length : Int)) then
  idx x59 s61.2.2 >>= fun x64 =>
  idx s61.1 x64 >>= fun x66 =>
  idx s61.1 x64 >>= fun x68 =>
  idx (s61.1.set (x64 : Int).toNat (w64 (x66 - 1))) x64 >>= fun x70 =>
  if x70 == 0 then
   app 8 s61.2.1 [x64] >>= fun x74 =>
   some (.inr (s61.1.set (x64 : Int).toNat (w64 (x66 - 1)), x74, w64 (s61.2.2 + 1)))
  else
   some (.inr (s61.1.set (x64 : Int).toNat (w64 (x66 - 1)), s61.2.1, w64 (s61.2.2 + 1)))
 else
  some (.inl (s61.1, s61.2.1))
def dag_shape_L6 (s18 : (List Int) × (List (List Int)) × (List Int)) (s53 : (List Int) × (List Int) × Int) : Option (Sum Int ((List Int) × (List Int) × Int)) :=
 if decide (s53.2.2 < (s53.2.1.length : Int)) then
  (idx s53.2.1 s53.2.2 >>= fun x57 =>
  idx s18.2.1 x57 >>= fun x59 =>
  iter (dag_shape_L8 x59) (s53.1, s53.2.1, 0)) >>= fun s56 =>
  some (w64 (s53.2.2 + 1)) >>= fun y78 =>
  some (.inr (s56.1, s56.2, y78))
 else
  some (.inl s53.2.2)
def dag_shape (a0 : api_Graph) : Option (Int) :=
 orRet (iter (dag_shape_L0 a0) 1) fun s2 =>
 mkn 8 0 (a0.Ops.length : Int) >>= fun x12 =>
 mkn 24 ([] : List Int) (a0.Ops.length : Int) >>= fun x15 =>
 orRet (iter (dag_shape_L2 a0) (x12, x15, [], 0)) fun s18 =>
 (iter (dag_shape_L6 s18) (s18.1, s18.2.2, 0)) >>= fun s52 =>
 if decide (s52 < (a0.Ops.length : Int)) then
  some 36
 else
  some 0
theorem dag_shape_ok (a0 : api_Graph) : Spec Tryz.prog 56 [.rd R_api_Graph a0] [] (dag_shape a0) (fun r nv => ⟨[.rd i64R r], []⟩) := by
 refine spec 133 Tryz.func56 rfl rfl rfl fun H w => ?_
 refine gSR <| Eb rfl (bx 1 rfl) fun v1 => Za rfl <| Zn <| gMidR (fun (s2 : Unit) aa ww => Sta (ctx 133 H [] w) [(1, .val (ptrTo v1 0))] [(1, some (v1, .box 25 [.rd R_api_Graph a0]))] aa ww) ?_ (fun s2 => ?_)
 ·
  refine gSR <| Za rfl <| Zn <| gLoop (fun (s3 : Int) aa ww => Sta (ctx 133 H [] w) [(1, .val (ptrTo v1 0)), (3, .rd i64R s3)] [(1, some (v1, .box 25 [.rd R_api_Graph a0]))] aa ww) (fun aa ww h => h.sub [1] (sS rfl <| sS rfl <| sN) (Zi rfl <| rN)) (fun s3 => ?_)
  refine gSeq <| gSR <| Zm rfl <| Zq (faB 1 rfl rfl Tryz.underlying25 rfl (by exact ti22)) <| Zq (ld 1 rfl rfl ((Foc.here).part (pt_api_Graph_IDs _)) ty22 rfl) <| Zq (len' rfl .rd rfl tu22) <| Zq (I.lss rfl rfl) <| Zn <| gIf rfl rfl (fun h4 => ?_) (fun h4 => ?_)
  ·
   refine Zt <| gSeq <| gBlk <| gSeq <| gRegH [] mixed rfl rfl <| hTk 0 rfl rfl (faB 1 rfl rfl Tryz.underlying25 rfl (by exact ti22)) <| hTk 1 rfl rfl (ld 1 rfl rfl ((Foc.here).part (pt_api_Graph_IDs _)) ty22 rfl) <| hTk 2 rfl rfl (mv rfl) <| hTk 3 rfl rfl (I.sub rfl rfl) <| hBind fun x5 h6 => hTk 4 rfl rfl (ixR rfl rfl h6 tu22 ti27 rfl) <| hTk 5 rfl rfl (ldR rfl ty27) <| hTk 6 rfl rfl (faB 1 rfl rfl Tryz.underlying25 rfl (by exact ti22)) <| hTk 7 rfl rfl (ld 1 rfl rfl ((Foc.here).part (pt_api_Graph_IDs _)) ty22 rfl) <| hTk 8 rfl rfl (mv rfl) <| hBind fun x7 h8 => hTk 9 rfl rfl (ixR rfl rfl h8 tu22 ti27 rfl) <| hTk 10 rfl rfl (ldR rfl ty27) <| hCallF 11 [] [] rfl (by kernel_rfl) rfl (gd0 rfl) rfl Tryz.func41 rfl rfl (digest_Cmp_ok _ _) (aQ rfl <| aQ rfl <| aN) rN rfl (fun _ _ => flat_num) fun r9 n10 => hTk 12 rfl rfl (I.geq rfl rfl) <| hDone (by kernel_rfl) <| eThen <| gIf rfl rfl (fun h11 => ?_) (fun h11 => ?_)
   ·
    refine gSR <| Za rfl <| Zn <| gRet <| eBret <| eTret <| eLret <| eMret <| eRet [] [] rfl (eE rfl <| eN) (rN)
   ·
    refine gSkip <| eBlk <| eThen <| gReg <| Zm rfl <| Zq (I.add rfl rfl) <| Za rfl <| gNil <| eNext (fun aa ww h => h.sub [1] (sS rfl <| sS rfl <| sN) (Zi rfl <| rN))
  ·
   refine gExit <| eTexit <| eLeave <| eMidR (fun aa ww h => h.sub [1] (sS rfl <| sN) (Zi rfl <| rN))
 ·
  refine gSR <| Zq (faB 1 rfl rfl Tryz.underlying25 rfl (by exact ti23)) <| Zq (ld 1 rfl rfl ((Foc.here).part (pt_api_Graph_Ops _)) ty23 rfl) <| Zq (len' rfl .rd rfl tu23) <| lBind fun x12 h13 => Ef rfl (mks (R := i64R) 44 rfl rfl h13 tu78 ti3 (Zr.num rfl) rfl) fun v14 => Za rfl <| Zn <| gSR <| Zq (faB 1 rfl rfl Tryz.underlying25 rfl (by exact ti23)) <| Zq (ld 1 rfl rfl ((Foc.here).part (pt_api_Graph_Ops _)) ty23 rfl) <| Zq (len' rfl .rd rfl tu23) <| lBind fun x15 h16 => Ef rfl (mksF 45 rfl rfl h16 Tryz.underlying109 ti78 rfl) fun v17 => lNewF (base := 100000) (lits := [(1, some (v1, .box 25 [.rd R_api_Graph a0])), (44, some (v14, .list i64R 3 x12)), (45, some (v17, .list rawR 78 (fvals (fun _ => Value.slice none 0 0) x15)))]) i64R 3 [1, 44, 45] (mkn_nil h16) (Zi rfl <| Zi rfl <| Zi rfl <| rN) <| Za rfl <| Zn <| gSR <| Za rfl <| Zn <| gMidR (fun (s18 : (List Int) × (List (List Int)) × (List Int)) aa ww => ∃ nv : Nat → Value, Sta (ctx 133 H [] w) [(1, .val (ptrTo v1 0)), (4, .val v14), (5, .val v17), (6, .val (nv 0))] ([(1, some (v1, .box 25 [.rd R_api_Graph a0])), (44, some (v14, .list i64R 3 s18.1)), (45, some (v17, .list rawR 78 (fvals (fun j => nv (j + 1)) s18.2.1))), (50, some ((nv 0), .list i64R 3 s18.2.2))] ++ famR 100000 i64R 3 (fun j => nv (j + 1)) s18.2.1 0) aa ww) ?_ (fun s18 => ?_)
  ·
   refine gSR <| Zq (faB 1 rfl rfl Tryz.underlying25 rfl (by exact ti23)) <| Zq (ld 1 rfl rfl ((Foc.here).part (pt_api_Graph_Ops _)) ty23 rfl) <| Zq (len' rfl .rd rfl tu23) <| Zm rfl <| Zn <| gNew i64R 3 56 <| gLoop (fun (s19 : (List Int) × (List (List Int)) × (List Int) × Int) aa ww => ∃ nv : Nat → Value, Sta (ctx 133 H [] w) [(1, .val (ptrTo v1 0)), (4, .val v14), (5, .val v17), (6, .val (nv 0)), (45, .rd (sliceR R_api_Op) a0.Ops), (46, .rd i64R (a0.Ops.length : Int)), (47, .rd i64R s19.2.2.2)] ([(1, some (v1, .box 25 [.rd R_api_Graph a0])), (44, some (v14, .list i64R 3 s19.1)), (45, some (v17, .list rawR 78 (fvals (fun j => nv (j + 1)) s19.2.1))), (55, some ((nv 0), .list i64R 3 s19.2.2.1))] ++ famR 100000 i64R 3 (fun j => nv (j + 1)) s19.2.1 0) aa ww) (fun aa ww h => ⟨nvlF [(.slice none 0 0)] (fun _ => Value.slice none 0 0), h.subF (by repeat (first | refine HasFam.cons rfl ?_ | exact HasFam.tail)) [1, 44, 45, 56] (Zs rfl rfl rfl rfl <| sS rfl <| sS rfl <| sS rfl <| sN) (Zi rfl <| Zi rfl <| Zi rfl <| Zi rfl <| rN) rfl⟩) (fun s19 => ?_)
   refine gEx fun n20 => gSR <| Zq (I.lss rfl rfl) <| Zn <| gSeq <| gIf rfl rfl (fun h21 => ?_) (fun h21 => ?_)
   ·
    refine Zt <| gSeq <| gBlk <| gSR <| Zm rfl <| lBind fun x22 h23 => Zq (ixR rfl rfl h23 tu23 ti65 rfl) <| Zq (ldR rfl ty65) <| Eb rfl (allc 57 ti65 (ZrE.rd (R := u32R) (x := 0) (Zr.num rfl) (ZrE.nilS (ZrE.rd (R := u64R) (x := 0) (Zr.num rfl) (ZrE.rd (R := R_api_Act) (x := (⟨0, [], (⟨0, 0, 0, []⟩ : api_Value)⟩ : api_Act)) zr61 (ZrE.rd (R := R_api_Sig) (x := (⟨0, 0⟩ : api_Sig)) zr63 ZrE.nil rfl) rfl) rfl)) rfl)) fun v24 => Za rfl <| lPnl (arrR 32 u8R) [.rd u32R 0, .rd (sliceR (arrR 32 u8R)) [], .rd u64R 0, .rd R_api_Act (⟨0, [], (⟨0, 0, 0, []⟩ : api_Value)⟩ : api_Act), .rd R_api_Sig (⟨0, 0⟩ : api_Sig)] 57 [.rd u32R 0] [.rd u64R 0, .rd R_api_Act (⟨0, [], (⟨0, 0, 0, []⟩ : api_Value)⟩ : api_Act), .rd R_api_Sig (⟨0, 0⟩ : api_Sig)] rfl rfl rfl <| lJoi (R := R_api_Op) (⟨0, [], 0, (⟨0, [], (⟨0, 0, 0, []⟩ : api_Value)⟩ : api_Act), (⟨0, 0⟩ : api_Sig)⟩ : api_Op) 57 rfl (Sp.via (Sp.prod (Sp.prod (Sp.prod (Sp.prod (Sp.prod Sp.unit)))))) <| Es (sto 57 rfl rfl Foc.here rfl ti65) <| Zn <| gMidR (fun (s25 : (List (List Int))) aa ww => ∃ nv : Nat → Value, Sta (ctx 133 H [] w) [(1, .val (ptrTo v1 0)), (4, .val v14), (5, .val v17), (6, .val (n20 0)), (7, .rd i64R s19.2.2.2), (8, .val (ptrTo v24 0)), (45, .rd (sliceR R_api_Op) a0.Ops), (46, .rd i64R (a0.Ops.length : Int)), (47, .rd i64R s19.2.2.2)] ([(1, some (v1, .box 25 [.rd R_api_Graph a0])), (44, some (v14, .list i64R 3 s19.1)), (45, some (v17, .list rawR 78 (fvals (fun j => nv (j + 0)) s25))), (55, some ((n20 0), .list i64R 3 s19.2.2.1)), (57, some (v24, .box 65 [.rd R_api_Op x22]))] ++ famR 100000 i64R 3 (fun j => nv (j + 0)) s25 0) aa ww) ?_ (fun s25 => ?_)
    ·
     refine gSR <| Zq (faB 57 rfl rfl Tryz.underlying65 rfl (by exact ti22)) <| Zq (ld 57 rfl rfl ((Foc.here).part (pt_api_Op_Preds _)) ty22 rfl) <| Zq (len' rfl .rd rfl tu22) <| Zm rfl <| Zn <| gLoop (fun (s26 : (List (List Int)) × Int) aa ww => ∃ nv : Nat → Value, Sta (ctx 133 H [] w) [(1, .val (ptrTo v1 0)), (4, .val v14), (5, .val v17), (6, .val (n20 0)), (7, .rd i64R s19.2.2.2), (8, .val (ptrTo v24 0)), (45, .rd (sliceR R_api_Op) a0.Ops), (46, .rd i64R (a0.Ops.length : Int)), (47, .rd i64R s19.2.2.2), (53, .rd (sliceR (arrR 32 u8R)) x22.Preds), (54, .rd i64R (x22.Preds.length : Int)), (55, .rd i64R s26.2)] ([(1, some (v1, .box 25 [.rd R_api_Graph a0])), (44, some (v14, .list i64R 3 s19.1)), (45, some (v17, .list rawR 78 (fvals (fun j => nv (j + 0)) s26.1))), (55, some ((n20 0), .list i64R 3 s19.2.2.1)), (57, some (v24, .box 65 [.rd R_api_Op x22]))] ++ famR 100000 i64R 3 (fun j => nv (j + 0)) s26.1 0) aa ww) (fun aa ww h => ⟨nvlF [] (fun j => n20 (j + 1)), h.subF (by repeat (first | refine HasFam.cons rfl ?_ | exact HasFam.tail)) [1, 44, 45, 55, 57] (Zs rfl rfl rfl rfl <| Zs rfl rfl rfl rfl <| Zs rfl rfl rfl rfl <| sN) (Zi rfl <| Zi rfl <| Zi rfl <| Zi rfl <| Zi rfl <| rN) rfl⟩) (fun s26 => ?_)
     refine gEx fun n27 => gSR <| Zq (I.lss rfl rfl) <| Zn <| gSeq <| gIf rfl rfl (fun h28 => ?_) (fun h28 => ?_)
     ·
      refine Zt <| gSeq <| gBlk <| gSR <| lBind fun x29 h30 => Zq (ixR rfl rfl h30 tu22 ti27 rfl) <| Zq (ldR rfl ty27) <| Eb rfl (allc 58 ti27 (.zr (R := (arrR 32 u8R)) (x := (Vector.replicate 32 0)) zr26)) fun v31 => Es (sto 58 rfl rfl Foc.here rfl ti27) <| Zn <| gSR <| Zq (ld 1 rfl rfl Foc.here ty25 rfl) <| Zq (ld 58 rfl rfl Foc.here ty27 rfl) <| call [] [] rfl Tryz.func71 rfl rfl (dag_find_ok _ _) (aQ rfl <| aQ rfl <| aN) rN fun r32 n33 => Zm rfl <| Zq (ext rfl rfl) <| Zq (ext rfl rfl) <| Za rfl <| Za rfl <| Zn <| gSeq <| gSR <| Zm rfl <| Zq (not' rfl) <| Zn <| gIf rfl rfl (fun h34 => ?_) (fun h34 => ?_)
      ·
       refine gSR <| Za rfl <| Zn <| gRet <| eTret <| eBret <| eTret <| eLret <| eMret <| eBret <| eTret <| eLret <| eMret <| eRet [] [] rfl (eE rfl <| eN) (rN)
      ·
       refine Zt <| gReg <| Zm rfl <| Zm rfl <| Zm rfl <| Zm rfl <| lBind fun x35 h36 => Zq (ixO 45 rfl rfl rfl (idx_fam h36) Tryz.underlying109 ti78) <| Zq (ldF 45 rfl rfl h36 ty78 rfl) <| Zm rfl <| Ef rfl (lit (R := i64R) ([s19.2.2.2] : List Int) 59 (pP rfl rfl <| pN) rfl tu78 ti3 rfl rfl) fun v37 => lBind fun x38 h39 => lApF (base := 100000) (lits := [(1, some (v1, .box 25 [.rd R_api_Graph a0])), (44, some (v14, .list i64R 3 s19.1)), (55, some ((n20 0), .list i64R 3 s19.2.2.1)), (57, some (v24, .box 65 [.rd R_api_Op x22])), (58, some (v31, .box 27 [.rd (arrR 32 u8R) x29])), (59, some (v37, .list i64R 3 [s19.2.2.2]))]) 45 [1, 44, 55, 57, 58, 59] (by repeat (first | refine HasFam.cons rfl ?_ | exact HasFam.tail)) rfl rfl rfl h36 rfl rfl rfl rfl (.own 59 rfl) h39 rfl (fun _ h => by cases h; rfl) (fun _ h => by cases h; rfl) rfl rfl tu78 ti3 rfl rfl rfl Tryz.underlying109 ti78 ty78 (Zi rfl <| Zi rfl <| Zi rfl <| Zi rfl <| Zi rfl <| Zi rfl <| rN) rfl fun v40 => gNil <| eBlk <| eThen <| gReg <| Zq (I.add rfl rfl) <| Zm rfl <| gNil <| eNext (fun aa ww h => ⟨nvlF [] (updF (fun j => n27 (j + 0)) (r32.1 : Int).toNat v40), h.subF (by repeat (first | refine HasFam.cons rfl ?_ | exact HasFam.tail)) [1, 44, 45, 55, 57] (Zs rfl rfl rfl rfl <| Zs rfl rfl rfl rfl <| Zs rfl rfl rfl rfl <| sN) (Zi rfl <| Zi rfl <| Zi rfl <| Zi rfl <| Zi rfl <| rN) rfl⟩)
     ·
      refine gExit <| eTexit <| eLeave <| eMidR (fun aa ww h => ⟨nvlF [] (fun j => n27 (j + 0)), h.subF (by repeat (first | refine HasFam.cons rfl ?_ | exact HasFam.tail)) [1, 44, 45, 55, 57] (Zs rfl rfl rfl rfl <| Zs rfl rfl rfl rfl <| sS rfl <| sN) (Zi rfl <| Zi rfl <| Zi rfl <| Zi rfl <| Zi rfl <| rN) rfl⟩)
    ·
     refine gEx fun n41 => gSR <| Zm rfl <| Zm rfl <| Zq (faB 57 rfl rfl Tryz.underlying65 rfl (by exact ti22)) <| Zq (ld 57 rfl rfl ((Foc.here).part (pt_api_Op_Preds _)) ty22 rfl) <| Zq (len' rfl .rd rfl tu22) <| lBind fun x42 h43 => Zq (ixO 44 rfl rfl rfl h43 tu78 ti3) <| Es (sto 44 rfl rfl (Foc.el h43) rfl ti3) <| Zn <| gSR <| Zm rfl <| Zm rfl <| lBind fun x44 h45 => Zq (ixO 44 rfl rfl rfl h45 tu78 ti3) <| Zq (ld 44 rfl rfl (Foc.el h45) ty3 rfl) <| Zq (I.eql rfl rfl) <| Zn <| gIf rfl rfl (fun h46 => ?_) (fun h46 => ?_)
     ·
      refine gReg <| Zm rfl <| Zm rfl <| Ef rfl (lit (R := i64R) ([s19.2.2.2] : List Int) 60 (pP rfl rfl <| pN) rfl tu78 ti3 rfl rfl) fun v47 => lBind fun x48 h49 => Ef rfl (apn 55 rfl rfl rfl (.own 60 rfl) h49 tu78 ti3 rfl rfl rfl) fun v50 => Za rfl <| gNil <| eBlk <| eThen <| gReg <| Zq (I.add rfl rfl) <| Zm rfl <| gNil <| eNext (fun aa ww h => ⟨nvlF [v50] (fun j => n41 (j + 0)), h.subF (by repeat (first | refine HasFam.cons rfl ?_ | exact HasFam.tail)) [1, 44, 45, 55] (Zs rfl rfl rfl rfl <| sS rfl <| sS rfl <| sS rfl <| sN) (Zi rfl <| Zi rfl <| Zi rfl <| Zi rfl <| rN) rfl⟩)
     ·
      refine gSkip <| eBlk <| eThen <| gReg <| Zq (I.add rfl rfl) <| Zm rfl <| gNil <| eNext (fun aa ww h => ⟨nvlF [(n20 0)] (fun j => n41 (j + 0)), h.subF (by repeat (first | refine HasFam.cons rfl ?_ | exact HasFam.tail)) [1, 44, 45, 55] (Zs rfl rfl rfl rfl <| sS rfl <| sS rfl <| sS rfl <| sN) (Zi rfl <| Zi rfl <| Zi rfl <| Zi rfl <| rN) rfl⟩)
   ·
    refine gExit <| eTexit <| eLeave <| eMidR (fun aa ww h => ⟨nvlF [(n20 0)] (fun j => n20 (j + 1)), h.subF (by repeat (first | refine HasFam.cons rfl ?_ | exact HasFam.tail)) [1, 44, 45, 55] (Zs rfl rfl rfl rfl <| sN) (Zi rfl <| Zi rfl <| Zi rfl <| Zi rfl <| rN) rfl⟩)
  ·
   refine gEx fun n51 => gSR <| Za rfl <| Zn <| gMid (fun (s52 : Int) aa ww => Sta (ctx 133 H [] w) [(1, .val (ptrTo v1 0)), (13, .rd i64R s52)] [(1, some (v1, .box 25 [.rd R_api_Graph a0]))] aa ww) ?_ (fun s52 => ?_)
   ·
    refine gFrzF (base := 100000) (T := 3) (lits := [(1, some (v1, .box 25 [.rd R_api_Graph a0])), (44, some (v14, .list i64R 3 s18.1)), (50, some ((n51 0), .list i64R 3 s18.2.2))]) (by repeat (first | refine HasFam.cons rfl ?_ | exact HasFam.tail)) 45 rfl [1, 44, 50] (Zi rfl <| Zi rfl <| Zi rfl <| rN) rfl rfl <| gLoop (fun (s53 : (List Int) × (List Int) × Int) aa ww => ∃ nv : Nat → Value, Sta (ctx 133 H [] w) [(1, .val (ptrTo v1 0)), (4, .val v14), (5, .val v17), (6, .val (nv 0)), (13, .rd i64R s53.2.2)] [(1, some (v1, .box 25 [.rd R_api_Graph a0])), (44, some (v14, .list i64R 3 s53.1)), (45, some (v17, .list (sliceR i64R) 78 s18.2.1)), (50, some ((nv 0), .list i64R 3 s53.2.1))] aa ww) (fun aa ww h => ⟨nvl [(n51 0)], h.sub [1, 44, 45, 50] (Zs rfl rfl rfl rfl <| sS rfl <| sN) (Zi rfl <| Zi rfl <| Zi rfl <| Zi rfl <| rN)⟩) (fun s53 => ?_)
    refine gEx fun n54 => gSeq <| gSR <| Zm rfl <| Zm rfl <| Zq (len' rfl (.own 50 rfl) rfl tu78) <| Zq (I.lss rfl rfl) <| Zn <| gIf rfl rfl (fun h55 => ?_) (fun h55 => ?_)
    ·
     refine Zt <| gMid (fun (s56 : (List Int) × (List Int)) aa ww => ∃ nv : Nat → Value, Sta (ctx 133 H [] w) [(1, .val (ptrTo v1 0)), (4, .val v14), (5, .val v17), (6, .val (nv 0)), (13, .rd i64R s53.2.2)] [(1, some (v1, .box 25 [.rd R_api_Graph a0])), (44, some (v14, .list i64R 3 s56.1)), (45, some (v17, .list (sliceR i64R) 78 s18.2.1)), (50, some ((nv 0), .list i64R 3 s56.2))] aa ww) ?_ (fun s56 => ?_)
     ·
      refine gBlk <| gSR <| Zm rfl <| Zm rfl <| Zm rfl <| lBind fun x57 h58 => Zq (ixO 50 rfl rfl rfl h58 tu78 ti3) <| Zq (ld 50 rfl rfl (Foc.el h58) ty3 rfl) <| lBind fun x59 h60 => Zq (ixO 45 rfl rfl rfl h60 Tryz.underlying109 ti78) <| Zq (ld 45 rfl rfl (Foc.el h60) ty78 rfl) <| Zq (len' rfl .rd rfl tu78) <| Zm rfl <| Zn <| gLoop (fun (s61 : (List Int) × (List Int) × Int) aa ww => ∃ nv : Nat → Value, Sta (ctx 133 H [] w) [(1, .val (ptrTo v1 0)), (4, .val v14), (5, .val v17), (6, .val (nv 0)), (13, .rd i64R s53.2.2), (106, .rd (sliceR i64R) x59), (107, .rd i64R (x59.length : Int)), (108, .rd i64R s61.2.2)] [(1, some (v1, .box 25 [.rd R_api_Graph a0])), (44, some (v14, .list i64R 3 s61.1)), (45, some (v17, .list (sliceR i64R) 78 s18.2.1)), (50, some ((nv 0), .list i64R 3 s61.2.1))] aa ww) (fun aa ww h => ⟨nvl [(n54 0)], h.sub [1, 44, 45, 50] (Zs rfl rfl rfl rfl <| Zs rfl rfl rfl rfl <| sN) (Zi rfl <| Zi rfl <| Zi rfl <| Zi rfl <| rN)⟩) (fun s61 => ?_)
      refine gEx fun n62 => gSR <| Zq (I.lss rfl rfl) <| Zn <| gSeq <| gIf rfl rfl (fun h63 => ?_) (fun h63 => ?_)
      ·
       refine Zt <| gSeq <| gBlk <| gSR <| lBind fun x64 h65 => Zq (ixR rfl rfl h65 tu78 ti3 rfl) <| Zq (ldR rfl ty3) <| Za rfl <| Zn <| gSR <| Zm rfl <| Zm rfl <| lBind fun x66 h67 => Zq (ixO 44 rfl rfl rfl h67 tu78 ti3) <| Zq (ld 44 rfl rfl (Foc.el h67) ty3 rfl) <| Zq (I.sub rfl rfl) <| lBind fun x68 h69 => Zq (ixO 44 rfl rfl rfl h69 tu78 ti3) <| Es (sto 44 rfl rfl (Foc.el h69) rfl ti3) <| Zn <| gSR <| Zm rfl <| Zm rfl <| lBind fun x70 h71 => Zq (ixO 44 rfl rfl rfl h71 tu78 ti3) <| Zq (ld 44 rfl rfl (Foc.el h71) ty3 rfl) <| Zq (I.eql rfl rfl) <| Zn <| gIf rfl rfl (fun h72 => ?_) (fun h72 => ?_)
       ·
        refine gReg <| Zm rfl <| Zm rfl <| Ef rfl (lit (R := i64R) ([x64] : List Int) 61 (pP rfl rfl <| pN) rfl tu78 ti3 rfl rfl) fun v73 => lBind fun x74 h75 => Ef rfl (apn 50 rfl rfl rfl (.own 61 rfl) h75 tu78 ti3 rfl rfl rfl) fun v76 => Za rfl <| gNil <| eBlk <| eThen <| gReg <| Zq (I.add rfl rfl) <| Zm rfl <| gNil <| eNext (fun aa ww h => ⟨nvl [v76], h.sub [1, 44, 45, 50] (Zs rfl rfl rfl rfl <| Zs rfl rfl rfl rfl <| sN) (Zi rfl <| Zi rfl <| Zi rfl <| Zi rfl <| rN)⟩)
       ·
        refine gSkip <| eBlk <| eThen <| gReg <| Zq (I.add rfl rfl) <| Zm rfl <| gNil <| eNext (fun aa ww h => ⟨nvl [(n62 0)], h.sub [1, 44, 45, 50] (Zs rfl rfl rfl rfl <| Zs rfl rfl rfl rfl <| sN) (Zi rfl <| Zi rfl <| Zi rfl <| Zi rfl <| rN)⟩)
      ·
       refine gExit <| eTexit <| eLeave <| eBlk <| eMid (fun aa ww h => ⟨nvl [(n62 0)], h.sub [1, 44, 45, 50] (Zs rfl rfl rfl rfl <| sS rfl <| sN) (Zi rfl <| Zi rfl <| Zi rfl <| Zi rfl <| rN)⟩)
     ·
      refine gEx fun n77 => gReg <| Zm rfl <| Zq (I.add rfl rfl) <| Za rfl <| lName 13 rfl fun y78 => gNil <| eNext (fun aa ww h => ⟨nvl [(n77 0)], h.sub [1, 44, 45, 50] (Zs rfl rfl rfl rfl <| sS rfl <| sN) (Zi rfl <| Zi rfl <| Zi rfl <| Zi rfl <| rN)⟩)
    ·
     refine gExit <| eTexit <| eLeave <| eMid (fun aa ww h => h.sub [1] (sS rfl <| sS rfl <| sN) (Zi rfl <| rN))
   ·
    refine gSeq <| gSR <| Zm rfl <| Zq (faB 1 rfl rfl Tryz.underlying25 rfl (by exact ti23)) <| Zq (ld 1 rfl rfl ((Foc.here).part (pt_api_Graph_Ops _)) ty23 rfl) <| Zq (len' rfl .rd rfl tu23) <| Zq (I.lss rfl rfl) <| Zn <| gIf rfl rfl (fun h79 => ?_) (fun h79 => ?_)
    ·
     refine gSR <| Za rfl <| Zn <| gRet <| eTret <| eRet [] [] rfl (eE rfl <| eN) (rN)
    ·
     refine Zt <| gSR <| Za rfl <| Zn <| gRet <| eRet [] [] rfl (eE rfl <| eN) (rN)
def dag_Check_L0 (a0 : api_Graph) (s5 : Int) : Option (Sum (Sum Int Unit) Int) :=
 if decide (s5 < (a0.Ops.length : Int)) then
  idx a0.Ops s5 >>= fun x7 =>
  op_ID x7 >>= fun r10 =>
  (if r10.2 != 0 then
   some true
  else
   idx a0.IDs s5 >>= fun x15 =>
   if !decide (r10.1 = x15) then
    some true
   else
    op_Verify x7 >>= fun r18 =>
    some (r18 != 0)) >>= fun s13 =>
  if s13 then
   some (.inl (.inl 8))
  else
   some (.inr (w64 (s5 + 1)))
 else
  some (.inl (.inr ()))
def dag_Check (a0 : api_Graph) : Option (Int) :=
 if decide (60 < (a0.Ops.length : Int)) then
  some 4
 else
  if (a0.IDs.length : Int) != (a0.Ops.length : Int) then
   some 8
  else
   orRet (iter (dag_Check_L0 a0) 0) fun s4 =>
   dag_shape a0 >>= fun r21 =>
   some r21
theorem dag_Check_ok (a0 : api_Graph) : Spec Tryz.prog 31 [.rd R_api_Graph a0] [(1001, some ((.bool true), .glob 1 (arrR 64 u32R) gtab1))] (dag_Check a0) (fun r nv => ⟨[.rd i64R r], [(1001, some (.bool true, .glob 1 (arrR 64 u32R) gtab1))]⟩) := by
 refine spec 50 Tryz.func31 rfl rfl rfl fun H w => ?_
 refine gSR <| Eb rfl (bx 1 rfl) fun v1 => Za rfl <| Zn <| gSeq <| gSR <| Zq (faB 1 rfl rfl Tryz.underlying25 rfl (by exact ti23)) <| Zq (ld 1 rfl rfl ((Foc.here).part (pt_api_Graph_Ops _)) ty23 rfl) <| Zq (len' rfl .rd rfl tu23) <| Zq (I.gtr rfl rfl) <| Zn <| gIf rfl rfl (fun h2 => ?_) (fun h2 => ?_)
 ·
  refine gSR <| Za rfl <| Zn <| gRet <| eTret <| eRet [] [1001] rfl (eE rfl <| eN) (Zi rfl <| rN)
 ·
  refine Zt <| gSeq <| gSR <| Zq (faB 1 rfl rfl Tryz.underlying25 rfl (by exact ti22)) <| Zq (ld 1 rfl rfl ((Foc.here).part (pt_api_Graph_IDs _)) ty22 rfl) <| Zq (len' rfl .rd rfl tu22) <| Zq (faB 1 rfl rfl Tryz.underlying25 rfl (by exact ti23)) <| Zq (ld 1 rfl rfl ((Foc.here).part (pt_api_Graph_Ops _)) ty23 rfl) <| Zq (len' rfl .rd rfl tu23) <| Zq (I.neq rfl rfl) <| Zn <| gIf rfl rfl (fun h3 => ?_) (fun h3 => ?_)
  ·
   refine gSR <| Za rfl <| Zn <| gRet <| eTret <| eRet [] [1001] rfl (eE rfl <| eN) (Zi rfl <| rN)
  ·
   refine Zt <| gMidR (fun (s4 : Unit) aa ww => Sta (ctx 50 H [(1001, some ((.bool true), .glob 1 (arrR 64 u32R) gtab1))] w) [(1, .val (ptrTo v1 0))] [(1, some (v1, .box 25 [.rd R_api_Graph a0])), (1001, some ((.bool true), .glob 1 (arrR 64 u32R) gtab1))] aa ww) ?_ (fun s4 => ?_)
   ·
    refine gSR <| Zq (faB 1 rfl rfl Tryz.underlying25 rfl (by exact ti23)) <| Zq (ld 1 rfl rfl ((Foc.here).part (pt_api_Graph_Ops _)) ty23 rfl) <| Zq (len' rfl .rd rfl tu23) <| Zm rfl <| Zn <| gLoop (fun (s5 : Int) aa ww => Sta (ctx 50 H [(1001, some ((.bool true), .glob 1 (arrR 64 u32R) gtab1))] w) [(1, .val (ptrTo v1 0)), (19, .rd (sliceR R_api_Op) a0.Ops), (20, .rd i64R (a0.Ops.length : Int)), (21, .rd i64R s5)] [(1, some (v1, .box 25 [.rd R_api_Graph a0])), (1001, some ((.bool true), .glob 1 (arrR 64 u32R) gtab1))] aa ww) (fun aa ww h => h.sub [1, 1001] (Zs rfl rfl rfl rfl <| sN) (Zi rfl <| Zi rfl <| rN)) (fun s5 => ?_)
    refine gSR <| Zq (I.lss rfl rfl) <| Zn <| gSeq <| gIf rfl rfl (fun h6 => ?_) (fun h6 => ?_)
    ·
     refine Zt <| gSeq <| gBlk <| gSR <| Zm rfl <| lBind fun x7 h8 => Zq (ixR rfl rfl h8 tu23 ti65 rfl) <| Zq (ldR rfl ty65) <| Eb rfl (allc 1002 ti65 (ZrE.rd (R := u32R) (x := 0) (Zr.num rfl) (ZrE.nilS (ZrE.rd (R := u64R) (x := 0) (Zr.num rfl) (ZrE.rd (R := R_api_Act) (x := (⟨0, [], (⟨0, 0, 0, []⟩ : api_Value)⟩ : api_Act)) zr61 (ZrE.rd (R := R_api_Sig) (x := (⟨0, 0⟩ : api_Sig)) zr63 ZrE.nil rfl) rfl) rfl)) rfl)) fun v9 => Za rfl <| lPnl (arrR 32 u8R) [.rd u32R 0, .rd (sliceR (arrR 32 u8R)) [], .rd u64R 0, .rd R_api_Act (⟨0, [], (⟨0, 0, 0, []⟩ : api_Value)⟩ : api_Act), .rd R_api_Sig (⟨0, 0⟩ : api_Sig)] 1002 [.rd u32R 0] [.rd u64R 0, .rd R_api_Act (⟨0, [], (⟨0, 0, 0, []⟩ : api_Value)⟩ : api_Act), .rd R_api_Sig (⟨0, 0⟩ : api_Sig)] rfl rfl rfl <| lJoi (R := R_api_Op) (⟨0, [], 0, (⟨0, [], (⟨0, 0, 0, []⟩ : api_Value)⟩ : api_Act), (⟨0, 0⟩ : api_Sig)⟩ : api_Op) 1002 rfl (Sp.via (Sp.prod (Sp.prod (Sp.prod (Sp.prod (Sp.prod Sp.unit)))))) <| Es (sto 1002 rfl rfl Foc.here rfl ti65) <| Zn <| gSR <| Zq (ld 1002 rfl rfl Foc.here ty65 rfl) <| call [1001] [] rfl Tryz.func54 rfl rfl (op_ID_ok _) (aQ rfl <| aN) (Zi rfl <| rN) fun r10 n11 => Zm rfl <| Zq (ext rfl rfl) <| Zq (ext rfl rfl) <| Eb rfl (allc 1003 ti27 (.zr (R := (arrR 32 u8R)) (x := (Vector.replicate 32 0)) zr26)) fun v12 => Es (sto 1003 rfl rfl Foc.here rfl ti27) <| Za rfl <| Zn <| gMid (fun (s13 : Bool) aa ww => Sta (ctx 50 H [(1001, some ((.bool true), .glob 1 (arrR 64 u32R) gtab1))] w) [(1, .val (ptrTo v1 0)), (19, .rd (sliceR R_api_Op) a0.Ops), (20, .rd i64R (a0.Ops.length : Int)), (21, .rd i64R s5), (46, .rd boolR s13)] [(1, some (v1, .box 25 [.rd R_api_Graph a0])), (1001, some ((.bool true), .glob 1 (arrR 64 u32R) gtab1))] aa ww) ?_ (fun s13 => ?_)
     ·
      refine gRegH [1001] mixed rfl rfl <| hTk 0 rfl rfl (mv rfl) <| hTk 1 rfl rfl (I.neq rfl rfl) <| hTk 2 rfl rfl (mv rfl) <| hIf 33 rfl rfl (fun h14 => ?_) (fun h14 => ?_)
      ·
       refine hKn 32 rfl rfl h14 <| hSk 3 rfl rfl <| hSk 4 rfl rfl <| hSk 5 rfl rfl <| hSk 6 rfl rfl <| hSk 7 rfl rfl <| hSk 8 rfl rfl <| hSk 9 rfl rfl <| hTk 10 rfl rfl (pkT rfl rfl) <| hTk 11 rfl rfl (mv rfl) <| hSk 12 rfl rfl <| hSk 13 rfl rfl <| hSk 14 rfl rfl <| hTk 15 rfl rfl (pkT rfl rfl) <| hDone (by kernel_rfl) <| eMid (fun aa ww h => h.sub [1, 1001] (Zs rfl rfl rfl rfl <| sS rfl <| sN) (Zi rfl <| Zi rfl <| rN))
      ·
       refine hKn 32 rfl rfl h14 <| hTake 3 rfl (by kernel_rfl) (by kernel_rfl) (by kernel_rfl) (gd rfl rfl rfl rfl) rfl rfl (ld 1003 rfl rfl Foc.here ty27 rfl) <| hTake 4 rfl (by kernel_rfl) (by kernel_rfl) (by kernel_rfl) (gd rfl rfl rfl rfl) rfl rfl (faB 1 rfl rfl Tryz.underlying25 rfl (by exact ti22)) <| hTake 5 rfl (by kernel_rfl) (by kernel_rfl) (by kernel_rfl) (gd rfl rfl rfl rfl) rfl rfl (ld 1 rfl rfl ((Foc.here).part (pt_api_Graph_IDs _)) ty22 rfl) <| hTake 6 rfl (by kernel_rfl) (by kernel_rfl) (by kernel_rfl) (gd rfl rfl rfl rfl) rfl rfl (mv rfl) <| hBind fun x15 h16 => hTake 7 rfl (by kernel_rfl) (by kernel_rfl) (by kernel_rfl) (gd rfl rfl rfl rfl) rfl rfl (ixR rfl rfl h16 tu22 ti27 rfl) <| hTake 8 rfl (by kernel_rfl) (by kernel_rfl) (by kernel_rfl) (gd rfl rfl rfl rfl) rfl rfl (ldR rfl ty27) <| hTake 9 rfl (by kernel_rfl) (by kernel_rfl) (by kernel_rfl) (gd rfl rfl rfl rfl) rfl rfl (neA rfl rfl eq27 rfl rfl gq27) <| hTk 10 rfl rfl (pkF rfl rfl) <| hTk 11 rfl rfl (mv rfl) <| hIf 42 rfl rfl (fun h17 => ?_) (fun h17 => ?_)
       ·
        refine hKn 40 rfl rfl h17 <| hKn 41 rfl rfl h17 <| hSk 12 rfl rfl <| hSk 13 rfl rfl <| hSk 14 rfl rfl <| hTk 15 rfl rfl (pkT rfl rfl) <| hDone (by kernel_rfl) <| eMid (fun aa ww h => h.sub [1, 1001] (Zs rfl rfl rfl rfl <| sS rfl <| sN) (Zi rfl <| Zi rfl <| rN))
       ·
        refine hKn 40 rfl rfl h17 <| hKn 41 rfl rfl h17 <| hTake 12 rfl (by kernel_rfl) (by kernel_rfl) (by kernel_rfl) (gd rfl rfl rfl rfl) rfl rfl (ld 1002 rfl rfl Foc.here ty65 rfl) <| hCallF 13 [1001] [] rfl (by kernel_rfl) rfl (gd rfl rfl rfl rfl) rfl Tryz.func55 rfl rfl (op_Verify_ok _) (aQ rfl <| aN) (Zi rfl <| rN) rfl (fun _ _ => flat_num) fun r18 n19 => hTake 14 rfl (by kernel_rfl) (by kernel_rfl) (by kernel_rfl) (gd rfl rfl rfl rfl) rfl rfl (I.neq rfl rfl) <| hTk 15 rfl rfl (pkF rfl rfl) <| hDone (by kernel_rfl) <| eMid (fun aa ww h => h.sub [1, 1001] (Zs rfl rfl rfl rfl <| sS rfl <| sN) (Zi rfl <| Zi rfl <| rN))
     ·
      refine gIf rfl rfl (fun h20 => ?_) (fun h20 => ?_)
      ·
       refine gSR <| Za rfl <| Zn <| gRet <| eBret <| eTret <| eLret <| eMret <| eRet [] [1001] rfl (eE rfl <| eN) (Zi rfl <| rN)
      ·
       refine gSkip <| eBlk <| eThen <| gReg <| Zq (I.add rfl rfl) <| Zm rfl <| gNil <| eNext (fun aa ww h => h.sub [1, 1001] (Zs rfl rfl rfl rfl <| sN) (Zi rfl <| Zi rfl <| rN))
    ·
     refine gExit <| eTexit <| eLeave <| eMidR (fun aa ww h => h.sub [1, 1001] (sS rfl <| sN) (Zi rfl <| Zi rfl <| rN))
   ·
    refine gSR <| Zq (ld 1 rfl rfl Foc.here ty25 rfl) <| call [] [] rfl Tryz.func56 rfl rfl (dag_shape_ok _) (aQ rfl <| aN) rN fun r21 n22 => Za rfl <| Zn <| gRet <| eRet [] [1001] rfl (eE rfl <| eN) (Zi rfl <| rN)
def braidref09_At_L0 (a0 : List (Vector UInt8 32)) (a1 : Vector UInt8 32) (s3 : Int) : Option (Sum (Sum Int Unit) Int) :=
 if decide (s3 < (a0.length : Int)) then
  idx a0 s3 >>= fun x5 =>
  if decide (x5 = a1) then
   some (.inl (.inl s3))
  else
   some (.inr (w64 (s3 + 1)))
 else
  some (.inl (.inr ()))
def braidref09_At (a0 : List (Vector UInt8 32)) (a1 : Vector UInt8 32) : Option (Int) :=
 orRet (iter (braidref09_At_L0 a0 a1) 0) fun s2 =>
 some (-1)
theorem braidref09_At_ok (a0 : List (Vector UInt8 32)) (a1 : Vector UInt8 32) : Spec Tryz.prog 30 [.rd (sliceR (arrR 32 u8R)) a0, .rd (arrR 32 u8R) a1] [] (braidref09_At a0 a1) (fun r nv => ⟨[.rd i64R r], []⟩) := by
 refine spec 19 Tryz.func30 rfl rfl rfl fun H w => ?_
 refine gSR <| Eb rfl (bx 1 rfl) fun v1 => Za rfl <| Zn <| gMidR (fun (s2 : Unit) aa ww => Sta (ctx 19 H [] w) [] [] aa ww) ?_ (fun s2 => ?_)
 ·
  refine gSR <| Za rfl <| Zn <| gLoop (fun (s3 : Int) aa ww => Sta (ctx 19 H [] w) [(0, .rd (sliceR (arrR 32 u8R)) a0), (3, .val (ptrTo v1 0)), (5, .rd i64R s3)] [(1, some (v1, .box 27 [.rd (arrR 32 u8R) a1]))] aa ww) (fun aa ww h => h.sub [1] (sS rfl <| sS rfl <| sS rfl <| sN) (Zi rfl <| rN)) (fun s3 => ?_)
  refine gSeq <| gSR <| Zm rfl <| Zm rfl <| Zq (len' rfl .rd rfl tu22) <| Zq (I.lss rfl rfl) <| Zn <| gIf rfl rfl (fun h4 => ?_) (fun h4 => ?_)
  ·
   refine Zt <| gSeq <| gBlk <| gSeq <| gRegQ mixed (by kernel_rfl) <| Rq rfl (mv rfl) <| Rq rfl (mv rfl) <| qBind fun x5 h6 => Rq rfl (ixR rfl rfl h6 tu22 ti27 rfl) <| Rq rfl (ldR rfl ty27) <| Rq rfl (ld 1 rfl rfl Foc.here ty27 rfl) <| Rq rfl (eqA rfl rfl eq27 rfl rfl gq27) <| qNil <| eThen <| gIf rfl rfl (fun h7 => ?_) (fun h7 => ?_)
   ·
    refine gSR <| Zm rfl <| Za rfl <| Zn <| gRet <| eBret <| eTret <| eLret <| eMret <| eRet [] [] rfl (eE rfl <| eN) (rN)
   ·
    refine gSkip <| eBlk <| eThen <| gReg <| Zm rfl <| Zq (I.add rfl rfl) <| Za rfl <| gNil <| eNext (fun aa ww h => h.sub [1] (sS rfl <| sS rfl <| sS rfl <| sN) (Zi rfl <| rN))
  ·
   refine gExit <| eTexit <| eLeave <| eMidR (fun aa ww h => h.sub [] (sN) (rN))
 ·
  refine gSR <| Za rfl <| Zn <| gRet <| eRet [] [] rfl (eE rfl <| eN) (rN)
def braidref09_All_L0 (a0 : List (Vector UInt8 32)) (a1 : List (Vector UInt8 32)) (s2 : Int) : Option (Sum (Sum Bool Unit) Int) :=
 if decide (s2 < (a1.length : Int)) then
  idx a1 s2 >>= fun x4 =>
  braidref09_At a0 x4 >>= fun r6 =>
  if decide (r6 < 0) then
   some (.inl (.inl false))
  else
   some (.inr (w64 (s2 + 1)))
 else
  some (.inl (.inr ()))
def braidref09_All (a0 : List (Vector UInt8 32)) (a1 : List (Vector UInt8 32)) : Option (Bool) :=
 orRet (iter (braidref09_All_L0 a0 a1) 0) fun s1 =>
 some true
theorem braidref09_All_ok (a0 : List (Vector UInt8 32)) (a1 : List (Vector UInt8 32)) : Spec Tryz.prog 48 [.rd (sliceR (arrR 32 u8R)) a0, .rd (sliceR (arrR 32 u8R)) a1] [] (braidref09_All a0 a1) (fun r nv => ⟨[.rd boolR r], []⟩) := by
 refine spec 19 Tryz.func48 rfl rfl rfl fun H w => ?_
 refine gSR <| Za rfl <| Zn <| gMidR (fun (s1 : Unit) aa ww => Sta (ctx 19 H [] w) [] [] aa ww) ?_ (fun s1 => ?_)
 ·
  refine gSR <| Za rfl <| Zn <| gLoop (fun (s2 : Int) aa ww => Sta (ctx 19 H [] w) [(0, .rd (sliceR (arrR 32 u8R)) a0), (1, .rd (sliceR (arrR 32 u8R)) a1), (5, .rd i64R s2)] [] aa ww) (fun aa ww h => h.sub [] (sS rfl <| sS rfl <| sS rfl <| sN) (rN)) (fun s2 => ?_)
  refine gSeq <| gSR <| Zm rfl <| Zm rfl <| Zq (len' rfl .rd rfl tu22) <| Zq (I.lss rfl rfl) <| Zn <| gIf rfl rfl (fun h3 => ?_) (fun h3 => ?_)
  ·
   refine Zt <| gSeq <| gBlk <| gSR <| Zm rfl <| Zm rfl <| Zm rfl <| lBind fun x4 h5 => Zq (ixR rfl rfl h5 tu22 ti27 rfl) <| Zq (ldR rfl ty27) <| call [] [] rfl Tryz.func30 rfl rfl (braidref09_At_ok _ _) (aQ rfl <| aQ rfl <| aN) rN fun r6 n7 => Zq (I.lss rfl rfl) <| Zn <| gIf rfl rfl (fun h8 => ?_) (fun h8 => ?_)
   ·
    refine gSR <| Za rfl <| Zn <| gRet <| eBret <| eTret <| eLret <| eMret <| eRet [] [] rfl (eE rfl <| eN) (rN)
   ·
    refine gSkip <| eBlk <| eThen <| gReg <| Zm rfl <| Zq (I.add rfl rfl) <| Za rfl <| gNil <| eNext (fun aa ww h => h.sub [] (sS rfl <| sS rfl <| sS rfl <| sN) (rN))
  ·
   refine gExit <| eTexit <| eLeave <| eMidR (fun aa ww h => h.sub [] (sN) (rN))
 ·
  refine gSR <| Za rfl <| Zn <| gRet <| eRet [] [] rfl (eE rfl <| eN) (rN)
theorem braidref09_At_q0_ok (a0 : List (Vector UInt8 32)) (q0 : Value) (l0 : List (Vector UInt8 32)) (a1 : Vector UInt8 32) : Spec Tryz.prog 30 [.vw (arrR 32 u8R) q0 l0 a0, .rd (arrR 32 u8R) a1] [(1, some (q0, .list (arrR 32 u8R) 27 l0))] (braidref09_At a0 a1) (fun r nv => ⟨[.rd i64R r], [(1, some (q0, .list (arrR 32 u8R) 27 l0))]⟩) := by
 refine spec 19 Tryz.func30 rfl rfl rfl fun H w => ?_
 refine gSR <| Eb rfl (bx 2 rfl) fun v1 => Za rfl <| Zn <| gMidR (fun (s2 : Unit) aa ww => Sta (ctx 19 H [(1, some (q0, .list (arrR 32 u8R) 27 l0))] w) [] [(1, some (q0, .list (arrR 32 u8R) 27 l0))] aa ww) ?_ (fun s2 => ?_)
 ·
  refine gSR <| Za rfl <| Zn <| gLoop (fun (s3 : Int) aa ww => Sta (ctx 19 H [(1, some (q0, .list (arrR 32 u8R) 27 l0))] w) [(0, .vw (arrR 32 u8R) q0 l0 a0), (3, .val (ptrTo v1 0)), (5, .rd i64R s3)] [(1, some (q0, .list (arrR 32 u8R) 27 l0)), (2, some (v1, .box 27 [.rd (arrR 32 u8R) a1]))] aa ww) (fun aa ww h => h.sub [1, 2] (sS rfl <| sS rfl <| sS rfl <| sN) (Zi rfl <| Zi rfl <| rN)) (fun s3 => ?_)
  refine gSeq <| gSR <| Zm rfl <| Zm rfl <| Zq (len' rfl (.vw 1 rfl) rfl tu22) <| Zq (I.lss rfl rfl) <| Zn <| gIf rfl rfl (fun h4 => ?_) (fun h4 => ?_)
  ·
   refine Zt <| gSeq <| gBlk <| gSeq <| gRegQ mixed (by kernel_rfl) <| Rq rfl (mv rfl) <| Rq rfl (mv rfl) <| qBind fun x5 h6 => Rq rfl (ixQ 1 rfl rfl rfl h6 tu22 ti27) <| Rq rfl (ldQ 1 rfl rfl ty27 rfl) <| Rq rfl (ld 2 rfl rfl Foc.here ty27 rfl) <| Rq rfl (eqA rfl rfl eq27 rfl rfl gq27) <| qNil <| eThen <| gIf rfl rfl (fun h7 => ?_) (fun h7 => ?_)
   ·
    refine gSR <| Zm rfl <| Za rfl <| Zn <| gRet <| eBret <| eTret <| eLret <| eMret <| eRet [] [1] rfl (eE rfl <| eN) (Zi rfl <| rN)
   ·
    refine gSkip <| eBlk <| eThen <| gReg <| Zm rfl <| Zq (I.add rfl rfl) <| Za rfl <| gNil <| eNext (fun aa ww h => h.sub [1, 2] (sS rfl <| sS rfl <| sS rfl <| sN) (Zi rfl <| Zi rfl <| rN))
  ·
   refine gExit <| eTexit <| eLeave <| eMidR (fun aa ww h => h.sub [1] (sN) (Zi rfl <| rN))
 ·
  refine gSR <| Za rfl <| Zn <| gRet <| eRet [] [1] rfl (eE rfl <| eN) (Zi rfl <| rN)
theorem braidref09_All_q0_ok (a0 : List (Vector UInt8 32)) (q0 : Value) (l0 : List (Vector UInt8 32)) (a1 : List (Vector UInt8 32)) : Spec Tryz.prog 48 [.vw (arrR 32 u8R) q0 l0 a0, .rd (sliceR (arrR 32 u8R)) a1] [(1, some (q0, .list (arrR 32 u8R) 27 l0))] (braidref09_All a0 a1) (fun r nv => ⟨[.rd boolR r], [(1, some (q0, .list (arrR 32 u8R) 27 l0))]⟩) := by
 refine spec 19 Tryz.func48 rfl rfl rfl fun H w => ?_
 refine gSR <| Za rfl <| Zn <| gMidR (fun (s1 : Unit) aa ww => Sta (ctx 19 H [(1, some (q0, .list (arrR 32 u8R) 27 l0))] w) [] [(1, some (q0, .list (arrR 32 u8R) 27 l0))] aa ww) ?_ (fun s1 => ?_)
 ·
  refine gSR <| Za rfl <| Zn <| gLoop (fun (s2 : Int) aa ww => Sta (ctx 19 H [(1, some (q0, .list (arrR 32 u8R) 27 l0))] w) [(0, .vw (arrR 32 u8R) q0 l0 a0), (1, .rd (sliceR (arrR 32 u8R)) a1), (5, .rd i64R s2)] [(1, some (q0, .list (arrR 32 u8R) 27 l0))] aa ww) (fun aa ww h => h.sub [1] (sS rfl <| sS rfl <| sS rfl <| sN) (Zi rfl <| rN)) (fun s2 => ?_)
  refine gSeq <| gSR <| Zm rfl <| Zm rfl <| Zq (len' rfl .rd rfl tu22) <| Zq (I.lss rfl rfl) <| Zn <| gIf rfl rfl (fun h3 => ?_) (fun h3 => ?_)
  ·
   refine Zt <| gSeq <| gBlk <| gSR <| Zm rfl <| Zm rfl <| Zm rfl <| lBind fun x4 h5 => Zq (ixR rfl rfl h5 tu22 ti27 rfl) <| Zq (ldR rfl ty27) <| call [1] [(1, 1)] rfl Tryz.func30 rfl rfl (braidref09_At_q0_ok _ _ _ _) (aQ rfl <| aQ rfl <| aN) (Zi rfl <| rN) fun r6 n7 => Zq (I.lss rfl rfl) <| Zn <| gIf rfl rfl (fun h8 => ?_) (fun h8 => ?_)
   ·
    refine gSR <| Za rfl <| Zn <| gRet <| eBret <| eTret <| eLret <| eMret <| eRet [] [1] rfl (eE rfl <| eN) (Zi rfl <| rN)
   ·
    refine gSkip <| eBlk <| eThen <| gReg <| Zm rfl <| Zq (I.add rfl rfl) <| Za rfl <| gNil <| eNext (fun aa ww h => h.sub [1] (sS rfl <| sS rfl <| sS rfl <| sN) (Zi rfl <| rN))
  ·
   refine gExit <| eTexit <| eLeave <| eMidR (fun aa ww h => h.sub [1] (sN) (Zi rfl <| rN))
 ·
  refine gSR <| Za rfl <| Zn <| gRet <| eRet [] [1] rfl (eE rfl <| eN) (Zi rfl <| rN)
def braidref09_Order_L2 (a0 : api_Graph) (s6 : (List Int) × (List (Vector UInt8 32)) × (List Bool) × Bool) (s9 : Int) : Option (Sum (Sum ((List Int)) ((List Int) × (List (Vector UInt8 32)) × (List Bool) × Bool)) Int) :=
 if decide (s9 < (a0.Ops.length : Int)) then
  (idx s6.2.2.1 s9 >>= fun x12 =>
  if !x12 then
   idx a0.Ops s9 >>= fun x15 =>
   braidref09_All s6.2.1 x15.Preds >>= fun r17 =>
   some r17
  else
   some false) >>= fun s11 =>
  if s11 then
   (idx a0.IDs s9 >>= fun x21 =>
   app 8 s6.1 [s9] >>= fun x24 =>
   app 32 s6.2.1 [x21] >>= fun x28 =>
   idx s6.2.2.1 s9 >>= fun x31 =>
   some (x24, x28)) >>= fun s20 =>
   some (.inl (.inr (s20.1, s20.2, s6.2.2.1.set (s9 : Int).toNat true, true)))
  else
   some (.inr (w64 (s9 + 1)))
 else
  some (.inl (.inr (s6.1, s6.2.1, s6.2.2.1, false)))
def braidref09_Order_L0 (a0 : api_Graph) (s6 : (List Int) × (List (Vector UInt8 32)) × (List Bool) × Bool) : Option (Sum ((List Int)) ((List Int) × (List (Vector UInt8 32)) × (List Bool) × Bool)) :=
 if s6.2.2.2 then
  iter (braidref09_Order_L2 a0 s6) 0
 else
  some (.inl s6.1)
def braidref09_Order (a0 : api_Graph) : Option ((List Int)) :=
 mkn 1 false (a0.Ops.length : Int) >>= fun x2 =>
 (iter (braidref09_Order_L0 a0) ([], [], x2, true)) >>= fun s5 =>
 some s5
theorem braidref09_Order_ok (a0 : api_Graph) : Spec Tryz.prog 64 [.rd R_api_Graph a0] [] (braidref09_Order a0) (fun r nv => ⟨[.val (nv 0)], [(100, some (nv 0, .list i64R 3 r))]⟩) := by
 refine spec 51 Tryz.func64 rfl rfl rfl fun H w => ?_
 refine gSR <| Eb rfl (bx 1 rfl) fun v1 => Za rfl <| Zn <| gSR <| Za rfl <| Zn <| gSR <| Za rfl <| Zn <| gSR <| Zq (faB 1 rfl rfl Tryz.underlying25 rfl (by exact ti23)) <| Zq (ld 1 rfl rfl ((Foc.here).part (pt_api_Graph_Ops _)) ty23 rfl) <| Zq (len' rfl .rd rfl tu23) <| lBind fun x2 h3 => Ef rfl (mks (R := boolR) 2 rfl rfl h3 tu68 ti4 Zr.bool rfl) fun v4 => Za rfl <| Zn <| gMid (fun (s5 : (List Int)) aa ww => ∃ nv : Nat → Value, Sta (ctx 51 H [] w) [(3, .val (nv 0))] [(18, some ((nv 0), .list i64R 3 s5))] aa ww) ?_ (fun s5 => ?_)
 ·
  refine gSR <| Za rfl <| Zn <| gNew i64R 3 59 <| gNew (arrR 32 u8R) 27 60 <| gLoop (fun (s6 : (List Int) × (List (Vector UInt8 32)) × (List Bool) × Bool) aa ww => ∃ nv : Nat → Value, Sta (ctx 51 H [] w) [(1, .val (ptrTo v1 0)), (3, .val (nv 0)), (4, .val (nv 1)), (5, .val v4), (6, .rd boolR s6.2.2.2)] [(1, some (v1, .box 25 [.rd R_api_Graph a0])), (34, some ((nv 0), .list i64R 3 s6.1)), (58, some ((nv 1), .list (arrR 32 u8R) 27 s6.2.1)), (2, some (v4, .list boolR 4 s6.2.2.1))] aa ww) (fun aa ww h => ⟨nvl [(.slice none 0 0), (.slice none 0 0)], h.sub [1, 59, 60, 2] (Zs rfl rfl rfl rfl <| sS rfl <| sN) (Zi rfl <| Zi rfl <| Zi rfl <| Zi rfl <| rN)⟩) (fun s6 => ?_)
  refine gEx fun n7 => gSeq <| gSR <| Zm rfl <| Zn <| gIf rfl rfl (fun h8 => ?_) (fun h8 => ?_)
  ·
   refine gKn 6 rfl h8 <| Zt <| gBlk <| gSR <| Za rfl <| Zn <| gSR <| Za rfl <| Zn <| gLoop (fun (s9 : Int) aa ww => Sta (ctx 51 H [] w) [(1, .val (ptrTo v1 0)), (3, .val (n7 0)), (4, .val (n7 1)), (5, .val v4), (6, .rd boolR false), (7, .rd i64R s9)] [(1, some (v1, .box 25 [.rd R_api_Graph a0])), (34, some ((n7 0), .list i64R 3 s6.1)), (58, some ((n7 1), .list (arrR 32 u8R) 27 s6.2.1)), (2, some (v4, .list boolR 4 s6.2.2.1))] aa ww) (fun aa ww h => h.sub [1, 34, 58, 2] (Zs rfl rfl rfl rfl <| sS rfl <| sS rfl <| sN) (Zi rfl <| Zi rfl <| Zi rfl <| Zi rfl <| rN)) (fun s9 => ?_)
   refine gSeq <| gSR <| Zm rfl <| Zq (faB 1 rfl rfl Tryz.underlying25 rfl (by exact ti23)) <| Zq (ld 1 rfl rfl ((Foc.here).part (pt_api_Graph_Ops _)) ty23 rfl) <| Zq (len' rfl .rd rfl tu23) <| Zq (I.lss rfl rfl) <| Zn <| gIf rfl rfl (fun h10 => ?_) (fun h10 => ?_)
   ·
    refine Zt <| gSeq <| gBlk <| gMid (fun (s11 : Bool) aa ww => Sta (ctx 51 H [] w) [(1, .val (ptrTo v1 0)), (3, .val (n7 0)), (4, .val (n7 1)), (5, .val v4), (6, .rd boolR false), (7, .rd i64R s9), (34, .rd boolR s11)] [(1, some (v1, .box 25 [.rd R_api_Graph a0])), (34, some ((n7 0), .list i64R 3 s6.1)), (58, some ((n7 1), .list (arrR 32 u8R) 27 s6.2.1)), (2, some (v4, .list boolR 4 s6.2.2.1))] aa ww) ?_ (fun s11 => ?_)
    ·
     refine gReg <| Zm rfl <| Zm rfl <| lBind fun x12 h13 => Zq (ixO 2 rfl rfl rfl h13 tu68 ti4) <| Zq (ld 2 rfl rfl (Foc.el h13) ty4 rfl) <| Zq (not' rfl) <| Zm rfl <| lSplit 25 rfl (fun h14 => ?_) (fun h14 => ?_)
     ·
      refine lKn 24 rfl h14 <| lRun (gd rfl rfl rfl rfl) rfl rfl (mv rfl) <| lRun (gd rfl rfl rfl rfl) rfl rfl (faB 1 rfl rfl Tryz.underlying25 rfl (by exact ti23)) <| lRun (gd rfl rfl rfl rfl) rfl rfl (ld 1 rfl rfl ((Foc.here).part (pt_api_Graph_Ops _)) ty23 rfl) <| lRun (gd rfl rfl rfl rfl) rfl rfl (mv rfl) <| lBind fun x15 h16 => lRun (gd rfl rfl rfl rfl) rfl rfl (ixR rfl rfl h16 tu23 ti65 rfl) <| lRun (gd rfl rfl rfl rfl) rfl rfl (faR rfl (pt_api_Op_Preds _) Tryz.underlying65 rfl rfl (by exact ti22)) <| lRun (gd rfl rfl rfl rfl) rfl rfl (ldR rfl ty22) <| callg [58] [(1, 58)] (gd rfl rfl rfl rfl) rfl Tryz.func48 rfl rfl (braidref09_All_q0_ok _ _ _ _) (aW rfl <| aQ rfl <| aN) (Zi rfl <| rN) fun r17 n18 => Zq (pkT rfl rfl) <| gNil <| eMid (fun aa ww h => h.sub [1, 34, 58, 2] (Zs rfl rfl rfl rfl <| sS rfl <| sS rfl <| sS rfl <| sN) (Zi rfl <| Zi rfl <| Zi rfl <| Zi rfl <| rN))
     ·
      refine lKn 24 rfl h14 <| Zk rfl <| Zk rfl <| Zk rfl <| Zk rfl <| Zk rfl <| Zk rfl <| Zk rfl <| Zk rfl <| Zq (pkF rfl rfl) <| gNil <| eMid (fun aa ww h => h.sub [1, 34, 58, 2] (Zs rfl rfl rfl rfl <| sS rfl <| sS rfl <| sS rfl <| sN) (Zi rfl <| Zi rfl <| Zi rfl <| Zi rfl <| rN))
    ·
     refine gIf rfl rfl (fun h19 => ?_) (fun h19 => ?_)
     ·
      refine gMid (fun (s20 : (List Int) × (List (Vector UInt8 32))) aa ww => ∃ nv : Nat → Value, Sta (ctx 51 H [] w) [(1, .val (ptrTo v1 0)), (3, .val (nv 0)), (4, .val (nv 1)), (5, .val v4), (6, .rd boolR true)] [(1, some (v1, .box 25 [.rd R_api_Graph a0])), (34, some ((nv 0), .list i64R 3 s20.1)), (58, some ((nv 1), .list (arrR 32 u8R) 27 s20.2)), (2, some (v4, .list boolR 4 (s6.2.2.1.set (s9 : Int).toNat true)))] aa ww) ?_ (fun s20 => ?_)
      ·
       refine gRegH [2, 34, 58, 73, 97] mixed rfl rfl <| hTk 0 rfl rfl (mv rfl) <| hTk 1 rfl rfl (mv rfl) <| hTk 2 rfl rfl (mv rfl) <| hTk 3 rfl rfl (mv rfl) <| hTk 6 rfl rfl (mv rfl) <| hTk 7 rfl rfl (faB 1 rfl rfl Tryz.underlying25 rfl (by exact ti22)) <| hTk 8 rfl rfl (ld 1 rfl rfl ((Foc.here).part (pt_api_Graph_IDs _)) ty22 rfl) <| hTk 9 rfl rfl (mv rfl) <| hBind fun x21 h22 => hTk 10 rfl rfl (ixR rfl rfl h22 tu22 ti27 rfl) <| hTk 11 rfl rfl (ldR rfl ty27) <| hAlt [4, 12] (by kernel_rfl) rfl ⟨?_, ?_, trivial⟩
       ·
        refine oDo 4 rfl (gd0 rfl) rfl rfl rfl (lit (R := i64R) ([s9] : List Int) 73 (pP rfl rfl <| pN) rfl tu78 ti3 rfl rfl) (fun _ => rfl) fun v23 => hAlt [5, 12] (by kernel_rfl) rfl ⟨?_, ?_, trivial⟩
        ·
         refine oBind fun x24 h25 => oDo 5 rfl (gd0 rfl) rfl rfl rfl (apn 34 rfl rfl rfl (.own 73 rfl) h25 tu78 ti3 rfl rfl rfl) (fun _ => rfl) fun v26 => Zo 12 rfl rfl rfl (lit (R := (arrR 32 u8R)) ([x21] : List (Vector UInt8 32)) 97 (pP rfl rfl <| pN) rfl tu22 ti27 rfl rfl) (fun _ => rfl) fun v27 => hFrz 97 [47] rfl (fS rfl <| fN) <| hBind fun x28 h29 => Zo 13 rfl rfl rfl (apn 58 rfl rfl rfl .rd h29 tu22 ti27 rfl rfl rfl) (fun _ => rfl) fun v30 => hTakeF 14 rfl (by kernel_rfl) (by kernel_rfl) (by kernel_rfl) (gd0 rfl) rfl rfl flat_val (asg rfl) <| hTakeF 15 rfl (by kernel_rfl) (by kernel_rfl) (by kernel_rfl) (gd0 rfl) rfl rfl flat_val (asg rfl) <| hBind fun x31 h32 => hTk 16 rfl rfl (ixO 2 rfl rfl rfl h32 tu68 ti4) <| hDoS 17 rfl (by kernel_rfl) (gd0 rfl) rfl rfl rfl rfl (sto 2 rfl rfl (Foc.el h32) rfl ti4) <| hTk 18 rfl rfl (asg rfl) <| hDone (by kernel_rfl) <| eMid (fun aa ww h => ⟨nvl [v26, v30], h.sub [1, 34, 58, 2] (Zs rfl rfl rfl rfl <| sS rfl <| sN) (Zi rfl <| Zi rfl <| Zi rfl <| Zi rfl <| rN)⟩)
        ·
         refine oDo 12 rfl (gd0 rfl) rfl rfl rfl (lit (R := (arrR 32 u8R)) ([x21] : List (Vector UInt8 32)) 97 (pP rfl rfl <| pN) rfl tu22 ti27 rfl rfl) (fun _ => rfl) fun v33 => hBind fun x34 h35 => Zo 5 rfl rfl rfl (apn 34 rfl rfl rfl (.own 73 rfl) h35 tu78 ti3 rfl rfl rfl) (fun _ => rfl) fun v36 => hFrz 97 [47] rfl (fS rfl <| fN) <| hBind fun x37 h38 => Zo 13 rfl rfl rfl (apn 58 rfl rfl rfl .rd h38 tu22 ti27 rfl rfl rfl) (fun _ => rfl) fun v39 => hTakeF 14 rfl (by kernel_rfl) (by kernel_rfl) (by kernel_rfl) (gd0 rfl) rfl rfl flat_val (asg rfl) <| hTakeF 15 rfl (by kernel_rfl) (by kernel_rfl) (by kernel_rfl) (gd0 rfl) rfl rfl flat_val (asg rfl) <| hBind fun x40 h41 => hTk 16 rfl rfl (ixO 2 rfl rfl rfl h41 tu68 ti4) <| hDoS 17 rfl (by kernel_rfl) (gd0 rfl) rfl rfl rfl rfl (sto 2 rfl rfl (Foc.el h41) rfl ti4) <| hTk 18 rfl rfl (asg rfl) <| hDone (by kernel_rfl) <| eMid (fun aa ww h => ⟨nvl [v36, v39], h.sub [1, 34, 58, 2] (Zs rfl rfl rfl rfl <| sS rfl <| sN) (Zi rfl <| Zi rfl <| Zi rfl <| Zi rfl <| rN)⟩)
       ·
        refine oDo 12 rfl (gd0 rfl) rfl rfl rfl (lit (R := (arrR 32 u8R)) ([x21] : List (Vector UInt8 32)) 97 (pP rfl rfl <| pN) rfl tu22 ti27 rfl rfl) (fun _ => rfl) fun v42 => Zo 4 rfl rfl rfl (lit (R := i64R) ([s9] : List Int) 73 (pP rfl rfl <| pN) rfl tu78 ti3 rfl rfl) (fun _ => rfl) fun v43 => hBind fun x44 h45 => Zo 5 rfl rfl rfl (apn 34 rfl rfl rfl (.own 73 rfl) h45 tu78 ti3 rfl rfl rfl) (fun _ => rfl) fun v46 => hFrz 97 [47] rfl (fS rfl <| fN) <| hBind fun x47 h48 => Zo 13 rfl rfl rfl (apn 58 rfl rfl rfl .rd h48 tu22 ti27 rfl rfl rfl) (fun _ => rfl) fun v49 => hTakeF 14 rfl (by kernel_rfl) (by kernel_rfl) (by kernel_rfl) (gd0 rfl) rfl rfl flat_val (asg rfl) <| hTakeF 15 rfl (by kernel_rfl) (by kernel_rfl) (by kernel_rfl) (gd0 rfl) rfl rfl flat_val (asg rfl) <| hBind fun x50 h51 => hTk 16 rfl rfl (ixO 2 rfl rfl rfl h51 tu68 ti4) <| hDoS 17 rfl (by kernel_rfl) (gd0 rfl) rfl rfl rfl rfl (sto 2 rfl rfl (Foc.el h51) rfl ti4) <| hTk 18 rfl rfl (asg rfl) <| hDone (by kernel_rfl) <| eMid (fun aa ww h => ⟨nvl [v46, v49], h.sub [1, 34, 58, 2] (Zs rfl rfl rfl rfl <| sS rfl <| sN) (Zi rfl <| Zi rfl <| Zi rfl <| Zi rfl <| rN)⟩)
      ·
       refine gEx fun n52 => gExit <| eBother rfl <| eTexit <| eLeave <| eBlk <| eNext (fun aa ww h => ⟨nvl [(n52 0), (n52 1)], h.sub [1, 34, 58, 2] (Zs rfl rfl rfl rfl <| sS rfl <| sN) (Zi rfl <| Zi rfl <| Zi rfl <| Zi rfl <| rN)⟩)
     ·
      refine gSkip <| eBlk <| eThen <| gReg <| Zm rfl <| Zq (I.add rfl rfl) <| Za rfl <| gNil <| eNext (fun aa ww h => h.sub [1, 34, 58, 2] (Zs rfl rfl rfl rfl <| sS rfl <| sS rfl <| sN) (Zi rfl <| Zi rfl <| Zi rfl <| Zi rfl <| rN))
   ·
    refine gExit <| eTexit <| eLeave <| eBlk <| eNext (fun aa ww h => ⟨nvl [(n7 0), (n7 1)], h.sub [1, 34, 58, 2] (Zs rfl rfl rfl rfl <| sS rfl <| sN) (Zi rfl <| Zi rfl <| Zi rfl <| Zi rfl <| rN)⟩)
  ·
   refine gKn 6 rfl h8 <| gExit <| eTexit <| eLeave <| eMid (fun aa ww h => ⟨nvl [(n7 0)], h.sub [34] (sS rfl <| sN) (Zi rfl <| rN)⟩)
 ·
  refine gEx fun n53 => gSR <| Zm rfl <| Za rfl <| Zn <| gRet <| eRet [(n53 0)] [18] rfl (eE rfl <| eN) (Zi rfl <| rN)
def braidref09_shape_L0 (a0 : api_Graph) (s6 : Int) : Option (Sum (Sum Int Unit) Int) :=
 if decide (s6 < (a0.Ops.length : Int)) then
  idx a0.Ops s6 >>= fun x8 =>
  braidref09_All a0.IDs x8.Preds >>= fun r10 =>
  if !r10 then
   some (.inl (.inl 40))
  else
   some (.inr (w64 (s6 + 1)))
 else
  some (.inl (.inr ()))
def braidref09_shape (a0 : api_Graph) : Option (Int) :=
 braidref04_Rising a0.IDs >>= fun r2 =>
 if !r2 then
  some 32
 else
  orRet (iter (braidref09_shape_L0 a0) 0) fun s5 =>
  braidref09_Order a0 >>= fun r13 =>
  if decide ((r13.length : Int) < (a0.Ops.length : Int)) then
   some 36
  else
   some 0
theorem braidref09_shape_ok (a0 : api_Graph) : Spec Tryz.prog 59 [.rd R_api_Graph a0] [] (braidref09_shape a0) (fun r nv => ⟨[.rd i64R r], []⟩) := by
 refine spec 32 Tryz.func59 rfl rfl rfl fun H w => ?_
 refine gSR <| Eb rfl (bx 1 rfl) fun v1 => Za rfl <| Zn <| gSeq <| gSR <| Zq (faB 1 rfl rfl Tryz.underlying25 rfl (by exact ti22)) <| Zq (ld 1 rfl rfl ((Foc.here).part (pt_api_Graph_IDs _)) ty22 rfl) <| call [] [] rfl Tryz.func76 rfl rfl (braidref04_Rising_ok _) (aQ rfl <| aN) rN fun r2 n3 => Zq (not' rfl) <| Zn <| gIf rfl rfl (fun h4 => ?_) (fun h4 => ?_)
 ·
  refine gSR <| Za rfl <| Zn <| gRet <| eTret <| eRet [] [] rfl (eE rfl <| eN) (rN)
 ·
  refine Zt <| gMidR (fun (s5 : Unit) aa ww => Sta (ctx 32 H [] w) [(1, .val (ptrTo v1 0))] [(1, some (v1, .box 25 [.rd R_api_Graph a0]))] aa ww) ?_ (fun s5 => ?_)
  ·
   refine gSR <| Za rfl <| Zn <| gLoop (fun (s6 : Int) aa ww => Sta (ctx 32 H [] w) [(1, .val (ptrTo v1 0)), (3, .rd i64R s6)] [(1, some (v1, .box 25 [.rd R_api_Graph a0]))] aa ww) (fun aa ww h => h.sub [1] (sS rfl <| sS rfl <| sN) (Zi rfl <| rN)) (fun s6 => ?_)
   refine gSeq <| gSR <| Zm rfl <| Zq (faB 1 rfl rfl Tryz.underlying25 rfl (by exact ti23)) <| Zq (ld 1 rfl rfl ((Foc.here).part (pt_api_Graph_Ops _)) ty23 rfl) <| Zq (len' rfl .rd rfl tu23) <| Zq (I.lss rfl rfl) <| Zn <| gIf rfl rfl (fun h7 => ?_) (fun h7 => ?_)
   ·
    refine Zt <| gSeq <| gBlk <| gSeq <| gRegH [] mixed rfl rfl <| hTk 0 rfl rfl (faB 1 rfl rfl Tryz.underlying25 rfl (by exact ti22)) <| hTk 1 rfl rfl (ld 1 rfl rfl ((Foc.here).part (pt_api_Graph_IDs _)) ty22 rfl) <| hTk 2 rfl rfl (faB 1 rfl rfl Tryz.underlying25 rfl (by exact ti23)) <| hTk 3 rfl rfl (ld 1 rfl rfl ((Foc.here).part (pt_api_Graph_Ops _)) ty23 rfl) <| hTk 4 rfl rfl (mv rfl) <| hBind fun x8 h9 => hTk 5 rfl rfl (ixR rfl rfl h9 tu23 ti65 rfl) <| hTk 6 rfl rfl (faR rfl (pt_api_Op_Preds _) Tryz.underlying65 rfl rfl (by exact ti22)) <| hTk 7 rfl rfl (ldR rfl ty22) <| hCallF 8 [] [] rfl (by kernel_rfl) rfl (gd0 rfl) rfl Tryz.func48 rfl rfl (braidref09_All_ok _ _) (aQ rfl <| aQ rfl <| aN) rN rfl (fun _ _ => flat_bool) fun r10 n11 => hTk 9 rfl rfl (not' rfl) <| hDone (by kernel_rfl) <| eThen <| gIf rfl rfl (fun h12 => ?_) (fun h12 => ?_)
    ·
     refine gSR <| Za rfl <| Zn <| gRet <| eBret <| eTret <| eLret <| eMret <| eRet [] [] rfl (eE rfl <| eN) (rN)
    ·
     refine gSkip <| eBlk <| eThen <| gReg <| Zm rfl <| Zq (I.add rfl rfl) <| Za rfl <| gNil <| eNext (fun aa ww h => h.sub [1] (sS rfl <| sS rfl <| sN) (Zi rfl <| rN))
   ·
    refine gExit <| eTexit <| eLeave <| eMidR (fun aa ww h => h.sub [1] (sS rfl <| sN) (Zi rfl <| rN))
  ·
   refine gSeq <| gSeq <| gRegH [38] mixed rfl rfl <| hTk 0 rfl rfl (ld 1 rfl rfl Foc.here ty25 rfl) <| hTk 3 rfl rfl (faB 1 rfl rfl Tryz.underlying25 rfl (by exact ti23)) <| hTk 4 rfl rfl (ld 1 rfl rfl ((Foc.here).part (pt_api_Graph_Ops _)) ty23 rfl) <| hTk 5 rfl rfl (len' rfl .rd rfl tu23) <| hCallF 1 [] [(100, 38)] rfl (by kernel_rfl) rfl (gd0 rfl) rfl Tryz.func64 rfl rfl (braidref09_Order_ok _) (aQ rfl <| aN) rN rfl (fun _ _ => flat_val) fun r13 n14 => hTakeF 2 rfl (by kernel_rfl) (by kernel_rfl) (by kernel_rfl) (gd0 rfl) rfl rfl flat_num (len' rfl (.own 38 rfl) rfl tu78) <| hTk 6 rfl rfl (I.lss rfl rfl) <| hDone (by kernel_rfl) <| eThen <| gIf rfl rfl (fun h15 => ?_) (fun h15 => ?_)
   ·
    refine gSR <| Za rfl <| Zn <| gRet <| eTret <| eRet [] [] rfl (eE rfl <| eN) (rN)
   ·
    refine Zt <| gSR <| Za rfl <| Zn <| gRet <| eRet [] [] rfl (eE rfl <| eN) (rN)
def braidref09_Check_L0 (a0 : api_Graph) (s5 : Int) : Option (Sum (Sum Int Unit) Int) :=
 if decide (s5 < (a0.Ops.length : Int)) then
  idx a0.Ops s5 >>= fun x7 =>
  braidref06_Verify x7 >>= fun r9 =>
  if r9 != 0 then
   some (.inl (.inl 8))
  else
   idx a0.Ops s5 >>= fun x12 =>
   idx a0.IDs s5 >>= fun x14 =>
   braidref06_Of x12 >>= fun r16 =>
   if !decide (r16 = x14) then
    some (.inl (.inl 8))
   else
    some (.inr (w64 (s5 + 1)))
 else
  some (.inl (.inr ()))
def braidref09_Check (a0 : api_Graph) : Option (Int) :=
 if decide (60 < (a0.Ops.length : Int)) then
  some 4
 else
  if (a0.IDs.length : Int) != (a0.Ops.length : Int) then
   some 8
  else
   orRet (iter (braidref09_Check_L0 a0) 0) fun s4 =>
   braidref09_shape a0 >>= fun r19 =>
   some r19
theorem braidref09_Check_ok (a0 : api_Graph) : Spec Tryz.prog 33 [.rd R_api_Graph a0] [] (braidref09_Check a0) (fun r nv => ⟨[.rd i64R r], []⟩) := by
 refine spec 45 Tryz.func33 rfl rfl rfl fun H w => ?_
 refine gSR <| Eb rfl (bx 1 rfl) fun v1 => Za rfl <| Zn <| gSeq <| gSR <| Zq (faB 1 rfl rfl Tryz.underlying25 rfl (by exact ti23)) <| Zq (ld 1 rfl rfl ((Foc.here).part (pt_api_Graph_Ops _)) ty23 rfl) <| Zq (len' rfl .rd rfl tu23) <| Zq (I.gtr rfl rfl) <| Zn <| gIf rfl rfl (fun h2 => ?_) (fun h2 => ?_)
 ·
  refine gSR <| Za rfl <| Zn <| gRet <| eTret <| eRet [] [] rfl (eE rfl <| eN) (rN)
 ·
  refine Zt <| gSeq <| gSR <| Zq (faB 1 rfl rfl Tryz.underlying25 rfl (by exact ti22)) <| Zq (ld 1 rfl rfl ((Foc.here).part (pt_api_Graph_IDs _)) ty22 rfl) <| Zq (len' rfl .rd rfl tu22) <| Zq (faB 1 rfl rfl Tryz.underlying25 rfl (by exact ti23)) <| Zq (ld 1 rfl rfl ((Foc.here).part (pt_api_Graph_Ops _)) ty23 rfl) <| Zq (len' rfl .rd rfl tu23) <| Zq (I.neq rfl rfl) <| Zn <| gIf rfl rfl (fun h3 => ?_) (fun h3 => ?_)
  ·
   refine gSR <| Za rfl <| Zn <| gRet <| eTret <| eRet [] [] rfl (eE rfl <| eN) (rN)
  ·
   refine Zt <| gMidR (fun (s4 : Unit) aa ww => Sta (ctx 45 H [] w) [(1, .val (ptrTo v1 0))] [(1, some (v1, .box 25 [.rd R_api_Graph a0]))] aa ww) ?_ (fun s4 => ?_)
   ·
    refine gSR <| Za rfl <| Zn <| gLoop (fun (s5 : Int) aa ww => Sta (ctx 45 H [] w) [(1, .val (ptrTo v1 0)), (3, .rd i64R s5)] [(1, some (v1, .box 25 [.rd R_api_Graph a0]))] aa ww) (fun aa ww h => h.sub [1] (sS rfl <| sS rfl <| sN) (Zi rfl <| rN)) (fun s5 => ?_)
    refine gSeq <| gSR <| Zm rfl <| Zq (faB 1 rfl rfl Tryz.underlying25 rfl (by exact ti23)) <| Zq (ld 1 rfl rfl ((Foc.here).part (pt_api_Graph_Ops _)) ty23 rfl) <| Zq (len' rfl .rd rfl tu23) <| Zq (I.lss rfl rfl) <| Zn <| gIf rfl rfl (fun h6 => ?_) (fun h6 => ?_)
    ·
     refine Zt <| gSeq <| gBlk <| gSeq <| gRegH [] mixed rfl rfl <| hTk 0 rfl rfl (faB 1 rfl rfl Tryz.underlying25 rfl (by exact ti23)) <| hTk 1 rfl rfl (ld 1 rfl rfl ((Foc.here).part (pt_api_Graph_Ops _)) ty23 rfl) <| hTk 2 rfl rfl (mv rfl) <| hBind fun x7 h8 => hTk 3 rfl rfl (ixR rfl rfl h8 tu23 ti65 rfl) <| hTk 4 rfl rfl (ldR rfl ty65) <| hCallF 5 [] [] rfl (by kernel_rfl) rfl (gd0 rfl) rfl Tryz.func57 rfl rfl (braidref06_Verify_ok _) (aQ rfl <| aN) rN rfl (fun _ _ => flat_num) fun r9 n10 => hTk 6 rfl rfl (I.neq rfl rfl) <| hTk 7 rfl rfl (mv rfl) <| hIf 29 rfl rfl (fun h11 => ?_) (fun h11 => ?_)
     ·
      refine hKn 28 rfl rfl h11 <| hSk 8 rfl rfl <| hSk 9 rfl rfl <| hSk 10 rfl rfl <| hSk 11 rfl rfl <| hSk 12 rfl rfl <| hSk 13 rfl rfl <| hSk 14 rfl rfl <| hSk 15 rfl rfl <| hSk 16 rfl rfl <| hSk 17 rfl rfl <| hSk 18 rfl rfl <| hSk 19 rfl rfl <| hTk 20 rfl rfl (pkT rfl rfl) <| hDone (by kernel_rfl) <| eThen <| gTrue rfl <| gSR <| Za rfl <| Zn <| gRet <| eBret <| eTret <| eLret <| eMret <| eRet [] [] rfl (eE rfl <| eN) (rN)
     ·
      refine hKn 28 rfl rfl h11 <| hTake 8 rfl (by kernel_rfl) (by kernel_rfl) (by kernel_rfl) (gd rfl rfl rfl rfl) rfl rfl (faB 1 rfl rfl Tryz.underlying25 rfl (by exact ti23)) <| hTake 9 rfl (by kernel_rfl) (by kernel_rfl) (by kernel_rfl) (gd rfl rfl rfl rfl) rfl rfl (ld 1 rfl rfl ((Foc.here).part (pt_api_Graph_Ops _)) ty23 rfl) <| hTake 10 rfl (by kernel_rfl) (by kernel_rfl) (by kernel_rfl) (gd rfl rfl rfl rfl) rfl rfl (mv rfl) <| hBind fun x12 h13 => hTake 11 rfl (by kernel_rfl) (by kernel_rfl) (by kernel_rfl) (gd rfl rfl rfl rfl) rfl rfl (ixR rfl rfl h13 tu23 ti65 rfl) <| hTake 12 rfl (by kernel_rfl) (by kernel_rfl) (by kernel_rfl) (gd rfl rfl rfl rfl) rfl rfl (ldR rfl ty65) <| hTake 14 rfl (by kernel_rfl) (by kernel_rfl) (by kernel_rfl) (gd rfl rfl rfl rfl) rfl rfl (faB 1 rfl rfl Tryz.underlying25 rfl (by exact ti22)) <| hTake 15 rfl (by kernel_rfl) (by kernel_rfl) (by kernel_rfl) (gd rfl rfl rfl rfl) rfl rfl (ld 1 rfl rfl ((Foc.here).part (pt_api_Graph_IDs _)) ty22 rfl) <| hTake 16 rfl (by kernel_rfl) (by kernel_rfl) (by kernel_rfl) (gd rfl rfl rfl rfl) rfl rfl (mv rfl) <| hBind fun x14 h15 => hTake 17 rfl (by kernel_rfl) (by kernel_rfl) (by kernel_rfl) (gd rfl rfl rfl rfl) rfl rfl (ixR rfl rfl h15 tu22 ti27 rfl) <| hTake 18 rfl (by kernel_rfl) (by kernel_rfl) (by kernel_rfl) (gd rfl rfl rfl rfl) rfl rfl (ldR rfl ty27) <| hCallJ 13 [] [] rfl (by kernel_rfl) rfl (gd rfl rfl rfl rfl) rfl Tryz.func58 rfl rfl (braidref06_Of_ok _) (aQ rfl <| aN) rN rfl fun r16 n17 => hTakeF 19 rfl (by kernel_rfl) (by kernel_rfl) (by kernel_rfl) (gd rfl rfl rfl rfl) rfl rfl flat_bool (neA rfl rfl eq27 rfl rfl gq27) <| hTk 20 rfl rfl (pkF rfl rfl) <| hDone (by kernel_rfl) <| eThen <| gIf rfl rfl (fun h18 => ?_) (fun h18 => ?_)
      ·
       refine gKn 41 rfl h18 <| gSR <| Za rfl <| Zn <| gRet <| eBret <| eTret <| eLret <| eMret <| eRet [] [] rfl (eE rfl <| eN) (rN)
      ·
       refine gKn 41 rfl h18 <| gSkip <| eBlk <| eThen <| gReg <| Zm rfl <| Zq (I.add rfl rfl) <| Za rfl <| gNil <| eNext (fun aa ww h => h.sub [1] (sS rfl <| sS rfl <| sN) (Zi rfl <| rN))
    ·
     refine gExit <| eTexit <| eLeave <| eMidR (fun aa ww h => h.sub [1] (sS rfl <| sN) (Zi rfl <| rN))
   ·
    refine gSR <| Zq (ld 1 rfl rfl Foc.here ty25 rfl) <| call [] [] rfl Tryz.func59 rfl rfl (braidref09_shape_ok _) (aQ rfl <| aN) rN fun r19 n20 => Za rfl <| Zn <| gRet <| eRet [] [] rfl (eE rfl <| eN) (rN)
end
section
open Go Go.RowKit
set_option maxRecDepth 100000
def braidref06_Great (a0 : api_Op) : Option (Bool) :=
 if decide (20 < (a0.Preds.length : Int)) then
  some true
 else
  if decide (100 < (a0.Act.Key.length : Int)) then
   some true
  else
   some (decide (100 < (a0.Act.Value.Text.length : Int))) >>= fun y4 =>
   some y4
theorem braidref06_Great_ok (a0 : api_Op) : Spec Tryz.prog 23 [.rd R_api_Op a0] [] (braidref06_Great a0) (fun r nv => ⟨[.rd boolR r], []⟩) := by
 refine spec 22 Tryz.func23 rfl rfl rfl fun H w => ?_
 refine gSR <| Eb rfl (bx 1 rfl) fun v1 => Za rfl <| Zn <| gSR <| Zq (faB 1 rfl rfl Tryz.underlying65 rfl (by exact ti22)) <| Zq (ld 1 rfl rfl ((Foc.here).part (pt_api_Op_Preds _)) ty22 rfl) <| Zq (len' rfl .rd rfl tu22) <| Zq (I.gtr rfl rfl) <| Zm rfl <| lSplit 7 rfl (fun h2 => ?_) (fun h2 => ?_)
 ·
  refine lKn 6 rfl h2 <| Zk rfl <| Zk rfl <| Zk rfl <| Zk rfl <| Zk rfl <| Zq (pkT rfl rfl) <| Zm rfl <| Zk rfl <| Zk rfl <| Zk rfl <| Zk rfl <| Zk rfl <| Zk rfl <| Zq (pkT rfl rfl) <| Za rfl <| Zn <| gRet <| eRet [] [] rfl (eE rfl <| eN) (rN)
 ·
  refine lKn 6 rfl h2 <| lRun (gd rfl rfl rfl rfl) rfl rfl (faB 1 rfl rfl Tryz.underlying65 rfl (by exact ti61)) <| lRun (gd rfl rfl rfl rfl) rfl rfl (faB 1 rfl rfl Tryz.underlying61 rfl (by exact ti9)) <| lRun (gd rfl rfl rfl rfl) rfl rfl (ld 1 rfl rfl (((Foc.here).part (pt_api_Op_Act _)).part (pt_api_Act_Key _)) ty9 rfl) <| lRun (gd rfl rfl rfl rfl) rfl rfl (lenT rfl rfl tu9) <| lRun (gd rfl rfl rfl rfl) rfl rfl (I.gtr rfl rfl) <| Zq (pkF rfl rfl) <| Zm rfl <| lSplit 14 rfl (fun h3 => ?_) (fun h3 => ?_)
  ·
   refine lKn 12 rfl h3 <| lKn 13 rfl h3 <| Zk rfl <| Zk rfl <| Zk rfl <| Zk rfl <| Zk rfl <| Zk rfl <| Zq (pkT rfl rfl) <| Za rfl <| Zn <| gRet <| eRet [] [] rfl (eE rfl <| eN) (rN)
  ·
   refine lKn 12 rfl h3 <| lKn 13 rfl h3 <| lRun (gd rfl rfl rfl rfl) rfl rfl (faB 1 rfl rfl Tryz.underlying65 rfl (by exact ti61)) <| lRun (gd rfl rfl rfl rfl) rfl rfl (faB 1 rfl rfl Tryz.underlying61 rfl (by exact ti59)) <| lRun (gd rfl rfl rfl rfl) rfl rfl (faB 1 rfl rfl Tryz.underlying59 rfl (by exact ti9)) <| lRun (gd rfl rfl rfl rfl) rfl rfl (ld 1 rfl rfl ((((Foc.here).part (pt_api_Op_Act _)).part (pt_api_Act_Value _)).part (pt_api_Value_Text _)) ty9 rfl) <| lRun (gd rfl rfl rfl rfl) rfl rfl (lenT rfl rfl tu9) <| lRun (gd rfl rfl rfl rfl) rfl rfl (I.gtr rfl rfl) <| Zq (pkF rfl rfl) <| Za rfl <| lName 2 rfl fun y4 => Zn <| gRet <| eRet [] [] rfl (eE rfl <| eN) (rN)
def braidref09_Great_L0 (a0 : api_Graph) (s3 : Int) : Option (Sum (Sum Bool Unit) Int) :=
 if decide (s3 < (a0.Ops.length : Int)) then
  if decide (s3 ≤ 70) then
   idx a0.Ops s3 >>= fun x6 =>
   braidref06_Great x6 >>= fun r8 =>
   if r8 then
    some (.inl (.inl true))
   else
    some (.inr (w64 (s3 + 1)))
  else
   some (.inl (.inr ()))
 else
  some (.inl (.inr ()))
def braidref09_Great (a0 : api_Graph) : Option (Bool) :=
 orRet (iter (braidref09_Great_L0 a0) 0) fun s2 =>
 if decide (16 < (a0.Ops.length : Int)) then
  if decide ((a0.Ops.length : Int) ≤ 60) then
   some true
  else
   if decide (70 < (a0.Ops.length : Int)) then
    some true
   else
    some (decide (70 < (a0.IDs.length : Int))) >>= fun y14 =>
    some y14
 else
  if decide (70 < (a0.Ops.length : Int)) then
   some true
  else
   some (decide (70 < (a0.IDs.length : Int))) >>= fun y16 =>
   some y16
theorem braidref09_Great_ok (a0 : api_Graph) : Spec Tryz.prog 5 [.rd R_api_Graph a0] [] (braidref09_Great a0) (fun r nv => ⟨[.rd boolR r], []⟩) := by
 refine spec 43 Tryz.func5 rfl rfl rfl fun H w => ?_
 refine gSR <| Eb rfl (bx 1 rfl) fun v1 => Za rfl <| Zn <| gMidR (fun (s2 : Unit) aa ww => Sta (ctx 43 H [] w) [(1, .val (ptrTo v1 0))] [(1, some (v1, .box 25 [.rd R_api_Graph a0]))] aa ww) ?_ (fun s2 => ?_)
 ·
  refine gSR <| Za rfl <| Zn <| gLoop (fun (s3 : Int) aa ww => Sta (ctx 43 H [] w) [(1, .val (ptrTo v1 0)), (3, .rd i64R s3)] [(1, some (v1, .box 25 [.rd R_api_Graph a0]))] aa ww) (fun aa ww h => h.sub [1] (sS rfl <| sS rfl <| sN) (Zi rfl <| rN)) (fun s3 => ?_)
  refine gSeq <| gSR <| Zm rfl <| Zq (faB 1 rfl rfl Tryz.underlying25 rfl (by exact ti23)) <| Zq (ld 1 rfl rfl ((Foc.here).part (pt_api_Graph_Ops _)) ty23 rfl) <| Zq (len' rfl .rd rfl tu23) <| Zq (I.lss rfl rfl) <| Zm rfl <| lSplit 9 rfl (fun h4 => ?_) (fun h4 => ?_)
  ·
   refine lKn 8 rfl h4 <| lRun (gd rfl rfl rfl rfl) rfl rfl (mv rfl) <| lRun (gd rfl rfl rfl rfl) rfl rfl (I.leq rfl rfl) <| Zq (pkT rfl rfl) <| Zn <| gIf rfl rfl (fun h5 => ?_) (fun h5 => ?_)
   ·
    refine gKn 11 rfl h5 <| Zt <| gSeq <| gBlk <| gSR <| Zq (faB 1 rfl rfl Tryz.underlying25 rfl (by exact ti23)) <| Zq (ld 1 rfl rfl ((Foc.here).part (pt_api_Graph_Ops _)) ty23 rfl) <| Zm rfl <| lBind fun x6 h7 => Zq (ixR rfl rfl h7 tu23 ti65 rfl) <| Zq (ldR rfl ty65) <| call [] [] rfl Tryz.func23 rfl rfl (braidref06_Great_ok _) (aQ rfl <| aN) rN fun r8 n9 => Zn <| gIf rfl rfl (fun h10 => ?_) (fun h10 => ?_)
    ·
     refine gSR <| Za rfl <| Zn <| gRet <| eBret <| eTret <| eLret <| eMret <| eRet [] [] rfl (eE rfl <| eN) (rN)
    ·
     refine gSkip <| eBlk <| eThen <| gReg <| Zm rfl <| Zq (I.add rfl rfl) <| Za rfl <| gNil <| eNext (fun aa ww h => h.sub [1] (sS rfl <| sS rfl <| sN) (Zi rfl <| rN))
   ·
    refine gKn 11 rfl h5 <| gExit <| eTexit <| eLeave <| eMidR (fun aa ww h => h.sub [1] (sS rfl <| sN) (Zi rfl <| rN))
  ·
   refine lKn 8 rfl h4 <| Zk rfl <| Zk rfl <| Zq (pkF rfl rfl) <| Zn <| gFalse rfl <| gExit <| eTexit <| eLeave <| eMidR (fun aa ww h => h.sub [1] (sS rfl <| sN) (Zi rfl <| rN))
 ·
  refine gSR <| Zq (faB 1 rfl rfl Tryz.underlying25 rfl (by exact ti23)) <| Zq (ld 1 rfl rfl ((Foc.here).part (pt_api_Graph_Ops _)) ty23 rfl) <| Zq (len' rfl .rd rfl tu23) <| Zq (I.gtr rfl rfl) <| Zm rfl <| lSplit 25 rfl (fun h11 => ?_) (fun h11 => ?_)
  ·
   refine lKn 24 rfl h11 <| lRun (gd rfl rfl rfl rfl) rfl rfl (faB 1 rfl rfl Tryz.underlying25 rfl (by exact ti23)) <| lRun (gd rfl rfl rfl rfl) rfl rfl (ld 1 rfl rfl ((Foc.here).part (pt_api_Graph_Ops _)) ty23 rfl) <| lRun (gd rfl rfl rfl rfl) rfl rfl (len' rfl .rd rfl tu23) <| lRun (gd rfl rfl rfl rfl) rfl rfl (I.leq rfl rfl) <| Zq (pkT rfl rfl) <| Zm rfl <| lSplit 31 rfl (fun h12 => ?_) (fun h12 => ?_)
   ·
    refine lKn 29 rfl h12 <| lKn 30 rfl h12 <| Zk rfl <| Zk rfl <| Zk rfl <| Zk rfl <| Zq (pkT rfl rfl) <| Zm rfl <| Zk rfl <| Zk rfl <| Zk rfl <| Zk rfl <| Zq (pkT rfl rfl) <| Za rfl <| Zn <| gRet <| eRet [] [] rfl (eE rfl <| eN) (rN)
   ·
    refine lKn 29 rfl h12 <| lKn 30 rfl h12 <| lRun (gd rfl rfl rfl rfl) rfl rfl (faB 1 rfl rfl Tryz.underlying25 rfl (by exact ti23)) <| lRun (gd rfl rfl rfl rfl) rfl rfl (ld 1 rfl rfl ((Foc.here).part (pt_api_Graph_Ops _)) ty23 rfl) <| lRun (gd rfl rfl rfl rfl) rfl rfl (len' rfl .rd rfl tu23) <| lRun (gd rfl rfl rfl rfl) rfl rfl (I.gtr rfl rfl) <| Zq (pkF rfl rfl) <| Zm rfl <| lSplit 37 rfl (fun h13 => ?_) (fun h13 => ?_)
    ·
     refine lKn 35 rfl h13 <| lKn 36 rfl h13 <| Zk rfl <| Zk rfl <| Zk rfl <| Zk rfl <| Zq (pkT rfl rfl) <| Za rfl <| Zn <| gRet <| eRet [] [] rfl (eE rfl <| eN) (rN)
    ·
     refine lKn 35 rfl h13 <| lKn 36 rfl h13 <| lRun (gd rfl rfl rfl rfl) rfl rfl (faB 1 rfl rfl Tryz.underlying25 rfl (by exact ti22)) <| lRun (gd rfl rfl rfl rfl) rfl rfl (ld 1 rfl rfl ((Foc.here).part (pt_api_Graph_IDs _)) ty22 rfl) <| lRun (gd rfl rfl rfl rfl) rfl rfl (len' rfl .rd rfl tu22) <| lRun (gd rfl rfl rfl rfl) rfl rfl (I.gtr rfl rfl) <| Zq (pkF rfl rfl) <| Za rfl <| lName 2 rfl fun y14 => Zn <| gRet <| eRet [] [] rfl (eE rfl <| eN) (rN)
  ·
   refine lKn 24 rfl h11 <| Zk rfl <| Zk rfl <| Zk rfl <| Zk rfl <| Zq (pkF rfl rfl) <| Zm rfl <| lRun (gd rfl rfl rfl rfl) rfl rfl (faB 1 rfl rfl Tryz.underlying25 rfl (by exact ti23)) <| lRun (gd rfl rfl rfl rfl) rfl rfl (ld 1 rfl rfl ((Foc.here).part (pt_api_Graph_Ops _)) ty23 rfl) <| lRun (gd rfl rfl rfl rfl) rfl rfl (len' rfl .rd rfl tu23) <| lRun (gd rfl rfl rfl rfl) rfl rfl (I.gtr rfl rfl) <| Zq (pkF rfl rfl) <| Zm rfl <| lSplit 37 rfl (fun h15 => ?_) (fun h15 => ?_)
   ·
    refine lKn 35 rfl h15 <| lKn 36 rfl h15 <| Zk rfl <| Zk rfl <| Zk rfl <| Zk rfl <| Zq (pkT rfl rfl) <| Za rfl <| Zn <| gRet <| eRet [] [] rfl (eE rfl <| eN) (rN)
   ·
    refine lKn 35 rfl h15 <| lKn 36 rfl h15 <| lRun (gd rfl rfl rfl rfl) rfl rfl (faB 1 rfl rfl Tryz.underlying25 rfl (by exact ti22)) <| lRun (gd rfl rfl rfl rfl) rfl rfl (ld 1 rfl rfl ((Foc.here).part (pt_api_Graph_IDs _)) ty22 rfl) <| lRun (gd rfl rfl rfl rfl) rfl rfl (len' rfl .rd rfl tu22) <| lRun (gd rfl rfl rfl rfl) rfl rfl (I.gtr rfl rfl) <| Zq (pkF rfl rfl) <| Za rfl <| lName 2 rfl fun y16 => Zn <| gRet <| eRet [] [] rfl (eE rfl <| eN) (rN)
def braidref06_Twin (a0 : api_Op) : Option (api_Op) :=
 app 32 ([] : List (Vector UInt8 32)) a0.Preds >>= fun x4 =>
 some (⟨a0.Author, x4, a0.Stamp, a0.Act, a0.Sig⟩ : api_Op)
theorem braidref06_Twin_ok (a0 : api_Op) : Spec Tryz.prog 24 [.rd R_api_Op a0] [] (braidref06_Twin a0) (fun r nv => ⟨[.rd R_api_Op r], []⟩) := by
 refine spec 9 Tryz.func24 rfl rfl rfl fun H w => ?_
 refine gSR <| Eb rfl (bx 1 rfl) fun v1 => Eb rfl (allc 2 ti65 (ZrE.rd (R := u32R) (x := 0) (Zr.num rfl) (ZrE.nilS (ZrE.rd (R := u64R) (x := 0) (Zr.num rfl) (ZrE.rd (R := R_api_Act) (x := (⟨0, [], (⟨0, 0, 0, []⟩ : api_Value)⟩ : api_Act)) zr61 (ZrE.rd (R := R_api_Sig) (x := (⟨0, 0⟩ : api_Sig)) zr63 ZrE.nil rfl) rfl) rfl)) rfl)) fun v2 => Zn <| gSR <| Ef rfl (lit (R := (arrR 32 u8R)) (([] : List (Vector UInt8 32)) : List (Vector UInt8 32)) 3 (pN) rfl tu22 ti27 rfl rfl) fun v3 => Zq (faB 1 rfl rfl Tryz.underlying65 rfl (by exact ti22)) <| Zq (ld 1 rfl rfl ((Foc.here).part (pt_api_Op_Preds _)) ty22 rfl) <| lBind fun x4 h5 => Ef rfl (apn 3 rfl rfl rfl .rd h5 tu22 ti27 rfl rfl rfl) fun v6 => Zq (faB 1 rfl rfl Tryz.underlying65 rfl (by exact ti22)) <| lSpl (R := R_api_Op) 1 rfl (Sp.via (Sp.prod (Sp.prod (Sp.prod (Sp.prod (Sp.prod Sp.unit)))))) <| Es (stoE 1 rfl rfl (Swap.cast (Swap.next fills_rd (Swap.here fills_rd)) rfl) rfl ones_val fills_val ti22) <| Zn <| gSR <| lPow [.rd u32R a0.Author, .rd (sliceR (arrR 32 u8R)) x4, .rd u64R a0.Stamp, .rd R_api_Act a0.Act, .rd R_api_Sig a0.Sig] 1 3 [.rd u32R a0.Author] [.rd u64R a0.Stamp, .rd R_api_Act a0.Act, .rd R_api_Sig a0.Sig] rfl rfl rfl rfl rfl <| lJoi (R := R_api_Op) (⟨a0.Author, x4, a0.Stamp, a0.Act, a0.Sig⟩ : api_Op) 1 rfl (Sp.via (Sp.prod (Sp.prod (Sp.prod (Sp.prod (Sp.prod Sp.unit)))))) <| Zq (ld 1 rfl rfl Foc.here ty65 rfl) <| lPnl (arrR 32 u8R) [.rd u32R 0, .rd (sliceR (arrR 32 u8R)) [], .rd u64R 0, .rd R_api_Act (⟨0, [], (⟨0, 0, 0, []⟩ : api_Value)⟩ : api_Act), .rd R_api_Sig (⟨0, 0⟩ : api_Sig)] 2 [.rd u32R 0] [.rd u64R 0, .rd R_api_Act (⟨0, [], (⟨0, 0, 0, []⟩ : api_Value)⟩ : api_Act), .rd R_api_Sig (⟨0, 0⟩ : api_Sig)] rfl rfl rfl <| lJoi (R := R_api_Op) (⟨0, [], 0, (⟨0, [], (⟨0, 0, 0, []⟩ : api_Value)⟩ : api_Act), (⟨0, 0⟩ : api_Sig)⟩ : api_Op) 2 rfl (Sp.via (Sp.prod (Sp.prod (Sp.prod (Sp.prod (Sp.prod Sp.unit)))))) <| Es (sto 2 rfl rfl Foc.here rfl ti65) <| Zn <| gRet <| eRet [] [] rfl (eC 2 rfl rfl ty65 <| eN) (rN)
def braidref09_Twin_L0 (a0 : api_Graph) (s9 : (List api_Op) × Int) : Option (Sum ((List api_Op)) ((List api_Op) × Int)) :=
 if decide (s9.2 < (a0.Ops.length : Int)) then
  idx a0.Ops s9.2 >>= fun x12 =>
  braidref06_Twin x12 >>= fun r14 =>
  app 112 s9.1 [r14] >>= fun x17 =>
  some (w64 (s9.2 + 1)) >>= fun y20 =>
  some (.inr (x17, y20))
 else
  some (.inl s9.1)
def braidref09_Twin (a0 : api_Graph) : Option (api_Graph) :=
 app 32 ([] : List (Vector UInt8 32)) a0.IDs >>= fun x4 =>
 (iter (braidref09_Twin_L0 a0) ([], 0)) >>= fun s8 =>
 some (⟨x4, s8⟩ : api_Graph)
theorem braidref09_Twin_ok (a0 : api_Graph) : Spec Tryz.prog 6 [.rd R_api_Graph a0] [] (braidref09_Twin a0) (fun r nv => ⟨[.rd R_api_Graph r], []⟩) := by
 refine spec 29 Tryz.func6 rfl rfl rfl fun H w => ?_
 refine gSR <| Eb rfl (bx 1 rfl) fun v1 => Eb rfl (allc 2 ti25 (ZrE.nilS (ZrE.nilS ZrE.nil))) fun v2 => Zn <| gSR <| Ef rfl (lit (R := (arrR 32 u8R)) (([] : List (Vector UInt8 32)) : List (Vector UInt8 32)) 3 (pN) rfl tu22 ti27 rfl rfl) fun v3 => Zq (faB 1 rfl rfl Tryz.underlying25 rfl (by exact ti22)) <| Zq (ld 1 rfl rfl ((Foc.here).part (pt_api_Graph_IDs _)) ty22 rfl) <| lBind fun x4 h5 => Ef rfl (apn 3 rfl rfl rfl .rd h5 tu22 ti27 rfl rfl rfl) fun v6 => Zq (bldE [(0, 1), (1, 1)] Tryz.underlying25 ti25 (ZrE.nilS (ZrE.nilS ZrE.nil)) rfl (BldE.cons rfl rfl fills_val (Swap.cast (Swap.here fills_val) rfl) <| BldE.done rfl)) <| Eb rfl (allc 4 ti25 (ZrE.nilS (ZrE.nilS ZrE.nil))) fun v7 => Es (stoG 4 rfl rfl (fillsL.cast (fillsL.cons fills_val (fillsL.cons fills_val fillsL.nil)) rfl) rfl (onesL.cons ones_val (onesL.cons ones_val onesL.nil)) (fillsL.cast (fillsL.cons fills_val (fillsL.cons fills_val fillsL.nil)) rfl) ti25) <| Zn <| gMid (fun (s8 : (List api_Op)) aa ww => ∃ nv : Nat → Value, Sta (ctx 29 H [] w) [(2, .val (ptrTo v2 0)), (3, .val (ptrTo v7 0))] [(2, some (v2, .box 25 [.val (.slice none 0 0), .val (.slice none 0 0)])), (3, some (v6, .list (arrR 32 u8R) 27 x4)), (32, some ((nv 0), .list R_api_Op 65 s8)), (4, some (v7, .box 25 [.val v6, .val (nv 0)]))] aa ww) ?_ (fun s8 => ?_)
 ·
  refine gSR <| Za rfl <| Zn <| gNew R_api_Op 65 61 <| gLoop (fun (s9 : (List api_Op) × Int) aa ww => ∃ nv : Nat → Value, Sta (ctx 29 H [] w) [(1, .val (ptrTo v1 0)), (2, .val (ptrTo v2 0)), (3, .val (ptrTo v7 0)), (4, .rd i64R s9.2)] [(1, some (v1, .box 25 [.rd R_api_Graph a0])), (2, some (v2, .box 25 [.val (.slice none 0 0), .val (.slice none 0 0)])), (3, some (v6, .list (arrR 32 u8R) 27 x4)), (60, some ((nv 0), .list R_api_Op 65 s9.1)), (4, some (v7, .box 25 [.val v6, .val (nv 0)]))] aa ww) (fun aa ww h => ⟨nvl [(.slice none 0 0)], h.sub [1, 2, 3, 61, 4] (Zs rfl rfl rfl rfl <| sN) (Zi rfl <| Zi rfl <| Zi rfl <| Zi rfl <| Zi rfl <| rN)⟩) (fun s9 => ?_)
  refine gEx fun n10 => gSeq <| gSR <| Zm rfl <| Zq (faB 1 rfl rfl Tryz.underlying25 rfl (by exact ti23)) <| Zq (ld 1 rfl rfl ((Foc.here).part (pt_api_Graph_Ops _)) ty23 rfl) <| Zq (len' rfl .rd rfl tu23) <| Zq (I.lss rfl rfl) <| Zn <| gIf rfl rfl (fun h11 => ?_) (fun h11 => ?_)
  ·
   refine Zt <| gSeq <| gBlk <| gRegH [4, 60, 86] mixed rfl rfl <| hTk 0 rfl rfl (faB 4 rfl rfl Tryz.underlying25 rfl (by exact ti23)) <| hTk 2 rfl rfl (faB 1 rfl rfl Tryz.underlying25 rfl (by exact ti23)) <| hTk 3 rfl rfl (ld 1 rfl rfl ((Foc.here).part (pt_api_Graph_Ops _)) ty23 rfl) <| hTk 4 rfl rfl (mv rfl) <| hBind fun x12 h13 => hTk 5 rfl rfl (ixR rfl rfl h13 tu23 ti65 rfl) <| hTk 6 rfl rfl (ldR rfl ty65) <| hAlt [1, 7] (by kernel_rfl) rfl ⟨?_, ?_, trivial⟩
   ·
    refine oRun 1 rfl (gd0 rfl) rfl rfl flat_val (ldV 4 rfl rfl (At.cast (At.next fills_val At.here) rfl) sc23 rfl) <| hCallJ 7 [] [] rfl (by kernel_rfl) rfl (gd0 rfl) rfl Tryz.func24 rfl rfl (braidref06_Twin_ok _) (aQ rfl <| aN) rN rfl fun r14 n15 => Zo 8 rfl rfl rfl (lit (R := R_api_Op) ([r14] : List api_Op) 86 (pP rfl rfl <| pN) rfl tu23 ti65 rfl rfl) (fun _ => rfl) fun v16 => hFrz 86 [25] rfl (fS rfl <| fN) <| hBind fun x17 h18 => Zo 9 rfl rfl rfl (apn 60 rfl rfl rfl .rd h18 tu23 ti65 rfl rfl rfl) (fun _ => rfl) fun v19 => hTk 10 rfl rfl (faB 4 rfl rfl Tryz.underlying25 rfl (by exact ti23)) <| hDoS 11 rfl (by kernel_rfl) (gd0 rfl) rfl rfl rfl rfl (stoE 4 rfl rfl (Swap.cast (Swap.next fills_val (Swap.here fills_val)) rfl) rfl ones_val fills_val ti23) <| hDone (by kernel_rfl) <| eBlk <| eThen <| gReg <| Zm rfl <| Zq (I.add rfl rfl) <| Za rfl <| lName 4 rfl fun y20 => gNil <| eNext (fun aa ww h => ⟨nvl [v19], h.sub [1, 2, 3, 60, 4] (Zs rfl rfl rfl rfl <| sN) (Zi rfl <| Zi rfl <| Zi rfl <| Zi rfl <| Zi rfl <| rN)⟩)
   ·
    refine oCallJ 7 [] [] rfl rfl (gd0 rfl) rfl Tryz.func24 rfl rfl (braidref06_Twin_ok _) (aQ rfl <| aN) rN rfl fun r21 n22 => hAlt [1, 8] (by kernel_rfl) rfl ⟨?_, ?_, trivial⟩
    ·
     refine oRun 1 rfl (gd0 rfl) rfl rfl flat_val (ldV 4 rfl rfl (At.cast (At.next fills_val At.here) rfl) sc23 rfl) <| Zo 8 rfl rfl rfl (lit (R := R_api_Op) ([r21] : List api_Op) 86 (pP rfl rfl <| pN) rfl tu23 ti65 rfl rfl) (fun _ => rfl) fun v23 => hFrz 86 [25] rfl (fS rfl <| fN) <| hBind fun x24 h25 => Zo 9 rfl rfl rfl (apn 60 rfl rfl rfl .rd h25 tu23 ti65 rfl rfl rfl) (fun _ => rfl) fun v26 => hTk 10 rfl rfl (faB 4 rfl rfl Tryz.underlying25 rfl (by exact ti23)) <| hDoS 11 rfl (by kernel_rfl) (gd0 rfl) rfl rfl rfl rfl (stoE 4 rfl rfl (Swap.cast (Swap.next fills_val (Swap.here fills_val)) rfl) rfl ones_val fills_val ti23) <| hDone (by kernel_rfl) <| eBlk <| eThen <| gReg <| Zm rfl <| Zq (I.add rfl rfl) <| Za rfl <| lName 4 rfl fun y27 => gNil <| eNext (fun aa ww h => ⟨nvl [v26], h.sub [1, 2, 3, 60, 4] (Zs rfl rfl rfl rfl <| sN) (Zi rfl <| Zi rfl <| Zi rfl <| Zi rfl <| Zi rfl <| rN)⟩)
    ·
     refine oDo 8 rfl (gd0 rfl) rfl rfl rfl (lit (R := R_api_Op) ([r21] : List api_Op) 86 (pP rfl rfl <| pN) rfl tu23 ti65 rfl rfl) (fun _ => rfl) fun v28 => hRun 1 rfl (by kernel_rfl) (gd0 rfl) rfl rfl flat_val (ldV 4 rfl rfl (At.cast (At.next fills_val At.here) rfl) sc23 rfl) <| hFrz 86 [25] rfl (fS rfl <| fN) <| hBind fun x29 h30 => Zo 9 rfl rfl rfl (apn 60 rfl rfl rfl .rd h30 tu23 ti65 rfl rfl rfl) (fun _ => rfl) fun v31 => hTk 10 rfl rfl (faB 4 rfl rfl Tryz.underlying25 rfl (by exact ti23)) <| hDoS 11 rfl (by kernel_rfl) (gd0 rfl) rfl rfl rfl rfl (stoE 4 rfl rfl (Swap.cast (Swap.next fills_val (Swap.here fills_val)) rfl) rfl ones_val fills_val ti23) <| hDone (by kernel_rfl) <| eBlk <| eThen <| gReg <| Zm rfl <| Zq (I.add rfl rfl) <| Za rfl <| lName 4 rfl fun y32 => gNil <| eNext (fun aa ww h => ⟨nvl [v31], h.sub [1, 2, 3, 60, 4] (Zs rfl rfl rfl rfl <| sN) (Zi rfl <| Zi rfl <| Zi rfl <| Zi rfl <| Zi rfl <| rN)⟩)
  ·
   refine gExit <| eTexit <| eLeave <| eMid (fun aa ww h => ⟨nvl [(n10 0)], h.sub [2, 3, 60, 4] (sS rfl <| sS rfl <| sN) (Zi rfl <| Zi rfl <| Zi rfl <| Zi rfl <| rN)⟩)
 ·
  refine gEx fun n33 => gSR <| lPow [.rd (sliceR (arrR 32 u8R)) x4, .val (n33 0)] 4 3 [] [.val (n33 0)] rfl rfl rfl rfl rfl <| lPow [.rd (sliceR (arrR 32 u8R)) x4, .rd (sliceR R_api_Op) s8] 4 32 [.rd (sliceR (arrR 32 u8R)) x4] [] rfl rfl rfl rfl rfl <| lJoi (R := R_api_Graph) (⟨x4, s8⟩ : api_Graph) 4 rfl (Sp.via (Sp.prod (Sp.prod Sp.unit))) <| Zq (ld 4 rfl rfl Foc.here ty25 rfl) <| lPnl (arrR 32 u8R) [.rd (sliceR (arrR 32 u8R)) [], .val (.slice none 0 0)] 2 [] [.val (.slice none 0 0)] rfl rfl rfl <| lPnl R_api_Op [.rd (sliceR (arrR 32 u8R)) [], .rd (sliceR R_api_Op) []] 2 [.rd (sliceR (arrR 32 u8R)) []] [] rfl rfl rfl <| lJoi (R := R_api_Graph) (⟨[], []⟩ : api_Graph) 2 rfl (Sp.via (Sp.prod (Sp.prod Sp.unit))) <| Es (sto 2 rfl rfl Foc.here rfl ti25) <| Zn <| gRet <| eRet [] [] rfl (eC 2 rfl rfl ty25 <| eN) (rN)
def ancestry_places_L0 (a0 : api_Graph) (s4 : (List ((Vector UInt8 32) × Int)) × Int) : Option (Sum ((List ((Vector UInt8 32) × Int))) ((List ((Vector UInt8 32) × Int)) × Int)) :=
 if decide (s4.2 < (a0.IDs.length : Int)) then
  idx a0.IDs s4.2 >>= fun x6 =>
  some (.inr (mput s4.1 x6 s4.2, w64 (s4.2 + 1)))
 else
  some (.inl s4.1)
def ancestry_places (a0 : api_Graph) : Option ((List ((Vector UInt8 32) × Int))) :=
 (iter (ancestry_places_L0 a0) (([] : List ((Vector UInt8 32) × Int)), 0)) >>= fun s3 =>
 some s3
theorem ancestry_places_ok (a0 : api_Graph) : Spec Tryz.prog 32 [.rd R_api_Graph a0] [] (ancestry_places a0) (fun r nv => ⟨[.val (nv 0)], [(100, some (nv 0, .map (arrR 32 u8R) i64R r))]⟩) := by
 refine spec 23 Tryz.func32 rfl rfl rfl fun H w => ?_
 refine gSR <| Eb rfl (bx 1 rfl) fun v1 => Za rfl <| Zn <| gSR <| Zq (faB 1 rfl rfl Tryz.underlying25 rfl (by exact ti22)) <| Zq (ld 1 rfl rfl ((Foc.here).part (pt_api_Graph_IDs _)) ty22 rfl) <| Zq (len' rfl .rd rfl tu22) <| Ef rfl (mkm (arrR 32 u8R) i64R 2 (Or.inr ⟨_, _, rfl, rfl⟩) Tryz.underlying74) fun v2 => Za rfl <| Zn <| gMid (fun (s3 : (List ((Vector UInt8 32) × Int))) aa ww => Sta (ctx 23 H [] w) [(3, .val v2)] [(2, some (v2, .map (arrR 32 u8R) i64R s3))] aa ww) ?_ (fun s3 => ?_)
 ·
  refine gSR <| Zq (faB 1 rfl rfl Tryz.underlying25 rfl (by exact ti22)) <| Zq (ld 1 rfl rfl ((Foc.here).part (pt_api_Graph_IDs _)) ty22 rfl) <| Zq (len' rfl .rd rfl tu22) <| Zm rfl <| Zn <| gLoop (fun (s4 : (List ((Vector UInt8 32) × Int)) × Int) aa ww => Sta (ctx 23 H [] w) [(3, .val v2), (11, .rd (sliceR (arrR 32 u8R)) a0.IDs), (12, .rd i64R (a0.IDs.length : Int)), (13, .rd i64R s4.2)] [(2, some (v2, .map (arrR 32 u8R) i64R s4.1))] aa ww) (fun aa ww h => h.sub [2] (Zs rfl rfl rfl rfl <| sN) (Zi rfl <| rN)) (fun s4 => ?_)
  refine gSR <| Zq (I.lss rfl rfl) <| Zn <| gSeq <| gIf rfl rfl (fun h5 => ?_) (fun h5 => ?_)
  ·
   refine Zt <| gSeq <| gBlk <| gSR <| Zm rfl <| lBind fun x6 h7 => Zq (ixR rfl rfl h7 tu22 ti27 rfl) <| Zq (ldR rfl ty27) <| Eb rfl (allc 3 ti27 (.zr (R := (arrR 32 u8R)) (x := (Vector.replicate 32 0)) zr26)) fun v8 => Za rfl <| Es (sto 3 rfl rfl Foc.here rfl ti27) <| Zn <| gReg <| Zm rfl <| Zq (ld 3 rfl rfl Foc.here ty27 rfl) <| Zm rfl <| Es (mup 2 rfl rfl rfl rfl ky27 Tryz.underlying74) <| gNil <| eBlk <| eThen <| gReg <| Zq (I.add rfl rfl) <| Zm rfl <| gNil <| eNext (fun aa ww h => h.sub [2] (Zs rfl rfl rfl rfl <| sN) (Zi rfl <| rN))
  ·
   refine gExit <| eTexit <| eLeave <| eMid (fun aa ww h => h.sub [2] (sS rfl <| sN) (Zi rfl <| rN))
 ·
  refine gSR <| Zm rfl <| Za rfl <| Zn <| gRet <| eRet [v2] [2] rfl (eE rfl <| eN) (Zi rfl <| rN)
def ancestry_reach_1_L0 (c1_0 : List ((Vector UInt8 32) × Int)) (c3_0 : api_Graph) (rec : (Vector UInt8 32) → (List ((Vector UInt8 32) × Int)) → (List Bool) → api_Graph → Option ((List Bool))) (x8 : api_Op) (s10 : (List Bool) × Int) : Option (Sum ((List Bool)) ((List Bool) × Int)) :=
 if decide (s10.2 < (x8.Preds.length : Int)) then
  idx x8.Preds s10.2 >>= fun x12 =>
  rec x12 c1_0 s10.1 c3_0 >>= fun r15 =>
  some (.inr (r15, w64 (s10.2 + 1)))
 else
  some (.inl s10.1)
def ancestry_reach_1_body (rec : (Vector UInt8 32) → (List ((Vector UInt8 32) × Int)) → (List Bool) → api_Graph → Option ((List Bool))) (a0 : Vector UInt8 32) (c1_0 : List ((Vector UInt8 32) × Int)) (c2_0 : List Bool) (c3_0 : api_Graph) : Option ((List Bool)) :=
 some ((mget c1_0 a0).getD 0) >>= fun y2 =>
 idx c2_0 y2 >>= fun x3 =>
 if x3 then
  some c2_0
 else
  idx c2_0 y2 >>= fun x6 =>
  idx c3_0.Ops y2 >>= fun x8 =>
  iter (ancestry_reach_1_L0 c1_0 c3_0 rec x8) (c2_0.set (y2 : Int).toNat true, 0)
def ancestry_reach_1 : Nat → (Vector UInt8 32) → (List ((Vector UInt8 32) × Int)) → (List Bool) → api_Graph → Option ((List Bool))
 | 0, _, _, _, _ => none
 | N + 1, a0, c1_0, c2_0, c3_0 => ancestry_reach_1_body (ancestry_reach_1 N) a0 c1_0 c2_0 c3_0
theorem ancestry_reach_1_st (rec : (Vector UInt8 32) → (List ((Vector UInt8 32) × Int)) → (List Bool) → api_Graph → Option ((List Bool))) (ih : ∀ (a0 : Vector UInt8 32) (p1_0 : Value) (q1_0 : Value) (c1_0 : List ((Vector UInt8 32) × Int)) (p2_0 : Value) (q2_0 : Value) (c2_0 : List Bool) (p3_0 : Value) (c3_0 : api_Graph) (p4_0 : Value), Spec Tryz.prog 51 [.rd (arrR 32 u8R) a0, .val (ptrTo p1_0 0), .val (ptrTo p2_0 0), .val (ptrTo p3_0 0), .val (ptrTo p4_0 0)] [(1, some (p1_0, .box 74 [.val q1_0])), (2, some (q1_0, .map (arrR 32 u8R) i64R c1_0)), (3, some (p2_0, .box 68 [.val q2_0])), (4, some (q2_0, .list boolR 4 c2_0)), (5, some (p3_0, .box 25 [.rd R_api_Graph c3_0])), (6, some (p4_0, .box 92 [.val (.func (.func 51) #[] #[ptrTo p1_0 0, ptrTo p2_0 0, ptrTo p3_0 0, ptrTo p4_0 0])]))] (rec a0 c1_0 c2_0 c3_0) (fun r nv => ⟨[], [(1, some (p1_0, .box 74 [.val q1_0])), (2, some (q1_0, .map (arrR 32 u8R) i64R c1_0)), (3, some (p2_0, .box 68 [.val q2_0])), (4, some (q2_0, .list boolR 4 r)), (5, some (p3_0, .box 25 [.rd R_api_Graph c3_0])), (6, some (p4_0, .box 92 [.val (.func (.func 51) #[] #[ptrTo p1_0 0, ptrTo p2_0 0, ptrTo p3_0 0, ptrTo p4_0 0])]))]⟩)) (a0 : Vector UInt8 32) (p1_0 : Value) (q1_0 : Value) (c1_0 : List ((Vector UInt8 32) × Int)) (p2_0 : Value) (q2_0 : Value) (c2_0 : List Bool) (p3_0 : Value) (c3_0 : api_Graph) (p4_0 : Value) : Spec Tryz.prog 51 [.rd (arrR 32 u8R) a0, .val (ptrTo p1_0 0), .val (ptrTo p2_0 0), .val (ptrTo p3_0 0), .val (ptrTo p4_0 0)] [(1, some (p1_0, .box 74 [.val q1_0])), (2, some (q1_0, .map (arrR 32 u8R) i64R c1_0)), (3, some (p2_0, .box 68 [.val q2_0])), (4, some (q2_0, .list boolR 4 c2_0)), (5, some (p3_0, .box 25 [.rd R_api_Graph c3_0])), (6, some (p4_0, .box 92 [.val (.func (.func 51) #[] #[ptrTo p1_0 0, ptrTo p2_0 0, ptrTo p3_0 0, ptrTo p4_0 0])]))] (ancestry_reach_1_body rec a0 c1_0 c2_0 c3_0) (fun r nv => ⟨[], [(1, some (p1_0, .box 74 [.val q1_0])), (2, some (q1_0, .map (arrR 32 u8R) i64R c1_0)), (3, some (p2_0, .box 68 [.val q2_0])), (4, some (q2_0, .list boolR 4 r)), (5, some (p3_0, .box 25 [.rd R_api_Graph c3_0])), (6, some (p4_0, .box 92 [.val (.func (.func 51) #[] #[ptrTo p1_0 0, ptrTo p2_0 0, ptrTo p3_0 0, ptrTo p4_0 0])]))]⟩) := by
 refine spec 34 Tryz.func51 rfl rfl rfl fun H w => ?_
 refine gSR <| Eb rfl (bx 7 rfl) fun v1 => Zn <| gSR <| Zq (ldV 1 rfl rfl .here sc74 rfl) <| Zq (ld 7 rfl rfl Foc.here ty27 rfl) <| Zq (mlk rfl (.own 2 rfl rfl) rfl ky27 Tryz.underlying74 ti3 (Zr.num rfl) rfl) <| Za rfl <| lName 6 rfl fun y2 => Zn <| gSeq <| gSR <| Zq (ldV 3 rfl rfl .here sc68 rfl) <| Zm rfl <| lBind fun x3 h4 => Zq (ixO 4 rfl rfl rfl h4 tu68 ti4) <| Zq (ld 4 rfl rfl (Foc.el h4) ty4 rfl) <| Zn <| gIf rfl rfl (fun h5 => ?_) (fun h5 => ?_)
 ·
  refine gRet <| eTret <| eRet [] [1, 2, 3, 4, 5, 6] rfl (eN) (Zi rfl <| Zi rfl <| Zi rfl <| Zi rfl <| Zi rfl <| Zi rfl <| rN)
 ·
  refine Zt <| gSR <| Zq (ldV 3 rfl rfl .here sc68 rfl) <| Zm rfl <| lBind fun x6 h7 => Zq (ixO 4 rfl rfl rfl h7 tu68 ti4) <| Es (sto 4 rfl rfl (Foc.el h7) rfl ti4) <| Zn <| gSR <| Zq (faB 5 rfl rfl Tryz.underlying25 rfl (by exact ti23)) <| Zq (ld 5 rfl rfl ((Foc.here).part (pt_api_Graph_Ops _)) ty23 rfl) <| Zm rfl <| lBind fun x8 h9 => Zq (ixR rfl rfl h9 tu23 ti65 rfl) <| Zq (faR rfl (pt_api_Op_Preds _) Tryz.underlying65 rfl rfl (by exact ti22)) <| Zq (ldR rfl ty22) <| Zq (len' rfl .rd rfl tu22) <| Zm rfl <| Zn <| gLoop (fun (s10 : (List Bool) × Int) aa ww => Sta (ctx 34 H [(1, some (p1_0, .box 74 [.val q1_0])), (2, some (q1_0, .map (arrR 32 u8R) i64R c1_0)), (3, some (p2_0, .box 68 [.val q2_0])), (4, some (q2_0, .list boolR 4 c2_0)), (5, some (p3_0, .box 25 [.rd R_api_Graph c3_0])), (6, some (p4_0, .box 92 [.val (.func (.func 51) #[] #[ptrTo p1_0 0, ptrTo p2_0 0, ptrTo p3_0 0, ptrTo p4_0 0])]))] w) [(4, .val (ptrTo p4_0 0)), (24, .rd (sliceR (arrR 32 u8R)) x8.Preds), (25, .rd i64R (x8.Preds.length : Int)), (26, .rd i64R s10.2)] [(6, some (p4_0, .box 92 [.val (.func (.func 51) #[] #[ptrTo p1_0 0, ptrTo p2_0 0, ptrTo p3_0 0, ptrTo p4_0 0])])), (2, some (q1_0, .map (arrR 32 u8R) i64R c1_0)), (1, some (p1_0, .box 74 [.val q1_0])), (4, some (q2_0, .list boolR 4 s10.1)), (3, some (p2_0, .box 68 [.val q2_0])), (5, some (p3_0, .box 25 [.rd R_api_Graph c3_0]))] aa ww) (fun aa ww h => h.sub [6, 2, 1, 4, 3, 5] (Zs rfl rfl rfl rfl <| sN) (Zi rfl <| Zi rfl <| Zi rfl <| Zi rfl <| Zi rfl <| Zi rfl <| rN)) (fun s10 => ?_)
  refine gSR <| Zq (I.lss rfl rfl) <| Zn <| gSeq <| gIf rfl rfl (fun h11 => ?_) (fun h11 => ?_)
  ·
   refine Zt <| gSeq <| gBlk <| gSR <| lBind fun x12 h13 => Zq (ixR rfl rfl h13 tu22 ti27 rfl) <| Zq (ldR rfl ty27) <| Eb rfl (allc 8 ti27 (.zr (R := (arrR 32 u8R)) (x := (Vector.replicate 32 0)) zr26)) fun v14 => Es (sto 8 rfl rfl Foc.here rfl ti27) <| Zn <| gReg <| Zq (ldV 6 rfl rfl .here sc92 rfl) <| Zq (ld 8 rfl rfl Foc.here ty27 rfl) <| callv [1, 2, 3, 4, 5, 6] [(1, 1), (2, 2), (3, 3), (4, 4), (5, 5), (6, 6)] (gd0 rfl) rfl rfl Tryz.func51 rfl rfl (ih _ _ _ _ _ _ _ _ _ _) (aQ rfl <| aN) (cQ 1 rfl <| cQ 3 rfl <| cQ 5 rfl <| cQ 6 rfl <| cN) (Zi rfl <| Zi rfl <| Zi rfl <| Zi rfl <| Zi rfl <| Zi rfl <| rN) fun r15 n16 => gNil <| eBlk <| eThen <| gReg <| Zq (I.add rfl rfl) <| Zm rfl <| gNil <| eNext (fun aa ww h => h.sub [6, 2, 1, 4, 3, 5] (Zs rfl rfl rfl rfl <| sN) (Zi rfl <| Zi rfl <| Zi rfl <| Zi rfl <| Zi rfl <| Zi rfl <| rN))
  ·
   refine gExit <| eTexit <| eLeave <| eRet [] [1, 2, 3, 4, 5, 6] rfl (eN) (Zi rfl <| Zi rfl <| Zi rfl <| Zi rfl <| Zi rfl <| Zi rfl <| rN)
theorem ancestry_reach_1_okN : ∀ (N : Nat) (a0 : Vector UInt8 32) (p1_0 : Value) (q1_0 : Value) (c1_0 : List ((Vector UInt8 32) × Int)) (p2_0 : Value) (q2_0 : Value) (c2_0 : List Bool) (p3_0 : Value) (c3_0 : api_Graph) (p4_0 : Value), Spec Tryz.prog 51 [.rd (arrR 32 u8R) a0, .val (ptrTo p1_0 0), .val (ptrTo p2_0 0), .val (ptrTo p3_0 0), .val (ptrTo p4_0 0)] [(1, some (p1_0, .box 74 [.val q1_0])), (2, some (q1_0, .map (arrR 32 u8R) i64R c1_0)), (3, some (p2_0, .box 68 [.val q2_0])), (4, some (q2_0, .list boolR 4 c2_0)), (5, some (p3_0, .box 25 [.rd R_api_Graph c3_0])), (6, some (p4_0, .box 92 [.val (.func (.func 51) #[] #[ptrTo p1_0 0, ptrTo p2_0 0, ptrTo p3_0 0, ptrTo p4_0 0])]))] (ancestry_reach_1 N a0 c1_0 c2_0 c3_0) (fun r nv => ⟨[], [(1, some (p1_0, .box 74 [.val q1_0])), (2, some (q1_0, .map (arrR 32 u8R) i64R c1_0)), (3, some (p2_0, .box 68 [.val q2_0])), (4, some (q2_0, .list boolR 4 r)), (5, some (p3_0, .box 25 [.rd R_api_Graph c3_0])), (6, some (p4_0, .box 92 [.val (.func (.func 51) #[] #[ptrTo p1_0 0, ptrTo p2_0 0, ptrTo p3_0 0, ptrTo p4_0 0])]))]⟩)
 | 0, a0, p1_0, q1_0, c1_0, p2_0, q2_0, c2_0, p3_0, c3_0, p4_0 => fun r hr => absurd hr (by simp [ancestry_reach_1])
 | N + 1, a0, p1_0, q1_0, c1_0, p2_0, q2_0, c2_0, p3_0, c3_0, p4_0 => ancestry_reach_1_st (ancestry_reach_1 N) (ancestry_reach_1_okN N) a0 p1_0 q1_0 c1_0 p2_0 q2_0 c2_0 p3_0 c3_0 p4_0
theorem ancestry_reach_1_ok (a0 : Vector UInt8 32) (p1_0 : Value) (q1_0 : Value) (c1_0 : List ((Vector UInt8 32) × Int)) (p2_0 : Value) (q2_0 : Value) (c2_0 : List Bool) (p3_0 : Value) (c3_0 : api_Graph) (p4_0 : Value) : Spec Tryz.prog 51 [.rd (arrR 32 u8R) a0, .val (ptrTo p1_0 0), .val (ptrTo p2_0 0), .val (ptrTo p3_0 0), .val (ptrTo p4_0 0)] [(1, some (p1_0, .box 74 [.val q1_0])), (2, some (q1_0, .map (arrR 32 u8R) i64R c1_0)), (3, some (p2_0, .box 68 [.val q2_0])), (4, some (q2_0, .list boolR 4 c2_0)), (5, some (p3_0, .box 25 [.rd R_api_Graph c3_0])), (6, some (p4_0, .box 92 [.val (.func (.func 51) #[] #[ptrTo p1_0 0, ptrTo p2_0 0, ptrTo p3_0 0, ptrTo p4_0 0])]))] (ancestry_reach_1 1000 a0 c1_0 c2_0 c3_0) (fun r nv => ⟨[], [(1, some (p1_0, .box 74 [.val q1_0])), (2, some (q1_0, .map (arrR 32 u8R) i64R c1_0)), (3, some (p2_0, .box 68 [.val q2_0])), (4, some (q2_0, .list boolR 4 r)), (5, some (p3_0, .box 25 [.rd R_api_Graph c3_0])), (6, some (p4_0, .box 92 [.val (.func (.func 51) #[] #[ptrTo p1_0 0, ptrTo p2_0 0, ptrTo p3_0 0, ptrTo p4_0 0])]))]⟩) := ancestry_reach_1_okN 1000 a0 p1_0 q1_0 c1_0 p2_0 q2_0 c2_0 p3_0 c3_0 p4_0
def ancestry_reach_L0 (a0 : api_Graph) (a1 : List (Vector UInt8 32)) (r2 : (List ((Vector UInt8 32) × Int))) (s11 : (List Bool) × Int) : Option (Sum ((List Bool)) ((List Bool) × Int)) :=
 if decide (s11.2 < (a1.length : Int)) then
  idx a1 s11.2 >>= fun x13 =>
  (ancestry_reach_1 1000) x13 r2 s11.1 a0 >>= fun r16 =>
  some (.inr (r16, w64 (s11.2 + 1)))
 else
  some (.inl s11.1)
def ancestry_reach (a0 : api_Graph) (a1 : List (Vector UInt8 32)) : Option ((List Bool)) :=
 ancestry_places a0 >>= fun r2 =>
 mkn 1 false (a0.IDs.length : Int) >>= fun x5 =>
 (iter (ancestry_reach_L0 a0 a1 r2) (x5, 0)) >>= fun s10 =>
 some s10
theorem ancestry_reach_ok (a0 : api_Graph) (a1 : List (Vector UInt8 32)) : Spec Tryz.prog 27 [.rd R_api_Graph a0, .rd (sliceR (arrR 32 u8R)) a1] [] (ancestry_reach a0 a1) (fun r nv => ⟨[.val (nv 0)], [(100, some (nv 0, .list boolR 4 r))]⟩) := by
 refine spec 28 Tryz.func27 rfl rfl rfl fun H w => ?_
 refine gSR <| Eb rfl (bx 1 rfl) fun v1 => Za rfl <| Zn <| gSR <| Zq (ld 1 rfl rfl Foc.here ty25 rfl) <| call [] [(100, 2)] rfl Tryz.func32 rfl rfl (ancestry_places_ok _) (aQ rfl <| aN) rN fun r2 n3 => Eb rfl (allc 3 ti74 (.val rfl)) fun v4 => Es (stoE 3 rfl rfl (.here fills_val) rfl ones_val fills_val ti74) <| Zn <| gSR <| Zq (faB 1 rfl rfl Tryz.underlying25 rfl (by exact ti22)) <| Zq (ld 1 rfl rfl ((Foc.here).part (pt_api_Graph_IDs _)) ty22 rfl) <| Zq (len' rfl .rd rfl tu22) <| lBind fun x5 h6 => Ef rfl (mks (R := boolR) 4 rfl rfl h6 tu68 ti4 Zr.bool rfl) fun v7 => Eb rfl (allc 5 ti68 (.val rfl)) fun v8 => Es (stoE 5 rfl rfl (.here fills_val) rfl ones_val fills_val ti68) <| Zn <| gSR <| Eb rfl (allc 6 ti92 (.val rfl)) fun v9 => Zn <| gSR <| Zq (mkf mp0 (mp4 rfl rfl rfl rfl)) <| Es (stoE 6 rfl rfl (.here fills_val) rfl ones_val fills_val ti92) <| Zn <| gMid (fun (s10 : (List Bool)) aa ww => Sta (ctx 28 H [] w) [(6, .val (ptrTo v8 0))] [(4, some (v7, .list boolR 4 s10)), (5, some (v8, .box 68 [.val v7]))] aa ww) ?_ (fun s10 => ?_)
 ·
  refine gSR <| Zm rfl <| Zq (len' rfl .rd rfl tu22) <| Zm rfl <| Zn <| gLoop (fun (s11 : (List Bool) × Int) aa ww => Sta (ctx 28 H [] w) [(6, .val (ptrTo v8 0)), (7, .val (ptrTo v9 0)), (17, .rd (sliceR (arrR 32 u8R)) a1), (18, .rd i64R (a1.length : Int)), (19, .rd i64R s11.2)] [(4, some (v7, .list boolR 4 s11.1)), (5, some (v8, .box 68 [.val v7])), (6, some (v9, .box 92 [.val (.func (.func 51) #[] #[ptrTo v4 0, ptrTo v8 0, ptrTo v1 0, ptrTo v9 0])])), (2, some ((n3 0), .map (arrR 32 u8R) i64R r2)), (3, some (v4, .box 74 [.val (n3 0)])), (1, some (v1, .box 25 [.rd R_api_Graph a0]))] aa ww) (fun aa ww h => h.sub [4, 5, 6, 2, 3, 1] (Zs rfl rfl rfl rfl <| sS rfl <| sN) (Zi rfl <| Zi rfl <| Zi rfl <| Zi rfl <| Zi rfl <| Zi rfl <| rN)) (fun s11 => ?_)
  refine gSR <| Zq (I.lss rfl rfl) <| Zn <| gSeq <| gIf rfl rfl (fun h12 => ?_) (fun h12 => ?_)
  ·
   refine Zt <| gSeq <| gBlk <| gSR <| lBind fun x13 h14 => Zq (ixR rfl rfl h14 tu22 ti27 rfl) <| Zq (ldR rfl ty27) <| Eb rfl (allc 7 ti27 (.zr (R := (arrR 32 u8R)) (x := (Vector.replicate 32 0)) zr26)) fun v15 => Es (sto 7 rfl rfl Foc.here rfl ti27) <| Zn <| gReg <| Zq (ldV 6 rfl rfl .here sc92 rfl) <| Zq (ld 7 rfl rfl Foc.here ty27 rfl) <| callv [3, 2, 5, 4, 1, 6] [(1, 3), (2, 2), (3, 5), (4, 4), (5, 1), (6, 6)] (gd0 rfl) rfl rfl Tryz.func51 rfl rfl (ancestry_reach_1_ok _ _ _ _ _ _ _ _ _ _) (aQ rfl <| aN) (cQ 3 rfl <| cQ 5 rfl <| cQ 1 rfl <| cQ 6 rfl <| cN) (Zi rfl <| Zi rfl <| Zi rfl <| Zi rfl <| Zi rfl <| Zi rfl <| rN) fun r16 n17 => gNil <| eBlk <| eThen <| gReg <| Zq (I.add rfl rfl) <| Zm rfl <| gNil <| eNext (fun aa ww h => h.sub [4, 5, 6, 2, 3, 1] (Zs rfl rfl rfl rfl <| sS rfl <| sN) (Zi rfl <| Zi rfl <| Zi rfl <| Zi rfl <| Zi rfl <| Zi rfl <| rN))
  ·
   refine gExit <| eTexit <| eLeave <| eMid (fun aa ww h => h.sub [4, 5] (sS rfl <| sN) (Zi rfl <| Zi rfl <| rN))
 ·
  refine gSR <| Zq (ldV 5 rfl rfl .here sc68 rfl) <| Za rfl <| Zn <| gRet <| eRet [v7] [4] rfl (eE rfl <| eN) (Zi rfl <| rN)
def braidref10_preds (a0 : api_Graph) (a1 : Vector UInt8 32) : Option ((List (Vector UInt8 32))) :=
 braidref09_At a0.IDs a1 >>= fun r3 =>
 idx a0.Ops r3 >>= fun x5 =>
 some x5.Preds
theorem braidref10_preds_ok (a0 : api_Graph) (a1 : Vector UInt8 32) : Spec Tryz.prog 52 [.rd R_api_Graph a0, .rd (arrR 32 u8R) a1] [] (braidref10_preds a0 a1) (fun r nv => ⟨[.rd (sliceR (arrR 32 u8R)) r], []⟩) := by
 refine spec 14 Tryz.func52 rfl rfl rfl fun H w => ?_
 refine gSR <| Eb rfl (bx 1 rfl) fun v1 => Eb rfl (bx 2 rfl) fun v2 => Za rfl <| Zn <| gSeq <| gRegH [] mixed rfl rfl <| hTk 0 rfl rfl (faB 1 rfl rfl Tryz.underlying25 rfl (by exact ti23)) <| hTk 1 rfl rfl (ld 1 rfl rfl ((Foc.here).part (pt_api_Graph_Ops _)) ty23 rfl) <| hTk 2 rfl rfl (faB 1 rfl rfl Tryz.underlying25 rfl (by exact ti22)) <| hTk 3 rfl rfl (ld 1 rfl rfl ((Foc.here).part (pt_api_Graph_IDs _)) ty22 rfl) <| hTk 4 rfl rfl (ld 2 rfl rfl Foc.here ty27 rfl) <| hCallF 5 [] [] rfl (by kernel_rfl) rfl (gd0 rfl) rfl Tryz.func30 rfl rfl (braidref09_At_ok _ _) (aQ rfl <| aQ rfl <| aN) rN rfl (fun _ _ => flat_num) fun r3 n4 => hBind fun x5 h6 => hTk 6 rfl rfl (ixR rfl rfl h6 tu23 ti65 rfl) <| hTk 7 rfl rfl (faR rfl (pt_api_Op_Preds _) Tryz.underlying65 rfl rfl (by exact ti22)) <| hTk 8 rfl rfl (ldR rfl ty22) <| hTk 9 rfl rfl (asg rfl) <| hDone (by kernel_rfl) <| eThen <| gRet <| eRet [] [] rfl (eE rfl <| eN) (rN)
def braidref10_Sorted_L2 (a0 : List (Vector UInt8 32)) (s2 : (List (Vector UInt8 32)) × Int) (s6 : Int) : Option (Sum Int Int) :=
 if decide (s6 < (s2.1.length : Int)) then
  idx s2.1 s6 >>= fun x8 =>
  idx a0 s2.2 >>= fun x10 =>
  braidref01_Cmp x8 x10 >>= fun r12 =>
  if decide (r12 < 0) then
   some (.inr (w64 (s6 + 1)))
  else
   some (.inl s6)
 else
  some (.inl s6)
def braidref10_Sorted_L0 (a0 : List (Vector UInt8 32)) (s2 : (List (Vector UInt8 32)) × Int) : Option (Sum ((List (Vector UInt8 32))) ((List (Vector UInt8 32)) × Int)) :=
 if decide (s2.2 < (a0.length : Int)) then
  (iter (braidref10_Sorted_L2 a0 s2) 0) >>= fun s5 =>
  (if s5 == (s2.1.length : Int) then
   some true
  else
   idx s2.1 s5 >>= fun x17 =>
   idx a0 s2.2 >>= fun x19 =>
   some (!decide (x17 = x19))) >>= fun s15 =>
  if s15 then
   cut s2.1 0 s5 >>= fun x22 =>
   idx a0 s2.2 >>= fun x24 =>
   cut s2.1 s5 (s2.1.length : Int) >>= fun x26 =>
   app 32 ([] : List (Vector UInt8 32)) x22 >>= fun x29 =>
   app 32 x29 [x24] >>= fun x33 =>
   app 32 x33 x26 >>= fun x36 =>
   some (w64 (s2.2 + 1)) >>= fun y39 =>
   some (.inr (x36, y39))
  else
   some (w64 (s2.2 + 1)) >>= fun y63 =>
   some (.inr (s2.1, y63))
 else
  some (.inl s2.1)
def braidref10_Sorted (a0 : List (Vector UInt8 32)) : Option ((List (Vector UInt8 32))) :=
 (iter (braidref10_Sorted_L0 a0) ([], 0)) >>= fun s1 =>
 some s1
theorem braidref10_Sorted_ok (a0 : List (Vector UInt8 32)) : Spec Tryz.prog 53 [.rd (sliceR (arrR 32 u8R)) a0] [] (braidref10_Sorted a0) (fun r nv => ⟨[.val (nv 0)], [(100, some (nv 0, .list (arrR 32 u8R) 27 r))]⟩) := by
 refine spec 61 Tryz.func53 rfl rfl rfl fun H w => ?_
 refine gSR <| Za rfl <| Zn <| gSR <| Za rfl <| Zn <| gMid (fun (s1 : (List (Vector UInt8 32))) aa ww => ∃ nv : Nat → Value, Sta (ctx 61 H [] w) [(3, .val (nv 0))] [(53, some ((nv 0), .list (arrR 32 u8R) 27 s1))] aa ww) ?_ (fun s1 => ?_)
 ·
  refine gSR <| Za rfl <| Zn <| gNew (arrR 32 u8R) 27 107 <| gLoop (fun (s2 : (List (Vector UInt8 32)) × Int) aa ww => ∃ nv : Nat → Value, Sta (ctx 61 H [] w) [(0, .rd (sliceR (arrR 32 u8R)) a0), (3, .val (nv 0)), (4, .rd i64R s2.2)] [(106, some ((nv 0), .list (arrR 32 u8R) 27 s2.1))] aa ww) (fun aa ww h => ⟨nvl [(.slice none 0 0)], h.sub [107] (sS rfl <| sS rfl <| sS rfl <| sN) (Zi rfl <| rN)⟩) (fun s2 => ?_)
  refine gEx fun n3 => gSeq <| gSR <| Zm rfl <| Zm rfl <| Zq (len' rfl .rd rfl tu22) <| Zq (I.lss rfl rfl) <| Zn <| gIf rfl rfl (fun h4 => ?_) (fun h4 => ?_)
  ·
   refine Zt <| gSeq <| gBlk <| gSR <| Za rfl <| Zn <| gMid (fun (s5 : Int) aa ww => Sta (ctx 61 H [] w) [(0, .rd (sliceR (arrR 32 u8R)) a0), (3, .val (n3 0)), (4, .rd i64R s2.2), (5, .rd i64R s5)] [(106, some ((n3 0), .list (arrR 32 u8R) 27 s2.1))] aa ww) ?_ (fun s5 => ?_)
   ·
    refine gLoop (fun (s6 : Int) aa ww => Sta (ctx 61 H [] w) [(0, .rd (sliceR (arrR 32 u8R)) a0), (3, .val (n3 0)), (4, .rd i64R s2.2), (5, .rd i64R s6)] [(106, some ((n3 0), .list (arrR 32 u8R) 27 s2.1))] aa ww) (fun aa ww h => h.sub [106] (Zs rfl rfl rfl rfl <| sN) (Zi rfl <| rN)) (fun s6 => ?_)
    refine gSeq <| gSeq <| gRegH [] mixed rfl rfl <| hTk 0 rfl rfl (mv rfl) <| hTk 1 rfl rfl (mv rfl) <| hTk 2 rfl rfl (len' rfl (.own 106 rfl) rfl tu22) <| hTk 3 rfl rfl (I.lss rfl rfl) <| hTk 4 rfl rfl (mv rfl) <| hIf 16 rfl rfl (fun h7 => ?_) (fun h7 => ?_)
    ·
     refine hKn 15 rfl rfl h7 <| hTake 5 rfl (by kernel_rfl) (by kernel_rfl) (by kernel_rfl) (gd rfl rfl rfl rfl) rfl rfl (mv rfl) <| hTake 6 rfl (by kernel_rfl) (by kernel_rfl) (by kernel_rfl) (gd rfl rfl rfl rfl) rfl rfl (mv rfl) <| hBind fun x8 h9 => hTake 7 rfl (by kernel_rfl) (by kernel_rfl) (by kernel_rfl) (gd rfl rfl rfl rfl) rfl rfl (ixO 106 rfl rfl rfl h9 tu22 ti27) <| hTake 8 rfl (by kernel_rfl) (by kernel_rfl) (by kernel_rfl) (gd rfl rfl rfl rfl) rfl rfl (ld 106 rfl rfl (Foc.el h9) ty27 rfl) <| hTake 9 rfl (by kernel_rfl) (by kernel_rfl) (by kernel_rfl) (gd rfl rfl rfl rfl) rfl rfl (mv rfl) <| hTake 10 rfl (by kernel_rfl) (by kernel_rfl) (by kernel_rfl) (gd rfl rfl rfl rfl) rfl rfl (mv rfl) <| hBind fun x10 h11 => hTake 11 rfl (by kernel_rfl) (by kernel_rfl) (by kernel_rfl) (gd rfl rfl rfl rfl) rfl rfl (ixR rfl rfl h11 tu22 ti27 rfl) <| hTake 12 rfl (by kernel_rfl) (by kernel_rfl) (by kernel_rfl) (gd rfl rfl rfl rfl) rfl rfl (ldR rfl ty27) <| hCallF 13 [] [] rfl (by kernel_rfl) rfl (gd rfl rfl rfl rfl) rfl Tryz.func65 rfl rfl (braidref01_Cmp_ok _ _) (aQ rfl <| aQ rfl <| aN) rN rfl (fun _ _ => flat_num) fun r12 n13 => hTake 14 rfl (by kernel_rfl) (by kernel_rfl) (by kernel_rfl) (gd rfl rfl rfl rfl) rfl rfl (I.lss rfl rfl) <| hTk 15 rfl rfl (pkT rfl rfl) <| hDone (by kernel_rfl) <| eThen <| gIf rfl rfl (fun h14 => ?_) (fun h14 => ?_)
     ·
      refine gKn 26 rfl h14 <| Zt <| gBlk <| gReg <| Zm rfl <| Zq (I.add rfl rfl) <| Za rfl <| gNil <| eBlk <| eNext (fun aa ww h => h.sub [106] (Zs rfl rfl rfl rfl <| sN) (Zi rfl <| rN))
     ·
      refine gKn 26 rfl h14 <| gExit <| eTexit <| eLeave <| eMid (fun aa ww h => h.sub [106] (Zs rfl rfl rfl rfl <| sN) (Zi rfl <| rN))
    ·
     refine hKn 15 rfl rfl h7 <| hSk 5 rfl rfl <| hSk 6 rfl rfl <| hSk 7 rfl rfl <| hSk 8 rfl rfl <| hSk 9 rfl rfl <| hSk 10 rfl rfl <| hSk 11 rfl rfl <| hSk 12 rfl rfl <| hSk 13 rfl rfl <| hSk 14 rfl rfl <| hTk 15 rfl rfl (pkF rfl rfl) <| hDone (by kernel_rfl) <| eThen <| gFalse rfl <| gExit <| eTexit <| eLeave <| eMid (fun aa ww h => h.sub [106] (Zs rfl rfl rfl rfl <| sN) (Zi rfl <| rN))
   ·
    refine gMid (fun (s15 : Bool) aa ww => Sta (ctx 61 H [] w) [(0, .rd (sliceR (arrR 32 u8R)) a0), (3, .val (n3 0)), (4, .rd i64R s2.2), (5, .rd i64R s5), (44, .rd boolR s15)] [(106, some ((n3 0), .list (arrR 32 u8R) 27 s2.1))] aa ww) ?_ (fun s15 => ?_)
    ·
     refine gRegQ mixed (by kernel_rfl) <| Rq rfl (mv rfl) <| Rq rfl (mv rfl) <| Rq rfl (len' rfl (.own 106 rfl) rfl tu22) <| Rq rfl (I.eql rfl rfl) <| Rq rfl (mv rfl) <| qSplit 34 rfl (fun h16 => ?_) (fun h16 => ?_)
     ·
      refine qKn 33 rfl h16 <| qSkip (gd rfl rfl rfl rfl) rfl rfl <| qSkip (gd rfl rfl rfl rfl) rfl rfl <| qSkip (gd rfl rfl rfl rfl) rfl rfl <| qSkip (gd rfl rfl rfl rfl) rfl rfl <| qSkip (gd rfl rfl rfl rfl) rfl rfl <| qSkip (gd rfl rfl rfl rfl) rfl rfl <| qSkip (gd rfl rfl rfl rfl) rfl rfl <| qSkip (gd rfl rfl rfl rfl) rfl rfl <| qSkip (gd rfl rfl rfl rfl) rfl rfl <| Rq rfl (pkT rfl rfl) <| qNil <| eMid (fun aa ww h => h.sub [106] (Zs rfl rfl rfl rfl <| sS rfl <| sN) (Zi rfl <| rN))
     ·
      refine qKn 33 rfl h16 <| qRun (gd rfl rfl rfl rfl) rfl rfl (mv rfl) <| qRun (gd rfl rfl rfl rfl) rfl rfl (mv rfl) <| qBind fun x17 h18 => qRun (gd rfl rfl rfl rfl) rfl rfl (ixO 106 rfl rfl rfl h18 tu22 ti27) <| qRun (gd rfl rfl rfl rfl) rfl rfl (ld 106 rfl rfl (Foc.el h18) ty27 rfl) <| qRun (gd rfl rfl rfl rfl) rfl rfl (mv rfl) <| qRun (gd rfl rfl rfl rfl) rfl rfl (mv rfl) <| qBind fun x19 h20 => qRun (gd rfl rfl rfl rfl) rfl rfl (ixR rfl rfl h20 tu22 ti27 rfl) <| qRun (gd rfl rfl rfl rfl) rfl rfl (ldR rfl ty27) <| qRun (gd rfl rfl rfl rfl) rfl rfl (neA rfl rfl eq27 rfl rfl gq27) <| Rq rfl (pkF rfl rfl) <| qNil <| eMid (fun aa ww h => h.sub [106] (Zs rfl rfl rfl rfl <| sS rfl <| sN) (Zi rfl <| rN))
    ·
     refine gIf rfl rfl (fun h21 => ?_) (fun h21 => ?_)
     ·
      refine gRegH [159, 186] mixed rfl rfl <| hTk 1 rfl rfl (mv rfl) <| hTk 2 rfl rfl (mv rfl) <| hFrz 106 [3, 46] rfl (fS rfl <| fS rfl <| fN) <| hBind fun x22 h23 => hTakeP 3 rfl (by kernel_rfl) (by kernel_rfl) (by kernel_rfl) (gd0 rfl) rfl rfl (cut' rfl .no (.to rfl) h23 tu22 ti27) <| hTk 5 rfl rfl (mv rfl) <| hTk 6 rfl rfl (mv rfl) <| hBind fun x24 h25 => hTk 7 rfl rfl (ixR rfl rfl h25 tu22 ti27 rfl) <| hTk 8 rfl rfl (ldR rfl ty27) <| hTakeP 11 rfl (by kernel_rfl) (by kernel_rfl) (by kernel_rfl) (gd0 rfl) rfl rfl (mv rfl) <| hTk 12 rfl rfl (mv rfl) <| hBind fun x26 h27 => hTakeP 13 rfl (by kernel_rfl) (by kernel_rfl) (by kernel_rfl) (gd0 rfl) rfl rfl (cut' rfl (.to rfl) .no h27 tu22 ti27) <| hAlt [0, 9] (by kernel_rfl) rfl ⟨?_, ?_, trivial⟩
      ·
       refine oDo 0 rfl (gd0 rfl) rfl rfl rfl (lit (R := (arrR 32 u8R)) (([] : List (Vector UInt8 32)) : List (Vector UInt8 32)) 159 (pN) rfl tu22 ti27 rfl rfl) (fun _ => rfl) fun v28 => hAlt [4, 9] (by kernel_rfl) rfl ⟨?_, ?_, trivial⟩
       ·
        refine oBind fun x29 h30 => oDo 4 rfl (gd0 rfl) rfl rfl rfl (apn 159 rfl rfl rfl .rd h30 tu22 ti27 rfl rfl rfl) (fun _ => rfl) fun v31 => Zo 9 rfl rfl rfl (lit (R := (arrR 32 u8R)) ([x24] : List (Vector UInt8 32)) 186 (pP rfl rfl <| pN) rfl tu22 ti27 rfl rfl) (fun _ => rfl) fun v32 => hFrz 186 [54] rfl (fS rfl <| fN) <| hBind fun x33 h34 => Zo 10 rfl rfl rfl (apn 159 rfl rfl rfl .rd h34 tu22 ti27 rfl rfl rfl) (fun _ => rfl) fun v35 => hBind fun x36 h37 => Zo 14 rfl rfl rfl (apn 159 rfl rfl rfl .rd h37 tu22 ti27 rfl rfl rfl) (fun _ => rfl) fun v38 => hTakeF 15 rfl (by kernel_rfl) (by kernel_rfl) (by kernel_rfl) (gd0 rfl) rfl rfl flat_val (asg rfl) <| hDone (by kernel_rfl) <| eBlk <| eThen <| gReg <| Zm rfl <| Zq (I.add rfl rfl) <| Za rfl <| lName 4 rfl fun y39 => gNil <| eNext (fun aa ww h => ⟨nvl [v38], h.sub [159] (sS rfl <| sS rfl <| sS rfl <| sN) (Zi rfl <| rN)⟩)
       ·
        refine oDo 9 rfl (gd0 rfl) rfl rfl rfl (lit (R := (arrR 32 u8R)) ([x24] : List (Vector UInt8 32)) 186 (pP rfl rfl <| pN) rfl tu22 ti27 rfl rfl) (fun _ => rfl) fun v40 => hBind fun x41 h42 => Zo 4 rfl rfl rfl (apn 159 rfl rfl rfl .rd h42 tu22 ti27 rfl rfl rfl) (fun _ => rfl) fun v43 => hFrz 186 [54] rfl (fS rfl <| fN) <| hBind fun x44 h45 => Zo 10 rfl rfl rfl (apn 159 rfl rfl rfl .rd h45 tu22 ti27 rfl rfl rfl) (fun _ => rfl) fun v46 => hBind fun x47 h48 => Zo 14 rfl rfl rfl (apn 159 rfl rfl rfl .rd h48 tu22 ti27 rfl rfl rfl) (fun _ => rfl) fun v49 => hTakeF 15 rfl (by kernel_rfl) (by kernel_rfl) (by kernel_rfl) (gd0 rfl) rfl rfl flat_val (asg rfl) <| hDone (by kernel_rfl) <| eBlk <| eThen <| gReg <| Zm rfl <| Zq (I.add rfl rfl) <| Za rfl <| lName 4 rfl fun y50 => gNil <| eNext (fun aa ww h => ⟨nvl [v49], h.sub [159] (sS rfl <| sS rfl <| sS rfl <| sN) (Zi rfl <| rN)⟩)
      ·
       refine oDo 9 rfl (gd0 rfl) rfl rfl rfl (lit (R := (arrR 32 u8R)) ([x24] : List (Vector UInt8 32)) 186 (pP rfl rfl <| pN) rfl tu22 ti27 rfl rfl) (fun _ => rfl) fun v51 => Zo 0 rfl rfl rfl (lit (R := (arrR 32 u8R)) (([] : List (Vector UInt8 32)) : List (Vector UInt8 32)) 159 (pN) rfl tu22 ti27 rfl rfl) (fun _ => rfl) fun v52 => hBind fun x53 h54 => Zo 4 rfl rfl rfl (apn 159 rfl rfl rfl .rd h54 tu22 ti27 rfl rfl rfl) (fun _ => rfl) fun v55 => hFrz 186 [54] rfl (fS rfl <| fN) <| hBind fun x56 h57 => Zo 10 rfl rfl rfl (apn 159 rfl rfl rfl .rd h57 tu22 ti27 rfl rfl rfl) (fun _ => rfl) fun v58 => hBind fun x59 h60 => Zo 14 rfl rfl rfl (apn 159 rfl rfl rfl .rd h60 tu22 ti27 rfl rfl rfl) (fun _ => rfl) fun v61 => hTakeF 15 rfl (by kernel_rfl) (by kernel_rfl) (by kernel_rfl) (gd0 rfl) rfl rfl flat_val (asg rfl) <| hDone (by kernel_rfl) <| eBlk <| eThen <| gReg <| Zm rfl <| Zq (I.add rfl rfl) <| Za rfl <| lName 4 rfl fun y62 => gNil <| eNext (fun aa ww h => ⟨nvl [v61], h.sub [159] (sS rfl <| sS rfl <| sS rfl <| sN) (Zi rfl <| rN)⟩)
     ·
      refine gSkip <| eBlk <| eThen <| gReg <| Zm rfl <| Zq (I.add rfl rfl) <| Za rfl <| lName 4 rfl fun y63 => gNil <| eNext (fun aa ww h => ⟨nvl [(n3 0)], h.sub [106] (sS rfl <| sS rfl <| sS rfl <| sN) (Zi rfl <| rN)⟩)
  ·
   refine gExit <| eTexit <| eLeave <| eMid (fun aa ww h => ⟨nvl [(n3 0)], h.sub [106] (sS rfl <| sN) (Zi rfl <| rN)⟩)
 ·
  refine gEx fun n64 => gSR <| Zm rfl <| Za rfl <| Zn <| gRet <| eRet [(n64 0)] [53] rfl (eE rfl <| eN) (Zi rfl <| rN)
theorem braidref10_Sorted_q0_ok (a0 : List (Vector UInt8 32)) (q0 : Value) (l0 : List (Vector UInt8 32)) : Spec Tryz.prog 53 [.vw (arrR 32 u8R) q0 l0 a0] [(1, some (q0, .list (arrR 32 u8R) 27 l0))] (braidref10_Sorted a0) (fun r nv => ⟨[.val (nv 0)], [(1, some (q0, .list (arrR 32 u8R) 27 l0)), (100, some (nv 0, .list (arrR 32 u8R) 27 r))]⟩) := by
 refine spec 61 Tryz.func53 rfl rfl rfl fun H w => ?_
 refine gSR <| Za rfl <| Zn <| gSR <| Za rfl <| Zn <| gMid (fun (s1 : (List (Vector UInt8 32))) aa ww => ∃ nv : Nat → Value, Sta (ctx 61 H [(1, some (q0, .list (arrR 32 u8R) 27 l0))] w) [(3, .val (nv 0))] [(54, some ((nv 0), .list (arrR 32 u8R) 27 s1)), (1, some (q0, .list (arrR 32 u8R) 27 l0))] aa ww) ?_ (fun s1 => ?_)
 ·
  refine gSR <| Za rfl <| Zn <| gNew (arrR 32 u8R) 27 108 <| gLoop (fun (s2 : (List (Vector UInt8 32)) × Int) aa ww => ∃ nv : Nat → Value, Sta (ctx 61 H [(1, some (q0, .list (arrR 32 u8R) 27 l0))] w) [(0, .vw (arrR 32 u8R) q0 l0 a0), (3, .val (nv 0)), (4, .rd i64R s2.2)] [(1, some (q0, .list (arrR 32 u8R) 27 l0)), (107, some ((nv 0), .list (arrR 32 u8R) 27 s2.1))] aa ww) (fun aa ww h => ⟨nvl [(.slice none 0 0)], h.sub [1, 108] (sS rfl <| sS rfl <| sS rfl <| sN) (Zi rfl <| Zi rfl <| rN)⟩) (fun s2 => ?_)
  refine gEx fun n3 => gSeq <| gSR <| Zm rfl <| Zm rfl <| Zq (len' rfl (.vw 1 rfl) rfl tu22) <| Zq (I.lss rfl rfl) <| Zn <| gIf rfl rfl (fun h4 => ?_) (fun h4 => ?_)
  ·
   refine Zt <| gSeq <| gBlk <| gSR <| Za rfl <| Zn <| gMid (fun (s5 : Int) aa ww => Sta (ctx 61 H [(1, some (q0, .list (arrR 32 u8R) 27 l0))] w) [(0, .vw (arrR 32 u8R) q0 l0 a0), (3, .val (n3 0)), (4, .rd i64R s2.2), (5, .rd i64R s5)] [(1, some (q0, .list (arrR 32 u8R) 27 l0)), (107, some ((n3 0), .list (arrR 32 u8R) 27 s2.1))] aa ww) ?_ (fun s5 => ?_)
   ·
    refine gLoop (fun (s6 : Int) aa ww => Sta (ctx 61 H [(1, some (q0, .list (arrR 32 u8R) 27 l0))] w) [(0, .vw (arrR 32 u8R) q0 l0 a0), (3, .val (n3 0)), (4, .rd i64R s2.2), (5, .rd i64R s6)] [(1, some (q0, .list (arrR 32 u8R) 27 l0)), (107, some ((n3 0), .list (arrR 32 u8R) 27 s2.1))] aa ww) (fun aa ww h => h.sub [1, 107] (Zs rfl rfl rfl rfl <| sN) (Zi rfl <| Zi rfl <| rN)) (fun s6 => ?_)
    refine gSeq <| gSeq <| gRegH [] mixed rfl rfl <| hTk 0 rfl rfl (mv rfl) <| hTk 1 rfl rfl (mv rfl) <| hTk 2 rfl rfl (len' rfl (.own 107 rfl) rfl tu22) <| hTk 3 rfl rfl (I.lss rfl rfl) <| hTk 4 rfl rfl (mv rfl) <| hIf 16 rfl rfl (fun h7 => ?_) (fun h7 => ?_)
    ·
     refine hKn 15 rfl rfl h7 <| hTake 5 rfl (by kernel_rfl) (by kernel_rfl) (by kernel_rfl) (gd rfl rfl rfl rfl) rfl rfl (mv rfl) <| hTake 6 rfl (by kernel_rfl) (by kernel_rfl) (by kernel_rfl) (gd rfl rfl rfl rfl) rfl rfl (mv rfl) <| hBind fun x8 h9 => hTake 7 rfl (by kernel_rfl) (by kernel_rfl) (by kernel_rfl) (gd rfl rfl rfl rfl) rfl rfl (ixO 107 rfl rfl rfl h9 tu22 ti27) <| hTake 8 rfl (by kernel_rfl) (by kernel_rfl) (by kernel_rfl) (gd rfl rfl rfl rfl) rfl rfl (ld 107 rfl rfl (Foc.el h9) ty27 rfl) <| hTake 9 rfl (by kernel_rfl) (by kernel_rfl) (by kernel_rfl) (gd rfl rfl rfl rfl) rfl rfl (mv rfl) <| hTake 10 rfl (by kernel_rfl) (by kernel_rfl) (by kernel_rfl) (gd rfl rfl rfl rfl) rfl rfl (mv rfl) <| hBind fun x10 h11 => hTake 11 rfl (by kernel_rfl) (by kernel_rfl) (by kernel_rfl) (gd rfl rfl rfl rfl) rfl rfl (ixQ 1 rfl rfl rfl h11 tu22 ti27) <| hTake 12 rfl (by kernel_rfl) (by kernel_rfl) (by kernel_rfl) (gd rfl rfl rfl rfl) rfl rfl (ldQ 1 rfl rfl ty27 rfl) <| hCallF 13 [] [] rfl (by kernel_rfl) rfl (gd rfl rfl rfl rfl) rfl Tryz.func65 rfl rfl (braidref01_Cmp_ok _ _) (aQ rfl <| aQ rfl <| aN) rN rfl (fun _ _ => flat_num) fun r12 n13 => hTake 14 rfl (by kernel_rfl) (by kernel_rfl) (by kernel_rfl) (gd rfl rfl rfl rfl) rfl rfl (I.lss rfl rfl) <| hTk 15 rfl rfl (pkT rfl rfl) <| hDone (by kernel_rfl) <| eThen <| gIf rfl rfl (fun h14 => ?_) (fun h14 => ?_)
     ·
      refine gKn 26 rfl h14 <| Zt <| gBlk <| gReg <| Zm rfl <| Zq (I.add rfl rfl) <| Za rfl <| gNil <| eBlk <| eNext (fun aa ww h => h.sub [1, 107] (Zs rfl rfl rfl rfl <| sN) (Zi rfl <| Zi rfl <| rN))
     ·
      refine gKn 26 rfl h14 <| gExit <| eTexit <| eLeave <| eMid (fun aa ww h => h.sub [1, 107] (Zs rfl rfl rfl rfl <| sN) (Zi rfl <| Zi rfl <| rN))
    ·
     refine hKn 15 rfl rfl h7 <| hSk 5 rfl rfl <| hSk 6 rfl rfl <| hSk 7 rfl rfl <| hSk 8 rfl rfl <| hSk 9 rfl rfl <| hSk 10 rfl rfl <| hSk 11 rfl rfl <| hSk 12 rfl rfl <| hSk 13 rfl rfl <| hSk 14 rfl rfl <| hTk 15 rfl rfl (pkF rfl rfl) <| hDone (by kernel_rfl) <| eThen <| gFalse rfl <| gExit <| eTexit <| eLeave <| eMid (fun aa ww h => h.sub [1, 107] (Zs rfl rfl rfl rfl <| sN) (Zi rfl <| Zi rfl <| rN))
   ·
    refine gMid (fun (s15 : Bool) aa ww => Sta (ctx 61 H [(1, some (q0, .list (arrR 32 u8R) 27 l0))] w) [(0, .vw (arrR 32 u8R) q0 l0 a0), (3, .val (n3 0)), (4, .rd i64R s2.2), (5, .rd i64R s5), (44, .rd boolR s15)] [(1, some (q0, .list (arrR 32 u8R) 27 l0)), (107, some ((n3 0), .list (arrR 32 u8R) 27 s2.1))] aa ww) ?_ (fun s15 => ?_)
    ·
     refine gRegQ mixed (by kernel_rfl) <| Rq rfl (mv rfl) <| Rq rfl (mv rfl) <| Rq rfl (len' rfl (.own 107 rfl) rfl tu22) <| Rq rfl (I.eql rfl rfl) <| Rq rfl (mv rfl) <| qSplit 34 rfl (fun h16 => ?_) (fun h16 => ?_)
     ·
      refine qKn 33 rfl h16 <| qSkip (gd rfl rfl rfl rfl) rfl rfl <| qSkip (gd rfl rfl rfl rfl) rfl rfl <| qSkip (gd rfl rfl rfl rfl) rfl rfl <| qSkip (gd rfl rfl rfl rfl) rfl rfl <| qSkip (gd rfl rfl rfl rfl) rfl rfl <| qSkip (gd rfl rfl rfl rfl) rfl rfl <| qSkip (gd rfl rfl rfl rfl) rfl rfl <| qSkip (gd rfl rfl rfl rfl) rfl rfl <| qSkip (gd rfl rfl rfl rfl) rfl rfl <| Rq rfl (pkT rfl rfl) <| qNil <| eMid (fun aa ww h => h.sub [1, 107] (Zs rfl rfl rfl rfl <| sS rfl <| sN) (Zi rfl <| Zi rfl <| rN))
     ·
      refine qKn 33 rfl h16 <| qRun (gd rfl rfl rfl rfl) rfl rfl (mv rfl) <| qRun (gd rfl rfl rfl rfl) rfl rfl (mv rfl) <| qBind fun x17 h18 => qRun (gd rfl rfl rfl rfl) rfl rfl (ixO 107 rfl rfl rfl h18 tu22 ti27) <| qRun (gd rfl rfl rfl rfl) rfl rfl (ld 107 rfl rfl (Foc.el h18) ty27 rfl) <| qRun (gd rfl rfl rfl rfl) rfl rfl (mv rfl) <| qRun (gd rfl rfl rfl rfl) rfl rfl (mv rfl) <| qBind fun x19 h20 => qRun (gd rfl rfl rfl rfl) rfl rfl (ixQ 1 rfl rfl rfl h20 tu22 ti27) <| qRun (gd rfl rfl rfl rfl) rfl rfl (ldQ 1 rfl rfl ty27 rfl) <| qRun (gd rfl rfl rfl rfl) rfl rfl (neA rfl rfl eq27 rfl rfl gq27) <| Rq rfl (pkF rfl rfl) <| qNil <| eMid (fun aa ww h => h.sub [1, 107] (Zs rfl rfl rfl rfl <| sS rfl <| sN) (Zi rfl <| Zi rfl <| rN))
    ·
     refine gIf rfl rfl (fun h21 => ?_) (fun h21 => ?_)
     ·
      refine gRegH [160, 187] mixed rfl rfl <| hTk 1 rfl rfl (mv rfl) <| hTk 2 rfl rfl (mv rfl) <| hFrz 107 [3, 46] rfl (fS rfl <| fS rfl <| fN) <| hBind fun x22 h23 => hTakeP 3 rfl (by kernel_rfl) (by kernel_rfl) (by kernel_rfl) (gd0 rfl) rfl rfl (cut' rfl .no (.to rfl) h23 tu22 ti27) <| hTk 5 rfl rfl (mv rfl) <| hTk 6 rfl rfl (mv rfl) <| hBind fun x24 h25 => hTk 7 rfl rfl (ixQ 1 rfl rfl rfl h25 tu22 ti27) <| hTk 8 rfl rfl (ldQ 1 rfl rfl ty27 rfl) <| hTakeP 11 rfl (by kernel_rfl) (by kernel_rfl) (by kernel_rfl) (gd0 rfl) rfl rfl (mv rfl) <| hTk 12 rfl rfl (mv rfl) <| hBind fun x26 h27 => hTakeP 13 rfl (by kernel_rfl) (by kernel_rfl) (by kernel_rfl) (gd0 rfl) rfl rfl (cut' rfl (.to rfl) .no h27 tu22 ti27) <| hAlt [0, 9] (by kernel_rfl) rfl ⟨?_, ?_, trivial⟩
      ·
       refine oDo 0 rfl (gd0 rfl) rfl rfl rfl (lit (R := (arrR 32 u8R)) (([] : List (Vector UInt8 32)) : List (Vector UInt8 32)) 160 (pN) rfl tu22 ti27 rfl rfl) (fun _ => rfl) fun v28 => hAlt [4, 9] (by kernel_rfl) rfl ⟨?_, ?_, trivial⟩
       ·
        refine oBind fun x29 h30 => oDo 4 rfl (gd0 rfl) rfl rfl rfl (apn 160 rfl rfl rfl .rd h30 tu22 ti27 rfl rfl rfl) (fun _ => rfl) fun v31 => Zo 9 rfl rfl rfl (lit (R := (arrR 32 u8R)) ([x24] : List (Vector UInt8 32)) 187 (pP rfl rfl <| pN) rfl tu22 ti27 rfl rfl) (fun _ => rfl) fun v32 => hFrz 187 [54] rfl (fS rfl <| fN) <| hBind fun x33 h34 => Zo 10 rfl rfl rfl (apn 160 rfl rfl rfl .rd h34 tu22 ti27 rfl rfl rfl) (fun _ => rfl) fun v35 => hBind fun x36 h37 => Zo 14 rfl rfl rfl (apn 160 rfl rfl rfl .rd h37 tu22 ti27 rfl rfl rfl) (fun _ => rfl) fun v38 => hTakeF 15 rfl (by kernel_rfl) (by kernel_rfl) (by kernel_rfl) (gd0 rfl) rfl rfl flat_val (asg rfl) <| hDone (by kernel_rfl) <| eBlk <| eThen <| gReg <| Zm rfl <| Zq (I.add rfl rfl) <| Za rfl <| lName 4 rfl fun y39 => gNil <| eNext (fun aa ww h => ⟨nvl [v38], h.sub [1, 160] (sS rfl <| sS rfl <| sS rfl <| sN) (Zi rfl <| Zi rfl <| rN)⟩)
       ·
        refine oDo 9 rfl (gd0 rfl) rfl rfl rfl (lit (R := (arrR 32 u8R)) ([x24] : List (Vector UInt8 32)) 187 (pP rfl rfl <| pN) rfl tu22 ti27 rfl rfl) (fun _ => rfl) fun v40 => hBind fun x41 h42 => Zo 4 rfl rfl rfl (apn 160 rfl rfl rfl .rd h42 tu22 ti27 rfl rfl rfl) (fun _ => rfl) fun v43 => hFrz 187 [54] rfl (fS rfl <| fN) <| hBind fun x44 h45 => Zo 10 rfl rfl rfl (apn 160 rfl rfl rfl .rd h45 tu22 ti27 rfl rfl rfl) (fun _ => rfl) fun v46 => hBind fun x47 h48 => Zo 14 rfl rfl rfl (apn 160 rfl rfl rfl .rd h48 tu22 ti27 rfl rfl rfl) (fun _ => rfl) fun v49 => hTakeF 15 rfl (by kernel_rfl) (by kernel_rfl) (by kernel_rfl) (gd0 rfl) rfl rfl flat_val (asg rfl) <| hDone (by kernel_rfl) <| eBlk <| eThen <| gReg <| Zm rfl <| Zq (I.add rfl rfl) <| Za rfl <| lName 4 rfl fun y50 => gNil <| eNext (fun aa ww h => ⟨nvl [v49], h.sub [1, 160] (sS rfl <| sS rfl <| sS rfl <| sN) (Zi rfl <| Zi rfl <| rN)⟩)
      ·
       refine oDo 9 rfl (gd0 rfl) rfl rfl rfl (lit (R := (arrR 32 u8R)) ([x24] : List (Vector UInt8 32)) 187 (pP rfl rfl <| pN) rfl tu22 ti27 rfl rfl) (fun _ => rfl) fun v51 => Zo 0 rfl rfl rfl (lit (R := (arrR 32 u8R)) (([] : List (Vector UInt8 32)) : List (Vector UInt8 32)) 160 (pN) rfl tu22 ti27 rfl rfl) (fun _ => rfl) fun v52 => hBind fun x53 h54 => Zo 4 rfl rfl rfl (apn 160 rfl rfl rfl .rd h54 tu22 ti27 rfl rfl rfl) (fun _ => rfl) fun v55 => hFrz 187 [54] rfl (fS rfl <| fN) <| hBind fun x56 h57 => Zo 10 rfl rfl rfl (apn 160 rfl rfl rfl .rd h57 tu22 ti27 rfl rfl rfl) (fun _ => rfl) fun v58 => hBind fun x59 h60 => Zo 14 rfl rfl rfl (apn 160 rfl rfl rfl .rd h60 tu22 ti27 rfl rfl rfl) (fun _ => rfl) fun v61 => hTakeF 15 rfl (by kernel_rfl) (by kernel_rfl) (by kernel_rfl) (gd0 rfl) rfl rfl flat_val (asg rfl) <| hDone (by kernel_rfl) <| eBlk <| eThen <| gReg <| Zm rfl <| Zq (I.add rfl rfl) <| Za rfl <| lName 4 rfl fun y62 => gNil <| eNext (fun aa ww h => ⟨nvl [v61], h.sub [1, 160] (sS rfl <| sS rfl <| sS rfl <| sN) (Zi rfl <| Zi rfl <| rN)⟩)
     ·
      refine gSkip <| eBlk <| eThen <| gReg <| Zm rfl <| Zq (I.add rfl rfl) <| Za rfl <| lName 4 rfl fun y63 => gNil <| eNext (fun aa ww h => ⟨nvl [(n3 0)], h.sub [1, 107] (sS rfl <| sS rfl <| sS rfl <| sN) (Zi rfl <| Zi rfl <| rN)⟩)
  ·
   refine gExit <| eTexit <| eLeave <| eMid (fun aa ww h => ⟨nvl [(n3 0)], h.sub [107, 1] (sS rfl <| sN) (Zi rfl <| Zi rfl <| rN)⟩)
 ·
  refine gEx fun n64 => gSR <| Zm rfl <| Za rfl <| Zn <| gRet <| eRet [(n64 0)] [1, 54] rfl (eE rfl <| eN) (Zi rfl <| Zi rfl <| rN)
def braidref10_Before_L0 (a0 : api_Graph) (s10 : (List (Vector UInt8 32)) × (List (Vector UInt8 32))) : Option (Sum ((List (Vector UInt8 32))) ((List (Vector UInt8 32)) × (List (Vector UInt8 32)))) :=
 if decide (0 < (s10.2.length : Int)) then
  idx s10.2 0 >>= fun x13 =>
  cut s10.2 1 (s10.2.length : Int) >>= fun x16 =>
  braidref09_At s10.1 x13 >>= fun r19 =>
  if decide (r19 < 0) then
   app 32 s10.1 [x13] >>= fun x23 =>
   braidref10_preds a0 x13 >>= fun r26 =>
   app 32 x16 r26 >>= fun x28 =>
   some (.inr (x23, x28))
  else
   some (.inr (s10.1, x16))
 else
  some (.inl s10.1)
def braidref10_Before (a0 : api_Graph) (a1 : Vector UInt8 32) : Option ((List (Vector UInt8 32))) :=
 braidref10_preds a0 a1 >>= fun r4 =>
 app 32 ([] : List (Vector UInt8 32)) r4 >>= fun x6 =>
 (iter (braidref10_Before_L0 a0) ([], x6)) >>= fun s9 =>
 braidref10_Sorted s9 >>= fun r32 =>
 some r32
theorem braidref10_Before_ok (a0 : api_Graph) (a1 : Vector UInt8 32) : Spec Tryz.prog 29 [.rd R_api_Graph a0, .rd (arrR 32 u8R) a1] [] (braidref10_Before a0 a1) (fun r nv => ⟨[.val (nv 0)], [(100, some (nv 0, .list (arrR 32 u8R) 27 r))]⟩) := by
 refine spec 36 Tryz.func29 rfl rfl rfl fun H w => ?_
 refine gSR <| Eb rfl (bx 1 rfl) fun v1 => Eb rfl (bx 2 rfl) fun v2 => Za rfl <| Zn <| gSR <| Za rfl <| Zn <| gSR <| Ef rfl (lit (R := (arrR 32 u8R)) (([] : List (Vector UInt8 32)) : List (Vector UInt8 32)) 3 (pN) rfl tu22 ti27 rfl rfl) fun v3 => Zq (ld 1 rfl rfl Foc.here ty25 rfl) <| Zq (ld 2 rfl rfl Foc.here ty27 rfl) <| call [] [] rfl Tryz.func52 rfl rfl (braidref10_preds_ok _ _) (aQ rfl <| aQ rfl <| aN) rN fun r4 n5 => lBind fun x6 h7 => Ef rfl (apn 3 rfl rfl rfl .rd h7 tu22 ti27 rfl rfl rfl) fun v8 => Za rfl <| Zn <| gMid (fun (s9 : (List (Vector UInt8 32))) aa ww => ∃ nv : Nat → Value, Sta (ctx 36 H [] w) [(5, .val (nv 0))] [(6, some ((nv 0), .list (arrR 32 u8R) 27 s9))] aa ww) ?_ (fun s9 => ?_)
 ·
  refine gNew (arrR 32 u8R) 27 10 <| gSeg 3 rfl <| gLoop (fun (s10 : (List (Vector UInt8 32)) × (List (Vector UInt8 32))) aa ww => ∃ nv : Nat → Value, Sta (ctx 36 H [] w) [(2, .val (ptrTo v1 0)), (5, .val (nv 0)), (6, .val (nv 1))] [(1, some (v1, .box 25 [.rd R_api_Graph a0])), (9, some ((nv 0), .list (arrR 32 u8R) 27 s10.1)), (3, some ((nv 1), .seg (arrR 32 u8R) 27 s10.2))] aa ww) (fun aa ww h => ⟨nvl [(.slice none 0 0), v8], h.sub [1, 10, 3] (sS rfl <| sS rfl <| sS rfl <| sN) (Zi rfl <| Zi rfl <| Zi rfl <| rN)⟩) (fun s10 => ?_)
  refine gEx fun n11 => gSeq <| gSR <| Zm rfl <| Zq (len' rfl (.seg 3 rfl) rfl tu22) <| Zq (I.gtr rfl rfl) <| Zn <| gIf rfl rfl (fun h12 => ?_) (fun h12 => ?_)
  ·
   refine Zt <| gBlk <| gSR <| Zm rfl <| lBind fun x13 h14 => Zq (ixSg 3 rfl rfl rfl h14 tu22 ti27) <| Zq (ldSg 3 rfl rfl ty27 rfl) <| Eb rfl (allc 11 ti27 (.zr (R := (arrR 32 u8R)) (x := (Vector.replicate 32 0)) zr26)) fun v15 => Es (sto 11 rfl rfl Foc.here rfl ti27) <| Zn <| gSR <| Zm rfl <| lBind fun x16 h17 => Ef rfl (cutS 3 rfl rfl rfl h17 tu22 ti27) fun v18 => Za rfl <| Zn <| gSR <| Zm rfl <| Zq (ld 11 rfl rfl Foc.here ty27 rfl) <| call [9] [(1, 9)] rfl Tryz.func30 rfl rfl (braidref09_At_q0_ok _ _ _ _) (aW rfl <| aQ rfl <| aN) (Zi rfl <| rN) fun r19 n20 => Zq (I.lss rfl rfl) <| Zn <| gIf rfl rfl (fun h21 => ?_) (fun h21 => ?_)
   ·
    refine gSR <| Zm rfl <| Zq (ld 11 rfl rfl Foc.here ty27 rfl) <| Ef rfl (lit (R := (arrR 32 u8R)) ([x13] : List (Vector UInt8 32)) 12 (pP rfl rfl <| pN) rfl tu22 ti27 rfl rfl) fun v22 => lFrz 12 [27] rfl (fS rfl <| fN) <| lBind fun x23 h24 => Ef rfl (apn 9 rfl rfl rfl .rd h24 tu22 ti27 rfl rfl rfl) fun v25 => Za rfl <| Zn <| gReg <| Zm rfl <| Zq (ld 1 rfl rfl Foc.here ty25 rfl) <| Zq (ld 11 rfl rfl Foc.here ty27 rfl) <| call [] [] rfl Tryz.func52 rfl rfl (braidref10_preds_ok _ _) (aQ rfl <| aQ rfl <| aN) rN fun r26 n27 => lBind fun x28 h29 => Ef rfl (apS 3 rfl rfl rfl .rd h29 tu22 ti27 rfl rfl rfl) fun v30 => Za rfl <| gNil <| eBlk <| eNext (fun aa ww h => ⟨nvl [v25, v30], h.sub [1, 9, 3] (sS rfl <| sS rfl <| sS rfl <| sN) (Zi rfl <| Zi rfl <| Zi rfl <| rN)⟩)
   ·
    refine gSkip <| eBlk <| eNext (fun aa ww h => ⟨nvl [(n11 0), v18], h.sub [1, 9, 3] (sS rfl <| sS rfl <| sS rfl <| sN) (Zi rfl <| Zi rfl <| Zi rfl <| rN)⟩)
  ·
   refine gExit <| eTexit <| eLeave <| eMid (fun aa ww h => ⟨nvl [(n11 0)], h.sub [9] (sS rfl <| sN) (Zi rfl <| rN)⟩)
 ·
  refine gEx fun n31 => gSR <| Zm rfl <| call [6] [(100, 13), (1, 6)] rfl Tryz.func53 rfl rfl (braidref10_Sorted_q0_ok _ _ _) (aW rfl <| aN) (Zi rfl <| rN) fun r32 n33 => Za rfl <| Zn <| gRet <| eRet [(n33 0)] [13] rfl (eE rfl <| eN) (Zi rfl <| rN)
def ancestry_Order_1_1 (a0 : Vector UInt8 32) (c1_0 : List Bool) (c2_0 : List ((Vector UInt8 32) × Int)) : Option (Bool) :=
 idx c1_0 ((mget c2_0 a0).getD 0) >>= fun x2 =>
 some (!x2)
theorem ancestry_Order_1_1_ok (a0 : Vector UInt8 32) (p1_0 : Value) (q1_0 : Value) (c1_0 : List Bool) (p2_0 : Value) (q2_0 : Value) (c2_0 : List ((Vector UInt8 32) × Int)) : Spec Tryz.prog 46 [.rd (arrR 32 u8R) a0, .val (ptrTo p1_0 0), .val (ptrTo p2_0 0)] [(1, some (p1_0, .box 68 [.val q1_0])), (2, some (q1_0, .list boolR 4 c1_0)), (3, some (p2_0, .box 74 [.val q2_0])), (4, some (q2_0, .map (arrR 32 u8R) i64R c2_0))] (ancestry_Order_1_1 a0 c1_0 c2_0) (fun r nv => ⟨[.rd boolR r], [(1, some (p1_0, .box 68 [.val q1_0])), (2, some (q1_0, .list boolR 4 c1_0)), (3, some (p2_0, .box 74 [.val q2_0])), (4, some (q2_0, .map (arrR 32 u8R) i64R c2_0))]⟩) := by
 refine spec 12 Tryz.func46 rfl rfl rfl fun H w => ?_
 refine gSR <| Eb rfl (bx 5 rfl) fun v1 => Za rfl <| Zn <| gSeq <| gRegQ mixed (by kernel_rfl) <| Rq rfl (ldV 1 rfl rfl .here sc68 rfl) <| Rq rfl (ldV 3 rfl rfl .here sc74 rfl) <| Rq rfl (ld 5 rfl rfl Foc.here ty27 rfl) <| Rq rfl (mlk rfl (.own 4 rfl rfl) rfl ky27 Tryz.underlying74 ti3 (Zr.num rfl) rfl) <| qBind fun x2 h3 => Rq rfl (ixO 2 rfl rfl rfl h3 tu68 ti4) <| Rq rfl (ld 2 rfl rfl (Foc.el h3) ty4 rfl) <| Rq rfl (not' rfl) <| Rq rfl (asg rfl) <| qNil <| eThen <| gRet <| eRet [] [1, 2, 3, 4] rfl (eE rfl <| eN) (Zi rfl <| Zi rfl <| Zi rfl <| Zi rfl <| rN)
def slices_IndexFunc_api_ID_api_ID_ancestry_Order_1_1_L0 (a0 : List (Vector UInt8 32)) (c1_0 : List Bool) (c1_1 : List ((Vector UInt8 32) × Int)) (s2 : Int) : Option (Sum (Sum Int Unit) Int) :=
 if decide (s2 < (a0.length : Int)) then
  idx a0 s2 >>= fun x4 =>
  ancestry_Order_1_1 x4 c1_0 c1_1 >>= fun r6 =>
  if r6 then
   some (.inl (.inl s2))
  else
   some (.inr (w64 (s2 + 1)))
 else
  some (.inl (.inr ()))
def slices_IndexFunc_api_ID_api_ID_ancestry_Order_1_1 (a0 : List (Vector UInt8 32)) (c1_0 : List Bool) (c1_1 : List ((Vector UInt8 32) × Int)) : Option (Int) :=
 orRet (iter (slices_IndexFunc_api_ID_api_ID_ancestry_Order_1_1_L0 a0 c1_0 c1_1) 0) fun s1 =>
 some (-1)
theorem slices_IndexFunc_api_ID_api_ID_ancestry_Order_1_1_ok (a0 : List (Vector UInt8 32)) (p1_0 : Value) (q1_0 : Value) (c1_0 : List Bool) (p1_1 : Value) (q1_1 : Value) (c1_1 : List ((Vector UInt8 32) × Int)) : Spec Tryz.prog 60 [.rd (sliceR (arrR 32 u8R)) a0, .val (.func (.func 46) #[] #[ptrTo p1_0 0, ptrTo p1_1 0])] [(1, some (p1_0, .box 68 [.val q1_0])), (2, some (q1_0, .list boolR 4 c1_0)), (3, some (p1_1, .box 74 [.val q1_1])), (4, some (q1_1, .map (arrR 32 u8R) i64R c1_1))] (slices_IndexFunc_api_ID_api_ID_ancestry_Order_1_1 a0 c1_0 c1_1) (fun r nv => ⟨[.rd i64R r], [(1, some (p1_0, .box 68 [.val q1_0])), (2, some (q1_0, .list boolR 4 c1_0)), (3, some (p1_1, .box 74 [.val q1_1])), (4, some (q1_1, .map (arrR 32 u8R) i64R c1_1))]⟩) := by
 refine spec 19 Tryz.func60 rfl rfl rfl fun H w => ?_
 refine gSR <| Za rfl <| Zn <| gMidR (fun (s1 : Unit) aa ww => Sta (ctx 19 H [(1, some (p1_0, .box 68 [.val q1_0])), (2, some (q1_0, .list boolR 4 c1_0)), (3, some (p1_1, .box 74 [.val q1_1])), (4, some (q1_1, .map (arrR 32 u8R) i64R c1_1))] w) [] [(2, some (q1_0, .list boolR 4 c1_0)), (1, some (p1_0, .box 68 [.val q1_0])), (4, some (q1_1, .map (arrR 32 u8R) i64R c1_1)), (3, some (p1_1, .box 74 [.val q1_1]))] aa ww) ?_ (fun s1 => ?_)
 ·
  refine gSR <| Zm rfl <| Zq (len' rfl .rd rfl tu22) <| Zm rfl <| Zn <| gLoop (fun (s2 : Int) aa ww => Sta (ctx 19 H [(1, some (p1_0, .box 68 [.val q1_0])), (2, some (q1_0, .list boolR 4 c1_0)), (3, some (p1_1, .box 74 [.val q1_1])), (4, some (q1_1, .map (arrR 32 u8R) i64R c1_1))] w) [(0, .rd (sliceR (arrR 32 u8R)) a0), (1, .val (.func (.func 46) #[] #[ptrTo p1_0 0, ptrTo p1_1 0])), (7, .rd i64R (a0.length : Int)), (8, .rd i64R s2)] [(2, some (q1_0, .list boolR 4 c1_0)), (1, some (p1_0, .box 68 [.val q1_0])), (4, some (q1_1, .map (arrR 32 u8R) i64R c1_1)), (3, some (p1_1, .box 74 [.val q1_1]))] aa ww) (fun aa ww h => h.sub [2, 1, 4, 3] (Zs rfl rfl rfl rfl <| sN) (Zi rfl <| Zi rfl <| Zi rfl <| Zi rfl <| rN)) (fun s2 => ?_)
  refine gSR <| Zq (I.lss rfl rfl) <| Zn <| gSeq <| gIf rfl rfl (fun h3 => ?_) (fun h3 => ?_)
  ·
   refine Zt <| gSeq <| gBlk <| gSR <| Zm rfl <| Za rfl <| Zn <| gSR <| Zm rfl <| Zm rfl <| Zm rfl <| lBind fun x4 h5 => Zq (ixR rfl rfl h5 tu22 ti27 rfl) <| Zq (ldR rfl ty27) <| callv [1, 2, 3, 4] [(1, 1), (2, 2), (3, 3), (4, 4)] (gd0 rfl) rfl rfl Tryz.func46 rfl rfl (ancestry_Order_1_1_ok _ _ _ _ _ _ _) (aQ rfl <| aN) (cQ 1 rfl <| cQ 3 rfl <| cN) (Zi rfl <| Zi rfl <| Zi rfl <| Zi rfl <| rN) fun r6 n7 => Zn <| gIf rfl rfl (fun h8 => ?_) (fun h8 => ?_)
   ·
    refine gSR <| Zm rfl <| Za rfl <| Zn <| gRet <| eBret <| eTret <| eLret <| eMret <| eRet [] [1, 2, 3, 4] rfl (eE rfl <| eN) (Zi rfl <| Zi rfl <| Zi rfl <| Zi rfl <| rN)
   ·
    refine gSkip <| eBlk <| eThen <| gReg <| Zq (I.add rfl rfl) <| Zm rfl <| gNil <| eNext (fun aa ww h => h.sub [2, 1, 4, 3] (Zs rfl rfl rfl rfl <| sN) (Zi rfl <| Zi rfl <| Zi rfl <| Zi rfl <| rN))
  ·
   refine gExit <| eTexit <| eLeave <| eMidR (fun aa ww h => h.sub [2, 1, 4, 3] (sN) (Zi rfl <| Zi rfl <| Zi rfl <| Zi rfl <| rN))
 ·
  refine gSR <| Za rfl <| Zn <| gRet <| eRet [] [1, 2, 3, 4] rfl (eE rfl <| eN) (Zi rfl <| Zi rfl <| Zi rfl <| Zi rfl <| rN)
def slices_ContainsFunc_api_ID_api_ID_ancestry_Order_1_1 (a0 : List (Vector UInt8 32)) (c1_0 : List Bool) (c1_1 : List ((Vector UInt8 32) × Int)) : Option (Bool) :=
 slices_IndexFunc_api_ID_api_ID_ancestry_Order_1_1 a0 c1_0 c1_1 >>= fun r1 =>
 some (decide (0 ≤ r1)) >>= fun y3 =>
 some y3
theorem slices_ContainsFunc_api_ID_api_ID_ancestry_Order_1_1_ok (a0 : List (Vector UInt8 32)) (p1_0 : Value) (q1_0 : Value) (c1_0 : List Bool) (p1_1 : Value) (q1_1 : Value) (c1_1 : List ((Vector UInt8 32) × Int)) : Spec Tryz.prog 45 [.rd (sliceR (arrR 32 u8R)) a0, .val (.func (.func 46) #[] #[ptrTo p1_0 0, ptrTo p1_1 0])] [(1, some (p1_0, .box 68 [.val q1_0])), (2, some (q1_0, .list boolR 4 c1_0)), (3, some (p1_1, .box 74 [.val q1_1])), (4, some (q1_1, .map (arrR 32 u8R) i64R c1_1))] (slices_ContainsFunc_api_ID_api_ID_ancestry_Order_1_1 a0 c1_0 c1_1) (fun r nv => ⟨[.rd boolR r], [(1, some (p1_0, .box 68 [.val q1_0])), (2, some (q1_0, .list boolR 4 c1_0)), (3, some (p1_1, .box 74 [.val q1_1])), (4, some (q1_1, .map (arrR 32 u8R) i64R c1_1))]⟩) := by
 refine spec 9 Tryz.func45 rfl rfl rfl fun H w => ?_
 refine gSR <| Za rfl <| Zn <| gSR <| Zm rfl <| Zm rfl <| call [1, 2, 3, 4] [(1, 1), (2, 2), (3, 3), (4, 4)] rfl Tryz.func60 rfl rfl (slices_IndexFunc_api_ID_api_ID_ancestry_Order_1_1_ok _ _ _ _ _ _ _) (aQ rfl <| aQ rfl <| aN) (Zi rfl <| Zi rfl <| Zi rfl <| Zi rfl <| rN) fun r1 n2 => Zq (I.geq rfl rfl) <| Za rfl <| lName 4 rfl fun y3 => Zn <| gRet <| eRet [] [1, 2, 3, 4] rfl (eE rfl <| eN) (Zi rfl <| Zi rfl <| Zi rfl <| Zi rfl <| rN)
def ancestry_Order_1 (a0 : Int) (c1_0 : List Bool) (c2_0 : api_Graph) (c3_0 : List ((Vector UInt8 32) × Int)) : Option (Bool) :=
 idx c1_0 a0 >>= fun x1 =>
 if !x1 then
  idx c2_0.Ops a0 >>= fun x4 =>
  slices_ContainsFunc_api_ID_api_ID_ancestry_Order_1_1 x4.Preds c1_0 c3_0 >>= fun r6 =>
  some (!r6)
 else
  some false
theorem ancestry_Order_1_ok (a0 : Int) (p1_0 : Value) (q1_0 : Value) (c1_0 : List Bool) (p2_0 : Value) (c2_0 : api_Graph) (p3_0 : Value) (q3_0 : Value) (c3_0 : List ((Vector UInt8 32) × Int)) : Spec Tryz.prog 44 [.rd i64R a0, .val (ptrTo p1_0 0), .val (ptrTo p2_0 0), .val (ptrTo p3_0 0)] [(1, some (p1_0, .box 68 [.val q1_0])), (2, some (q1_0, .list boolR 4 c1_0)), (3, some (p2_0, .box 25 [.rd R_api_Graph c2_0])), (4, some (p3_0, .box 74 [.val q3_0])), (5, some (q3_0, .map (arrR 32 u8R) i64R c3_0))] (ancestry_Order_1 a0 c1_0 c2_0 c3_0) (fun r nv => ⟨[.rd boolR r], [(1, some (p1_0, .box 68 [.val q1_0])), (2, some (q1_0, .list boolR 4 c1_0)), (3, some (p2_0, .box 25 [.rd R_api_Graph c2_0])), (4, some (p3_0, .box 74 [.val q3_0])), (5, some (q3_0, .map (arrR 32 u8R) i64R c3_0))]⟩) := by
 refine spec 22 Tryz.func44 rfl rfl rfl fun H w => ?_
 refine gSR <| Za rfl <| Zn <| gSR <| Zq (ldV 1 rfl rfl .here sc68 rfl) <| Zm rfl <| lBind fun x1 h2 => Zq (ixO 2 rfl rfl rfl h2 tu68 ti4) <| Zq (ld 2 rfl rfl (Foc.el h2) ty4 rfl) <| Zq (not' rfl) <| Zm rfl <| lSplit 11 rfl (fun h3 => ?_) (fun h3 => ?_)
 ·
  refine lKn 10 rfl h3 <| lRun (gd rfl rfl rfl rfl) rfl rfl (faB 3 rfl rfl Tryz.underlying25 rfl (by exact ti23)) <| lRun (gd rfl rfl rfl rfl) rfl rfl (ld 3 rfl rfl ((Foc.here).part (pt_api_Graph_Ops _)) ty23 rfl) <| lRun (gd rfl rfl rfl rfl) rfl rfl (mv rfl) <| lBind fun x4 h5 => lRun (gd rfl rfl rfl rfl) rfl rfl (ixR rfl rfl h5 tu23 ti65 rfl) <| lRun (gd rfl rfl rfl rfl) rfl rfl (faR rfl (pt_api_Op_Preds _) Tryz.underlying65 rfl rfl (by exact ti22)) <| lRun (gd rfl rfl rfl rfl) rfl rfl (ldR rfl ty22) <| lRun (gd rfl rfl rfl rfl) rfl rfl (mkf mp0 (mp2 rfl rfl)) <| callg [1, 2, 4, 5] [(1, 1), (2, 2), (3, 4), (4, 5)] (gd rfl rfl rfl rfl) rfl Tryz.func45 rfl rfl (slices_ContainsFunc_api_ID_api_ID_ancestry_Order_1_1_ok _ _ _ _ _ _ _) (aQ rfl <| aQ rfl <| aN) (Zi rfl <| Zi rfl <| Zi rfl <| Zi rfl <| rN) fun r6 n7 => lRun (gd rfl rfl rfl rfl) rfl rfl (not' rfl) <| Zq (pkT rfl rfl) <| Za rfl <| Zn <| gRet <| eRet [] [1, 2, 3, 4, 5] rfl (eE rfl <| eN) (Zi rfl <| Zi rfl <| Zi rfl <| Zi rfl <| Zi rfl <| rN)
 ·
  refine lKn 10 rfl h3 <| Zk rfl <| Zk rfl <| Zk rfl <| Zk rfl <| Zk rfl <| Zk rfl <| Zk rfl <| Zk rfl <| Zk rfl <| Zq (pkF rfl rfl) <| Za rfl <| Zn <| gRet <| eRet [] [1, 2, 3, 4, 5] rfl (eE rfl <| eN) (Zi rfl <| Zi rfl <| Zi rfl <| Zi rfl <| Zi rfl <| rN)
def ancestry_Order_L2 (a0 : api_Graph) (r5 : (List ((Vector UInt8 32) × Int))) (s13 : (List Bool) × (List (Vector UInt8 32)) × Int) (s17 : Int) : Option (Sum Int Int) :=
 ancestry_Order_1 s17 s13.1 a0 r5 >>= fun r18 =>
 if !r18 then
  some (w64 (s17 + 1)) >>= fun y21 =>
  some (.inr y21)
 else
  some (.inl s17)
def ancestry_Order_L0 (a0 : api_Graph) (r5 : (List ((Vector UInt8 32) × Int))) (s13 : (List Bool) × (List (Vector UInt8 32)) × Int) : Option (Sum ((List (Vector UInt8 32))) ((List Bool) × (List (Vector UInt8 32)) × Int)) :=
 if decide (s13.2.2 < (a0.IDs.length : Int)) then
  (iter (ancestry_Order_L2 a0 r5 s13) 0) >>= fun s16 =>
  idx s13.1 s16 >>= fun x22 =>
  idx a0.IDs s16 >>= fun x24 =>
  app 32 s13.2.1 [x24] >>= fun x27 =>
  some (.inr (s13.1.set (s16 : Int).toNat true, x27, w64 (s13.2.2 + 1)))
 else
  some (.inl s13.2.1)
def ancestry_Order (a0 : api_Graph) : Option ((List (Vector UInt8 32)) × Int) :=
 dag_Check a0 >>= fun r2 =>
 if r2 != 0 then
  some ([], r2)
 else
  ancestry_places a0 >>= fun r5 =>
  mkn 1 false (a0.IDs.length : Int) >>= fun x8 =>
  (iter (ancestry_Order_L0 a0 r5) (x8, [], 0)) >>= fun s12 =>
  some (s12, 0)
end
section
open Go Go.RowKit
set_option maxRecDepth 100000
theorem ancestry_Order_ok (a0 : api_Graph) : Spec Tryz.prog 19 [.rd R_api_Graph a0] [(1001, some ((.bool true), .glob 1 (arrR 64 u32R) gtab1))] (ancestry_Order a0) (fun r nv => ⟨[.val (nv 0), .rd i64R r.2], [(1001, some (.bool true, .glob 1 (arrR 64 u32R) gtab1)), (100, some (nv 0, .list (arrR 32 u8R) 27 r.1))]⟩) := by
 refine spec 46 Tryz.func19 rfl rfl rfl fun H w => ?_
 refine gSR <| Eb rfl (bx 1 rfl) fun v1 => Za rfl <| Za rfl <| Zn <| gSeq <| gSR <| Zq (ld 1 rfl rfl Foc.here ty25 rfl) <| call [1001] [] rfl Tryz.func31 rfl rfl (dag_Check_ok _) (aQ rfl <| aN) (Zi rfl <| rN) fun r2 n3 => Za rfl <| Zn <| gSR <| Zm rfl <| Zq (I.neq rfl rfl) <| Zn <| gIf rfl rfl (fun h4 => ?_) (fun h4 => ?_)
 ·
  refine gSR <| Zm rfl <| Za rfl <| Za rfl <| Zn <| gRet <| eTret <| eNew (arrR 32 u8R) 27 2 <| eRet [(.slice none 0 0)] [1001, 2] rfl (eE rfl <| eE rfl <| eN) (Zi rfl <| Zi rfl <| rN)
 ·
  refine Zt <| gSR <| Zq (ld 1 rfl rfl Foc.here ty25 rfl) <| call [] [(100, 3)] rfl Tryz.func32 rfl rfl (ancestry_places_ok _) (aQ rfl <| aN) rN fun r5 n6 => Eb rfl (allc 4 ti74 (.val rfl)) fun v7 => Es (stoE 4 rfl rfl (.here fills_val) rfl ones_val fills_val ti74) <| Zn <| gSR <| Zq (faB 1 rfl rfl Tryz.underlying25 rfl (by exact ti22)) <| Zq (ld 1 rfl rfl ((Foc.here).part (pt_api_Graph_IDs _)) ty22 rfl) <| Zq (len' rfl .rd rfl tu22) <| lBind fun x8 h9 => Ef rfl (mks (R := boolR) 5 rfl rfl h9 tu68 ti4 Zr.bool rfl) fun v10 => Eb rfl (allc 6 ti68 (.val rfl)) fun v11 => Es (stoE 6 rfl rfl (.here fills_val) rfl ones_val fills_val ti68) <| Zn <| gSR <| Zq (mkf mp0 (mp3 rfl rfl rfl)) <| Za rfl <| Zn <| gSR <| Za rfl <| Zn <| gMid (fun (s12 : (List (Vector UInt8 32))) aa ww => ∃ nv : Nat → Value, Sta (ctx 46 H [(1001, some ((.bool true), .glob 1 (arrR 64 u32R) gtab1))] w) [(8, .val (nv 0))] [(1003, some ((nv 0), .list (arrR 32 u8R) 27 s12)), (1001, some ((.bool true), .glob 1 (arrR 64 u32R) gtab1))] aa ww) ?_ (fun s12 => ?_)
  ·
   refine gSR <| Zq (faB 1 rfl rfl Tryz.underlying25 rfl (by exact ti22)) <| Zq (ld 1 rfl rfl ((Foc.here).part (pt_api_Graph_IDs _)) ty22 rfl) <| Zq (len' rfl .rd rfl tu22) <| Zm rfl <| Zn <| gNew (arrR 32 u8R) 27 1006 <| gLoop (fun (s13 : (List Bool) × (List (Vector UInt8 32)) × Int) aa ww => ∃ nv : Nat → Value, Sta (ctx 46 H [(1001, some ((.bool true), .glob 1 (arrR 64 u32R) gtab1))] w) [(1, .val (ptrTo v1 0)), (6, .val (ptrTo v11 0)), (7, .val (.func (.func 44) #[] #[ptrTo v11 0, ptrTo v1 0, ptrTo v7 0])), (8, .val (nv 0)), (24, .rd i64R (a0.IDs.length : Int)), (25, .rd i64R s13.2.2)] [(1, some (v1, .box 25 [.rd R_api_Graph a0])), (5, some (v10, .list boolR 4 s13.1)), (6, some (v11, .box 68 [.val v10])), (3, some ((n6 0), .map (arrR 32 u8R) i64R r5)), (4, some (v7, .box 74 [.val (n6 0)])), (1005, some ((nv 0), .list (arrR 32 u8R) 27 s13.2.1)), (1001, some ((.bool true), .glob 1 (arrR 64 u32R) gtab1))] aa ww) (fun aa ww h => ⟨nvl [(.slice none 0 0)], h.sub [1, 5, 6, 3, 4, 1006, 1001] (Zs rfl rfl rfl rfl <| sS rfl <| sS rfl <| sN) (Zi rfl <| Zi rfl <| Zi rfl <| Zi rfl <| Zi rfl <| Zi rfl <| Zi rfl <| rN)⟩) (fun s13 => ?_)
   refine gEx fun n14 => gSR <| Zq (I.lss rfl rfl) <| Zn <| gSeq <| gIf rfl rfl (fun h15 => ?_) (fun h15 => ?_)
   ·
    refine Zt <| gSeq <| gBlk <| gSR <| Za rfl <| Zn <| gMid (fun (s16 : Int) aa ww => Sta (ctx 46 H [(1001, some ((.bool true), .glob 1 (arrR 64 u32R) gtab1))] w) [(1, .val (ptrTo v1 0)), (6, .val (ptrTo v11 0)), (7, .val (.func (.func 44) #[] #[ptrTo v11 0, ptrTo v1 0, ptrTo v7 0])), (8, .val (n14 0)), (9, .rd i64R s16), (24, .rd i64R (a0.IDs.length : Int)), (25, .rd i64R s13.2.2)] [(1, some (v1, .box 25 [.rd R_api_Graph a0])), (5, some (v10, .list boolR 4 s13.1)), (6, some (v11, .box 68 [.val v10])), (3, some ((n6 0), .map (arrR 32 u8R) i64R r5)), (4, some (v7, .box 74 [.val (n6 0)])), (1005, some ((n14 0), .list (arrR 32 u8R) 27 s13.2.1)), (1001, some ((.bool true), .glob 1 (arrR 64 u32R) gtab1))] aa ww) ?_ (fun s16 => ?_)
    ·
     refine gLoop (fun (s17 : Int) aa ww => Sta (ctx 46 H [(1001, some ((.bool true), .glob 1 (arrR 64 u32R) gtab1))] w) [(1, .val (ptrTo v1 0)), (6, .val (ptrTo v11 0)), (7, .val (.func (.func 44) #[] #[ptrTo v11 0, ptrTo v1 0, ptrTo v7 0])), (8, .val (n14 0)), (9, .rd i64R s17), (24, .rd i64R (a0.IDs.length : Int)), (25, .rd i64R s13.2.2)] [(1, some (v1, .box 25 [.rd R_api_Graph a0])), (5, some (v10, .list boolR 4 s13.1)), (6, some (v11, .box 68 [.val v10])), (3, some ((n6 0), .map (arrR 32 u8R) i64R r5)), (4, some (v7, .box 74 [.val (n6 0)])), (1005, some ((n14 0), .list (arrR 32 u8R) 27 s13.2.1)), (1001, some ((.bool true), .glob 1 (arrR 64 u32R) gtab1))] aa ww) (fun aa ww h => h.sub [1, 5, 6, 3, 4, 1005, 1001] (Zs rfl rfl rfl rfl <| sS rfl <| sS rfl <| sS rfl <| sN) (Zi rfl <| Zi rfl <| Zi rfl <| Zi rfl <| Zi rfl <| Zi rfl <| Zi rfl <| rN)) (fun s17 => ?_)
     refine gSeq <| gSR <| Zm rfl <| Zm rfl <| callv [6, 5, 1, 4, 3] [(1, 6), (2, 5), (3, 1), (4, 4), (5, 3)] (gd0 rfl) rfl rfl Tryz.func44 rfl rfl (ancestry_Order_1_ok _ _ _ _ _ _ _ _ _) (aQ rfl <| aN) (cQ 6 rfl <| cQ 1 rfl <| cQ 4 rfl <| cN) (Zi rfl <| Zi rfl <| Zi rfl <| Zi rfl <| Zi rfl <| rN) fun r18 n19 => Zq (not' rfl) <| Zn <| gIf rfl rfl (fun h20 => ?_) (fun h20 => ?_)
     ·
      refine Zt <| gBlk <| gReg <| Zm rfl <| Zq (I.add rfl rfl) <| Za rfl <| lName 9 rfl fun y21 => gNil <| eBlk <| eNext (fun aa ww h => h.sub [1, 5, 6, 3, 4, 1005, 1001] (Zs rfl rfl rfl rfl <| sS rfl <| sS rfl <| sS rfl <| sN) (Zi rfl <| Zi rfl <| Zi rfl <| Zi rfl <| Zi rfl <| Zi rfl <| Zi rfl <| rN))
     ·
      refine gExit <| eTexit <| eLeave <| eMid (fun aa ww h => h.sub [1, 5, 6, 3, 4, 1005, 1001] (Zs rfl rfl rfl rfl <| sS rfl <| sS rfl <| sS rfl <| sN) (Zi rfl <| Zi rfl <| Zi rfl <| Zi rfl <| Zi rfl <| Zi rfl <| Zi rfl <| rN))
    ·
     refine gSR <| Zq (ldV 6 rfl rfl .here sc68 rfl) <| Zm rfl <| lBind fun x22 h23 => Zq (ixO 5 rfl rfl rfl h23 tu68 ti4) <| Es (sto 5 rfl rfl (Foc.el h23) rfl ti4) <| Zn <| gReg <| Zm rfl <| Zq (faB 1 rfl rfl Tryz.underlying25 rfl (by exact ti22)) <| Zq (ld 1 rfl rfl ((Foc.here).part (pt_api_Graph_IDs _)) ty22 rfl) <| Zm rfl <| lBind fun x24 h25 => Zq (ixR rfl rfl h25 tu22 ti27 rfl) <| Zq (ldR rfl ty27) <| Ef rfl (lit (R := (arrR 32 u8R)) ([x24] : List (Vector UInt8 32)) 1007 (pP rfl rfl <| pN) rfl tu22 ti27 rfl rfl) fun v26 => lFrz 1007 [42] rfl (fS rfl <| fN) <| lBind fun x27 h28 => Ef rfl (apn 1005 rfl rfl rfl .rd h28 tu22 ti27 rfl rfl rfl) fun v29 => Za rfl <| gNil <| eBlk <| eThen <| gReg <| Zq (I.add rfl rfl) <| Zm rfl <| gNil <| eNext (fun aa ww h => ⟨nvl [v29], h.sub [1, 5, 6, 3, 4, 1005, 1001] (Zs rfl rfl rfl rfl <| sS rfl <| sS rfl <| sN) (Zi rfl <| Zi rfl <| Zi rfl <| Zi rfl <| Zi rfl <| Zi rfl <| Zi rfl <| rN)⟩)
   ·
    refine gExit <| eTexit <| eLeave <| eMid (fun aa ww h => ⟨nvl [(n14 0)], h.sub [1005, 1001] (sS rfl <| sN) (Zi rfl <| Zi rfl <| rN)⟩)
  ·
   refine gEx fun n30 => gSR <| Zm rfl <| Za rfl <| Za rfl <| Zn <| gRet <| eRet [(n30 0)] [1001, 1003] rfl (eE rfl <| eE rfl <| eN) (Zi rfl <| Zi rfl <| rN)
def braidref04_SameIDs_L0 (a0 : List (Vector UInt8 32)) (a1 : List (Vector UInt8 32)) (s3 : Int) : Option (Sum (Sum Bool Unit) Int) :=
 if decide (s3 < (a0.length : Int)) then
  idx a0 s3 >>= fun x5 =>
  idx a1 s3 >>= fun x7 =>
  if !decide (x5 = x7) then
   some (.inl (.inl false))
  else
   some (.inr (w64 (s3 + 1)))
 else
  some (.inl (.inr ()))
def braidref04_SameIDs (a0 : List (Vector UInt8 32)) (a1 : List (Vector UInt8 32)) : Option (Bool) :=
 if (a0.length : Int) != (a1.length : Int) then
  some false
 else
  orRet (iter (braidref04_SameIDs_L0 a0 a1) 0) fun s2 =>
  some true
theorem braidref04_SameIDs_ok (a0 : List (Vector UInt8 32)) (a1 : List (Vector UInt8 32)) : Spec Tryz.prog 15 [.rd (sliceR (arrR 32 u8R)) a0, .rd (sliceR (arrR 32 u8R)) a1] [] (braidref04_SameIDs a0 a1) (fun r nv => ⟨[.rd boolR r], []⟩) := by
 refine spec 26 Tryz.func15 rfl rfl rfl fun H w => ?_
 refine gSR <| Za rfl <| Zn <| gSeq <| gSR <| Zm rfl <| Zq (len' rfl .rd rfl tu22) <| Zm rfl <| Zq (len' rfl .rd rfl tu22) <| Zq (I.neq rfl rfl) <| Zn <| gIf rfl rfl (fun h1 => ?_) (fun h1 => ?_)
 ·
  refine gSR <| Za rfl <| Zn <| gRet <| eTret <| eRet [] [] rfl (eE rfl <| eN) (rN)
 ·
  refine Zt <| gMidR (fun (s2 : Unit) aa ww => Sta (ctx 26 H [] w) [] [] aa ww) ?_ (fun s2 => ?_)
  ·
   refine gSR <| Za rfl <| Zn <| gLoop (fun (s3 : Int) aa ww => Sta (ctx 26 H [] w) [(0, .rd (sliceR (arrR 32 u8R)) a0), (1, .rd (sliceR (arrR 32 u8R)) a1), (5, .rd i64R s3)] [] aa ww) (fun aa ww h => h.sub [] (sS rfl <| sS rfl <| sS rfl <| sN) (rN)) (fun s3 => ?_)
   refine gSeq <| gSR <| Zm rfl <| Zm rfl <| Zq (len' rfl .rd rfl tu22) <| Zq (I.lss rfl rfl) <| Zn <| gIf rfl rfl (fun h4 => ?_) (fun h4 => ?_)
   ·
    refine Zt <| gSeq <| gBlk <| gSeq <| gRegQ mixed (by kernel_rfl) <| Rq rfl (mv rfl) <| Rq rfl (mv rfl) <| qBind fun x5 h6 => Rq rfl (ixR rfl rfl h6 tu22 ti27 rfl) <| Rq rfl (ldR rfl ty27) <| Rq rfl (mv rfl) <| Rq rfl (mv rfl) <| qBind fun x7 h8 => Rq rfl (ixR rfl rfl h8 tu22 ti27 rfl) <| Rq rfl (ldR rfl ty27) <| Rq rfl (neA rfl rfl eq27 rfl rfl gq27) <| qNil <| eThen <| gIf rfl rfl (fun h9 => ?_) (fun h9 => ?_)
    ·
     refine gSR <| Za rfl <| Zn <| gRet <| eBret <| eTret <| eLret <| eMret <| eRet [] [] rfl (eE rfl <| eN) (rN)
    ·
     refine gSkip <| eBlk <| eThen <| gReg <| Zm rfl <| Zq (I.add rfl rfl) <| Za rfl <| gNil <| eNext (fun aa ww h => h.sub [] (sS rfl <| sS rfl <| sS rfl <| sN) (rN))
   ·
    refine gExit <| eTexit <| eLeave <| eMidR (fun aa ww h => h.sub [] (sN) (rN))
  ·
   refine gSR <| Za rfl <| Zn <| gRet <| eRet [] [] rfl (eE rfl <| eN) (rN)
def braidref06_Same (a0 : api_Op) (a1 : api_Op) : Option (Bool) :=
 if a0.Author == a1.Author then
  braidref04_SameIDs a0.Preds a1.Preds >>= fun r4 =>
  if r4 then
   if a0.Stamp == a1.Stamp then
    if decide (a0.Act = a1.Act) then
     some (decide (a0.Sig = a1.Sig)) >>= fun y9 =>
     some y9
    else
     some false
   else
    some false
  else
   some false
 else
  some false
theorem braidref06_Same_ok (a0 : api_Op) (a1 : api_Op) : Spec Tryz.prog 36 [.rd R_api_Op a0, .rd R_api_Op a1] [] (braidref06_Same a0 a1) (fun r nv => ⟨[.rd boolR r], []⟩) := by
 refine spec 38 Tryz.func36 rfl rfl rfl fun H w => ?_
 refine gSR <| Eb rfl (bx 1 rfl) fun v1 => Eb rfl (bx 2 rfl) fun v2 => Za rfl <| Zn <| gSR <| Zq (faB 1 rfl rfl Tryz.underlying65 rfl (by exact ti56)) <| Zq (ld 1 rfl rfl ((Foc.here).part (pt_api_Op_Author _)) ty56 rfl) <| Zq (faB 2 rfl rfl Tryz.underlying65 rfl (by exact ti56)) <| Zq (ld 2 rfl rfl ((Foc.here).part (pt_api_Op_Author _)) ty56 rfl) <| Zq (W.eql rfl rfl) <| Zm rfl <| lSplit 10 rfl (fun h3 => ?_) (fun h3 => ?_)
 ·
  refine lKn 9 rfl h3 <| lRun (gd rfl rfl rfl rfl) rfl rfl (faB 1 rfl rfl Tryz.underlying65 rfl (by exact ti22)) <| lRun (gd rfl rfl rfl rfl) rfl rfl (ld 1 rfl rfl ((Foc.here).part (pt_api_Op_Preds _)) ty22 rfl) <| lRun (gd rfl rfl rfl rfl) rfl rfl (faB 2 rfl rfl Tryz.underlying65 rfl (by exact ti22)) <| lRun (gd rfl rfl rfl rfl) rfl rfl (ld 2 rfl rfl ((Foc.here).part (pt_api_Op_Preds _)) ty22 rfl) <| callg [] [] (gd rfl rfl rfl rfl) rfl Tryz.func15 rfl rfl (braidref04_SameIDs_ok _ _) (aQ rfl <| aQ rfl <| aN) rN fun r4 n5 => Zq (pkT rfl rfl) <| Zm rfl <| lSplit 17 rfl (fun h6 => ?_) (fun h6 => ?_)
  ·
   refine lKn 15 rfl h6 <| lKn 16 rfl h6 <| lRun (gd rfl rfl rfl rfl) rfl rfl (faB 1 rfl rfl Tryz.underlying65 rfl (by exact ti57)) <| lRun (gd rfl rfl rfl rfl) rfl rfl (ld 1 rfl rfl ((Foc.here).part (pt_api_Op_Stamp _)) ty57 rfl) <| lRun (gd rfl rfl rfl rfl) rfl rfl (faB 2 rfl rfl Tryz.underlying65 rfl (by exact ti57)) <| lRun (gd rfl rfl rfl rfl) rfl rfl (ld 2 rfl rfl ((Foc.here).part (pt_api_Op_Stamp _)) ty57 rfl) <| lRun (gd rfl rfl rfl rfl) rfl rfl (U.eql rfl rfl) <| Zq (pkT rfl rfl) <| Zm rfl <| lSplit 24 rfl (fun h7 => ?_) (fun h7 => ?_)
   ·
    refine lKn 22 rfl h7 <| lKn 23 rfl h7 <| lRun (gd rfl rfl rfl rfl) rfl rfl (faB 1 rfl rfl Tryz.underlying65 rfl (by exact ti61)) <| lRun (gd rfl rfl rfl rfl) rfl rfl (ld 1 rfl rfl ((Foc.here).part (pt_api_Op_Act _)) ty61 rfl) <| lRun (gd rfl rfl rfl rfl) rfl rfl (faB 2 rfl rfl Tryz.underlying65 rfl (by exact ti61)) <| lRun (gd rfl rfl rfl rfl) rfl rfl (ld 2 rfl rfl ((Foc.here).part (pt_api_Op_Act _)) ty61 rfl) <| lRun (gd rfl rfl rfl rfl) rfl rfl (eqA rfl rfl eq61 rfl rfl gq61) <| Zq (pkT rfl rfl) <| Zm rfl <| lSplit 31 rfl (fun h8 => ?_) (fun h8 => ?_)
    ·
     refine lKn 29 rfl h8 <| lKn 30 rfl h8 <| lRun (gd rfl rfl rfl rfl) rfl rfl (faB 1 rfl rfl Tryz.underlying65 rfl (by exact ti63)) <| lRun (gd rfl rfl rfl rfl) rfl rfl (ld 1 rfl rfl ((Foc.here).part (pt_api_Op_Sig _)) ty63 rfl) <| lRun (gd rfl rfl rfl rfl) rfl rfl (faB 2 rfl rfl Tryz.underlying65 rfl (by exact ti63)) <| lRun (gd rfl rfl rfl rfl) rfl rfl (ld 2 rfl rfl ((Foc.here).part (pt_api_Op_Sig _)) ty63 rfl) <| lRun (gd rfl rfl rfl rfl) rfl rfl (eqA rfl rfl eq63 rfl rfl gq63) <| Zq (pkT rfl rfl) <| Za rfl <| lName 4 rfl fun y9 => Zn <| gRet <| eRet [] [] rfl (eE rfl <| eN) (rN)
    ·
     refine lKn 29 rfl h8 <| lKn 30 rfl h8 <| Zk rfl <| Zk rfl <| Zk rfl <| Zk rfl <| Zk rfl <| Zq (pkF rfl rfl) <| Za rfl <| Zn <| gRet <| eRet [] [] rfl (eE rfl <| eN) (rN)
   ·
    refine lKn 22 rfl h7 <| lKn 23 rfl h7 <| Zk rfl <| Zk rfl <| Zk rfl <| Zk rfl <| Zk rfl <| Zq (pkF rfl rfl) <| Zm rfl <| Zk rfl <| Zk rfl <| Zk rfl <| Zk rfl <| Zk rfl <| Zq (pkF rfl rfl) <| Za rfl <| Zn <| gRet <| eRet [] [] rfl (eE rfl <| eN) (rN)
  ·
   refine lKn 15 rfl h6 <| lKn 16 rfl h6 <| Zk rfl <| Zk rfl <| Zk rfl <| Zk rfl <| Zk rfl <| Zq (pkF rfl rfl) <| Zm rfl <| Zk rfl <| Zk rfl <| Zk rfl <| Zk rfl <| Zk rfl <| Zq (pkF rfl rfl) <| Zm rfl <| Zk rfl <| Zk rfl <| Zk rfl <| Zk rfl <| Zk rfl <| Zq (pkF rfl rfl) <| Za rfl <| Zn <| gRet <| eRet [] [] rfl (eE rfl <| eN) (rN)
 ·
  refine lKn 9 rfl h3 <| Zk rfl <| Zk rfl <| Zk rfl <| Zk rfl <| Zk rfl <| Zq (pkF rfl rfl) <| Zm rfl <| Zk rfl <| Zk rfl <| Zk rfl <| Zk rfl <| Zk rfl <| Zq (pkF rfl rfl) <| Zm rfl <| Zk rfl <| Zk rfl <| Zk rfl <| Zk rfl <| Zk rfl <| Zq (pkF rfl rfl) <| Zm rfl <| Zk rfl <| Zk rfl <| Zk rfl <| Zk rfl <| Zk rfl <| Zq (pkF rfl rfl) <| Za rfl <| Zn <| gRet <| eRet [] [] rfl (eE rfl <| eN) (rN)
def braidref09_Same_L0 (a0 : api_Graph) (a1 : api_Graph) (s8 : Int) : Option (Sum (Sum Bool Unit) Int) :=
 if decide (s8 < (a0.Ops.length : Int)) then
  idx a0.Ops s8 >>= fun x10 =>
  idx a1.Ops s8 >>= fun x12 =>
  braidref06_Same x10 x12 >>= fun r14 =>
  if !r14 then
   some (.inl (.inl false))
  else
   some (.inr (w64 (s8 + 1)))
 else
  some (.inl (.inr ()))
def braidref09_Same (a0 : api_Graph) (a1 : api_Graph) : Option (Bool) :=
 braidref04_SameIDs a0.IDs a1.IDs >>= fun r3 =>
 if !r3 then
  some false
 else
  if (a0.Ops.length : Int) != (a1.Ops.length : Int) then
   some false
  else
   orRet (iter (braidref09_Same_L0 a0 a1) 0) fun s7 =>
   some true
theorem braidref09_Same_ok (a0 : api_Graph) (a1 : api_Graph) : Spec Tryz.prog 16 [.rd R_api_Graph a0, .rd R_api_Graph a1] [] (braidref09_Same a0 a1) (fun r nv => ⟨[.rd boolR r], []⟩) := by
 refine spec 40 Tryz.func16 rfl rfl rfl fun H w => ?_
 refine gSR <| Eb rfl (bx 1 rfl) fun v1 => Eb rfl (bx 2 rfl) fun v2 => Za rfl <| Zn <| gSeq <| gSR <| Zq (faB 1 rfl rfl Tryz.underlying25 rfl (by exact ti22)) <| Zq (ld 1 rfl rfl ((Foc.here).part (pt_api_Graph_IDs _)) ty22 rfl) <| Zq (faB 2 rfl rfl Tryz.underlying25 rfl (by exact ti22)) <| Zq (ld 2 rfl rfl ((Foc.here).part (pt_api_Graph_IDs _)) ty22 rfl) <| call [] [] rfl Tryz.func15 rfl rfl (braidref04_SameIDs_ok _ _) (aQ rfl <| aQ rfl <| aN) rN fun r3 n4 => Zq (not' rfl) <| Zm rfl <| lSplit 12 rfl (fun h5 => ?_) (fun h5 => ?_)
 ·
  refine lKn 11 rfl h5 <| Zk rfl <| Zk rfl <| Zk rfl <| Zk rfl <| Zk rfl <| Zk rfl <| Zk rfl <| Zq (pkT rfl rfl) <| Zn <| gTrue rfl <| gSR <| Za rfl <| Zn <| gRet <| eTret <| eRet [] [] rfl (eE rfl <| eN) (rN)
 ·
  refine lKn 11 rfl h5 <| lRun (gd rfl rfl rfl rfl) rfl rfl (faB 1 rfl rfl Tryz.underlying25 rfl (by exact ti23)) <| lRun (gd rfl rfl rfl rfl) rfl rfl (ld 1 rfl rfl ((Foc.here).part (pt_api_Graph_Ops _)) ty23 rfl) <| lRun (gd rfl rfl rfl rfl) rfl rfl (len' rfl .rd rfl tu23) <| lRun (gd rfl rfl rfl rfl) rfl rfl (faB 2 rfl rfl Tryz.underlying25 rfl (by exact ti23)) <| lRun (gd rfl rfl rfl rfl) rfl rfl (ld 2 rfl rfl ((Foc.here).part (pt_api_Graph_Ops _)) ty23 rfl) <| lRun (gd rfl rfl rfl rfl) rfl rfl (len' rfl .rd rfl tu23) <| lRun (gd rfl rfl rfl rfl) rfl rfl (I.neq rfl rfl) <| Zq (pkF rfl rfl) <| Zn <| gIf rfl rfl (fun h6 => ?_) (fun h6 => ?_)
  ·
   refine gKn 19 rfl h6 <| gSR <| Za rfl <| Zn <| gRet <| eTret <| eRet [] [] rfl (eE rfl <| eN) (rN)
  ·
   refine gKn 19 rfl h6 <| Zt <| gMidR (fun (s7 : Unit) aa ww => Sta (ctx 40 H [] w) [] [] aa ww) ?_ (fun s7 => ?_)
   ·
    refine gSR <| Za rfl <| Zn <| gLoop (fun (s8 : Int) aa ww => Sta (ctx 40 H [] w) [(2, .val (ptrTo v1 0)), (3, .val (ptrTo v2 0)), (5, .rd i64R s8)] [(1, some (v1, .box 25 [.rd R_api_Graph a0])), (2, some (v2, .box 25 [.rd R_api_Graph a1]))] aa ww) (fun aa ww h => h.sub [1, 2] (sS rfl <| sS rfl <| sS rfl <| sN) (Zi rfl <| Zi rfl <| rN)) (fun s8 => ?_)
    refine gSeq <| gSR <| Zm rfl <| Zq (faB 1 rfl rfl Tryz.underlying25 rfl (by exact ti23)) <| Zq (ld 1 rfl rfl ((Foc.here).part (pt_api_Graph_Ops _)) ty23 rfl) <| Zq (len' rfl .rd rfl tu23) <| Zq (I.lss rfl rfl) <| Zn <| gIf rfl rfl (fun h9 => ?_) (fun h9 => ?_)
    ·
     refine Zt <| gSeq <| gBlk <| gSeq <| gRegH [] mixed rfl rfl <| hTk 0 rfl rfl (faB 1 rfl rfl Tryz.underlying25 rfl (by exact ti23)) <| hTk 1 rfl rfl (ld 1 rfl rfl ((Foc.here).part (pt_api_Graph_Ops _)) ty23 rfl) <| hTk 2 rfl rfl (mv rfl) <| hBind fun x10 h11 => hTk 3 rfl rfl (ixR rfl rfl h11 tu23 ti65 rfl) <| hTk 4 rfl rfl (ldR rfl ty65) <| hTk 5 rfl rfl (faB 2 rfl rfl Tryz.underlying25 rfl (by exact ti23)) <| hTk 6 rfl rfl (ld 2 rfl rfl ((Foc.here).part (pt_api_Graph_Ops _)) ty23 rfl) <| hTk 7 rfl rfl (mv rfl) <| hBind fun x12 h13 => hTk 8 rfl rfl (ixR rfl rfl h13 tu23 ti65 rfl) <| hTk 9 rfl rfl (ldR rfl ty65) <| hCallF 10 [] [] rfl (by kernel_rfl) rfl (gd0 rfl) rfl Tryz.func36 rfl rfl (braidref06_Same_ok _ _) (aQ rfl <| aQ rfl <| aN) rN rfl (fun _ _ => flat_bool) fun r14 n15 => hTk 11 rfl rfl (not' rfl) <| hDone (by kernel_rfl) <| eThen <| gIf rfl rfl (fun h16 => ?_) (fun h16 => ?_)
     ·
      refine gSR <| Za rfl <| Zn <| gRet <| eBret <| eTret <| eLret <| eMret <| eRet [] [] rfl (eE rfl <| eN) (rN)
     ·
      refine gSkip <| eBlk <| eThen <| gReg <| Zm rfl <| Zq (I.add rfl rfl) <| Za rfl <| gNil <| eNext (fun aa ww h => h.sub [1, 2] (sS rfl <| sS rfl <| sS rfl <| sN) (Zi rfl <| Zi rfl <| rN))
    ·
     refine gExit <| eTexit <| eLeave <| eMidR (fun aa ww h => h.sub [] (sN) (rN))
   ·
    refine gSR <| Za rfl <| Zn <| gRet <| eRet [] [] rfl (eE rfl <| eN) (rN)
end
section
open Go Go.Shelf
def sortL_ren : Go.Shelf.Ren := ⟨fun | 6 => 40 | 15 => 62 | 14 => 61 | 28 => 85 | 29 => 86 | 20 => 77 | 21 => 78 | 22 => 79 | 23 => 80 | 24 => 81 | 25 => 82 | 26 => 83 | 27 => 84 | 46 => 111 | 47 => 112 | 48 => 113 | 49 => 114 | 50 => 115 | 57 => 142 | n => n, fun | 22 => 22 | 24 => 27 | 25 => 86 | 3 => 3 | 39 => 101 | 0 => 0 | 53 => 56 | 55 => 57 | 4 => 4 | 46 => 116 | 45 => 115 | 50 => 83 | 5 => 5 | 9 => 9 | 66 => 145 | 70 => 149 | 76 => 177 | 77 => 43 | n => n, fun | n => n⟩
theorem sortL : Go.Proofs.SlLaysF0.n6 Tryz.prog sortL_ren := {
  mixed := by kernel_rfl
  f6 := ⟨Tryz.f40.name, by decide, Tryz.func40.trans (congrArg some (by kernel_rfl))⟩
  f14 := ⟨Tryz.f61.name, by decide, Tryz.func61.trans (congrArg some (by kernel_rfl))⟩
  f15 := Tryz.func62.trans (congrArg some (by kernel_rfl))
  f20 := ⟨Tryz.f77.name, by decide, Tryz.func77.trans (congrArg some (by kernel_rfl))⟩
  f21 := ⟨Tryz.f78.name, by decide, Tryz.func78.trans (congrArg some (by kernel_rfl))⟩
  f22 := ⟨Tryz.f79.name, by decide, Tryz.func79.trans (congrArg some (by kernel_rfl))⟩
  f23 := ⟨Tryz.f80.name, by decide, Tryz.func80.trans (congrArg some (by kernel_rfl))⟩
  f24 := ⟨Tryz.f81.name, by decide, Tryz.func81.trans (congrArg some (by kernel_rfl))⟩
  f25 := ⟨Tryz.f82.name, by decide, Tryz.func82.trans (congrArg some (by kernel_rfl))⟩
  f26 := ⟨Tryz.f83.name, by decide, Tryz.func83.trans (congrArg some (by kernel_rfl))⟩
  f27 := ⟨Tryz.f84.name, by decide, Tryz.func84.trans (congrArg some (by kernel_rfl))⟩
  f28 := Tryz.func85.trans (congrArg some (by kernel_rfl))
  f29 := Tryz.func86.trans (congrArg some (by kernel_rfl))
  f46 := ⟨Tryz.f111.name, by decide, Tryz.func111.trans (congrArg some (by kernel_rfl))⟩
  f47 := Tryz.func112.trans (congrArg some (by kernel_rfl))
  f48 := Tryz.func113.trans (congrArg some (by kernel_rfl))
  f49 := ⟨Tryz.f114.name, by decide, Tryz.func114.trans (congrArg some (by kernel_rfl))⟩
  f50 := ⟨Tryz.f115.name, by decide, Tryz.func115.trans (congrArg some (by kernel_rfl))⟩
  f57 := ⟨Tryz.f142.name, by decide, Tryz.func142.trans (congrArg some (by kernel_rfl))⟩
  t0 := Tryz.underlying0
  a0 := Tryz.isAgg0
  z0 := Tryz.sizeOf0
  v0 := Tryz.zeroValue0
  t3 := Tryz.underlying3
  a3 := Tryz.isAgg3
  z3 := Tryz.sizeOf3
  v3 := Tryz.zeroValue3
  t4 := Tryz.underlying4
  a4 := Tryz.isAgg4
  z4 := Tryz.sizeOf4
  v4 := Tryz.zeroValue4
  t5 := Tryz.underlying5
  a5 := Tryz.isAgg5
  z5 := Tryz.sizeOf5
  v5 := Tryz.zeroValue5
  t9 := Tryz.underlying9
  a9 := Tryz.isAgg9
  z9 := Tryz.sizeOf9
  v9 := Tryz.zeroValue9
  t22 := Tryz.underlying22
  a22 := Tryz.isAgg22
  z22 := Tryz.sizeOf22
  v22 := Tryz.zeroValue22
  t25 := Tryz.underlying86
  a25 := Tryz.isAgg86
  z25 := Tryz.sizeOf86
  v25 := Tryz.zeroValue86
  t39 := Tryz.underlying101
  a39 := Tryz.isAgg101
  z39 := Tryz.sizeOf101
  v39 := Tryz.zeroValue101
  t45 := Tryz.underlying115
  a45 := Tryz.isAgg115
  z45 := Tryz.sizeOf115
  v45 := Tryz.zeroValue115
  t46 := Tryz.underlying116
  a46 := Tryz.isAgg116
  z46 := Tryz.sizeOf116
  v46 := Tryz.zeroValue116
  t50 := Tryz.underlying83
  a50 := Tryz.isAgg83
  z50 := Tryz.sizeOf83
  v50 := Tryz.zeroValue83
  t53 := Tryz.underlying56
  a53 := Tryz.isAgg56
  z53 := Tryz.sizeOf56
  v53 := Tryz.zeroValue56
  t55 := Tryz.underlying57
  a55 := Tryz.isAgg57
  z55 := Tryz.sizeOf57
  v55 := Tryz.zeroValue57
  t66 := Tryz.underlying145
  a66 := Tryz.isAgg145
  z66 := Tryz.sizeOf145
  v66 := Tryz.zeroValue145
  t70 := Tryz.underlying149
  a70 := Tryz.isAgg149
  z70 := Tryz.sizeOf149
  v70 := Tryz.zeroValue149
  t76 := Tryz.underlying177
  a76 := Tryz.isAgg177
  z76 := Tryz.sizeOf177
  v76 := Tryz.zeroValue177
  t77 := Tryz.underlying43
  a77 := Tryz.isAgg43
  z77 := Tryz.sizeOf43
  v77 := Tryz.zeroValue43 }
end
section
open Go Go.Shelf Go.RowKit Go.Lib Go.Sort
def encID (x : Vector UInt8 32) : List Value := x.toList.map fun c => Value.int .u8 (c.toNat : Int)
theorem encID_len (x : Vector UInt8 32) : (encID x).length = 32 := by simp [encID]
theorem compareE (x y : Vector UInt8 32) (b c : Nat) (W : World) (hx : ∀ j u, (encID x)[j]? = some u → W.cell? ⟨b, 0 + j, none⟩ = some u) (hy : ∀ j u, (encID y)[j]? = some u → W.cell? ⟨c, 0 + j, none⟩ = some u) :
    (callFunc 87 #[.slice (some ⟨b, 0, none⟩) 32 32, .slice (some ⟨c, 0, none⟩) 32 32]).run Tryz.prog W = .ok (.value (.int .i64 (Lib.compareBytes x.toList y.toList))) W := by
  have lx : x.toList.length = 32 := by simp
  have ly : y.toList.length = 32 := by simp
  have e := run_compareK (P := Tryz.prog) (w := W) (p := some ⟨b, 0, none⟩) (q := some ⟨c, 0, none⟩) (c := 32) (d := 32) (x := x.toList) (y := y.toList) (xs := encID x) (ys := encID y)
    ⟨by rw [encID_len, lx], .inr ⟨b, 0, none, 32, by rfl, by omega, by decide, .inr rfl, hx⟩⟩ rfl ⟨by rw [encID_len, ly], .inr ⟨c, 0, none, 32, by rfl, by omega, by decide, .inr rfl, hy⟩⟩ rfl
  rw [lx, ly] at e
  rw [run_callFunc_extern Tryz.func87 rfl rfl (by kernel_rfl) (by kernel_rfl), e]
  rfl
set_option maxHeartbeats 1000000 in
set_option maxRecDepth 100000 in
theorem bytesCompareE (x y : Vector UInt8 32) (b c : Nat) (W : World) (hx : ∀ j u, (encID x)[j]? = some u → W.cell? ⟨b, 0 + j, none⟩ = some u) (hy : ∀ j u, (encID y)[j]? = some u → W.cell? ⟨c, 0 + j, none⟩ = some u) :
    Calls Tryz.prog 63 #[.slice (some ⟨b, 0, none⟩) 32 32, .slice (some ⟨c, 0, none⟩) 32 32] W fun e w' => e = .returned (.int .i64 (Lib.compareBytes x.toList y.toList)) ∧ w' = W := by
  have e := compareE x y b c W hx hy
  go_enter Tryz.func63, Tryz.ntmps63
  go_wp2
  go_ret
  exact ⟨rfl, rfl⟩
theorem cellAt0 {w : World} {b j : Nat} {c : Array Value} {T : TypeId} {fr : Nat × Nat} {u : Value} (h : w.heap[b]? = some (.cells c T fr)) (hj : c[j]? = some u) : w.cell? ⟨b, 0 + j, none⟩ = some u := by
  unfold World.cell?
  rw [h]
  simpa using hj
theorem cell_a0 (W : World) (xs ys : List Value) (n j : Nat) (u : Value) (h : xs[j]? = some u) : (((W.alloc (.cells xs.toArray 27)).alloc (.cells ys.toArray 27)).drewN n).cell? ⟨W.heap.size, 0 + j, none⟩ = some u :=
  cellAt0 (c := xs.toArray) (T := 27) (fr := (0, 0)) (by
    show ((W.heap.push _).push _)[W.heap.size]? = _
    rw [Array.getElem?_push_lt (by simp)]; simp) (by simpa using h)
theorem cell_a1 (W : World) (xs ys : List Value) (n j : Nat) (u : Value) (h : ys[j]? = some u) : (((W.alloc (.cells xs.toArray 27)).alloc (.cells ys.toArray 27)).drewN n).cell? ⟨W.heap.size + 1, 0 + j, none⟩ = some u :=
  cellAt0 (c := ys.toArray) (T := 27) (fr := (0, 0)) (by
    show ((W.heap.push _).push _)[W.heap.size + 1]? = _
    have : W.heap.size + 1 = (W.heap.push (Obj.cells xs.toArray 27)).size := by simp
    rw [this, Array.getElem?_push_size]) (by simpa using h)
set_option maxHeartbeats 1000000 in
set_option maxRecDepth 100000 in
theorem digestCmpE (x y : Vector UInt8 32) (W : World) : Calls Tryz.prog 41 #[.agg (encID x).toArray, .agg (encID y).toArray] W fun e w' => e = .returned (.int .i64 (Lib.compareBytes x.toList y.toList)) ∧ ∃ q os', w' = grow (W.drewN q) os' := by
  have c0 := cell_a0 W (encID x) (encID y)
  have c1 := cell_a1 W (encID x) (encID y)
  go_enter Tryz.func41, Tryz.ntmps41
  go_wp2
  go_quiet (first | (go_at_call 63; refine Calls.quiet_of_same (bytesCompareE x y _ _ _ (c0 _) (c1 _))))
  go_wp2
  go_ret
  exact ⟨rfl, nq, #[.cells (encID x).toArray 27, .cells (encID y).toArray 27], rfl⟩
end
section
open Go Go.RowKit Go.Sort
theorem rowGet {α : Type} [Inhabited α] (enc : α → List Value) (k : Nat) (hk : ∀ x, (enc x).length = k) : ∀ (l : List α) (t : Nat), t < l.length * k → (l.flatMap enc)[t]! = (enc l[t / k]!)[t % k]!
  | [], t, h => by simp at h
  | x :: l, t, h => by
    have hx := hk x
    have k0 : 0 < k := by rcases Nat.eq_zero_or_pos k with e | e; · subst e; simp at h
                          · exact e
    rw [List.flatMap_cons]
    by_cases ht : t < k
    · rw [List.getElem!_eq_getElem?_getD, List.getElem?_append_left (by omega), Nat.div_eq_of_lt ht, Nat.mod_eq_of_lt ht]
      simp
    · have hl : t - k < l.length * k := by
        simp only [List.length_cons, Nat.add_mul, Nat.one_mul] at h; omega
      have ih := rowGet enc k hk l (t - k) hl
      have e1 : t / k = (t - k) / k + 1 := by
        have h2 := Nat.add_div_right (t - k) k0
        rw [Nat.sub_add_cancel (by omega)] at h2; exact h2
      have e2 : t % k = (t - k) % k := by rw [Nat.mod_eq_sub_mod (by omega)]
      rw [List.getElem!_eq_getElem?_getD, List.getElem?_append_right (by omega), hx, e1, e2, ← List.getElem!_eq_getElem?_getD, ih]
      simp
theorem rowLen {α : Type} (enc : α → List Value) (k : Nat) (hk : ∀ x, (enc x).length = k) : ∀ l : List α, (l.flatMap enc).length = l.length * k
  | [] => by simp
  | x :: l => by rw [List.flatMap_cons, List.length_append, hk, rowLen enc k hk l, List.length_cons, Nat.add_mul, Nat.one_mul, Nat.add_comm]
theorem rowFlat {α : Type} [Inhabited α] (enc : α → List Value) (k : Nat) (hk : ∀ x, (enc x).length = k) (l : List α) : flatK enc k l.toArray = (l.flatMap enc).toArray := by
  refine ext_get! (by rw [size_flatK]; simp only [List.size_toArray, rowLen enc k hk]) fun t ht => ?_
  rw [size_flatK, List.size_toArray] at ht
  rw [get_flatK _ _ _ _ (by simpa using ht)]
  have := rowGet enc k hk l t ht
  simp at this ⊢
  rw [this]
theorem holds_of_row {α : Type} [Inhabited α] (enc : α → List Value) (k : Nat) (hk : ∀ x, (enc x).length = k) {w : World} {b : Nat} {C : Array Value} {T : TypeId} (l : List α) (hb : w.heap[b]? = some (.cells C T (0, 0))) (hc : C.toList.take (l.length * k) = l.flatMap enc) : HoldsK enc k w b 0 l.toArray := by
  intro j hj
  rw [rowFlat enc k hk] at hj ⊢
  have hj' : j < (l.flatMap enc).length := by simpa using hj
  constructor
  · refine cellAt0 hb ?_
    have e : (C.toList.take (l.length * k))[j]? = (l.flatMap enc)[j]? := by rw [hc]
    rw [List.getElem?_take_of_lt (by rw [rowLen enc k hk] at hj'; exact hj'), List.getElem?_eq_getElem hj'] at e
    rw [← Array.getElem?_toList, e]
    have : ((l.flatMap enc).toArray)[j]! = (l.flatMap enc)[j] := by rw [getElem!_pos _ j (by simpa using hj')]; simp
    rw [this]; rfl
  · simp [World.frozen?, hb]
theorem heap_other {α : Type} [Inhabited α] (enc : α → List Value) (k : Nat) (w : World) (b n : Nat) (d : Array α) (os : Array Obj) {i : Nat} (hi : i < w.heap.size) (hne : i ≠ b) : (sortWorldK enc k w b 0 n d os).heap[i]? = w.heap[i]? := by
  show (w.heap.modify b _ ++ os)[i]? = _
  rw [Array.getElem?_append_left (by simpa using hi), Array.getElem?_modify, if_neg (fun e => hne e.symm)]
theorem heap_at {α : Type} [Inhabited α] (enc : α → List Value) (k : Nat) (w : World) {b : Nat} (n : Nat) (d : Array α) (os : Array Obj) {C : Array Value} {T : TypeId} {fr : Nat × Nat} (hb : w.heap[b]? = some (.cells C T fr)) : (sortWorldK enc k w b 0 n d os).heap[b]? = some (.cells (putCells id 0 (flatK enc k d) C) T fr) := by
  have hlt : b < w.heap.size := (Array.getElem?_eq_some_iff.1 hb).1
  show (w.heap.modify b _ ++ os)[b]? = _
  rw [Array.getElem?_append_left (by simpa using hlt), Array.getElem?_modify, if_pos rfl, hb]
  rfl
theorem put_take {α : Type} [Inhabited α] (enc : α → List Value) (k : Nat) (hk : ∀ x, (enc x).length = k) (l : List α) (C : Array Value) (hC : l.length * k ≤ C.size) : (putCells id 0 (flatK enc k l.toArray) C).toList.take (l.length * k) = l.flatMap enc := by
  rw [rowFlat enc k hk]
  apply List.ext_getElem?
  intro t
  by_cases ht : t < l.length * k
  · rw [List.getElem?_take_of_lt ht, Array.getElem?_toList]
    have hl : t < (l.flatMap enc).length := by rw [rowLen enc k hk]; exact ht
    simp only [putCells, Array.getElem?_mapIdx, Nat.sub_zero, Nat.zero_add, List.size_toArray, Nat.zero_le, true_and]
    rw [Array.getElem?_eq_getElem (by omega), Option.map_some, if_pos hl, List.getElem?_eq_getElem hl]
    have : ((l.flatMap enc).toArray)[t]! = (l.flatMap enc)[t] := by rw [getElem!_pos _ t (by simpa using hl)]; simp
    rw [this]; rfl
  · rw [List.getElem?_eq_none (by simp; omega), List.getElem?_eq_none (by rw [rowLen enc k hk]; omega)]
theorem relL_flat {S : Blk} {w : World} : ∀ {l : List (Vector UInt8 32)} {cs : List Value}, relL (arrR 32 u8R) S w cs l → cs = l.flatMap encID
  | [], cs, h => h
  | x :: l, cs, h => by
    obtain ⟨c, d, rfl, h1, h2⟩ := h
    rw [List.flatMap_cons, relL_flat h2, relL_u8 h1]; rfl
theorem flat_relL {S : Blk} {w : World} : ∀ (l : List (Vector UInt8 32)), relL (arrR 32 u8R) S w (l.flatMap encID) l
  | [] => rfl
  | x :: l => ⟨encID x, l.flatMap encID, List.flatMap_cons, relL_nums x.toList, flat_relL l⟩
theorem sortSpec {P : Program} {f g T : Nat} (srt : List (Vector UInt8 32) → List (Vector UInt8 32)) (hlen : ∀ l, (srt l).length = l.length)
    (hnone : ∀ (cap : Nat) (w : World), Calls P f #[.slice none 0 cap, .func (.func g) #[] #[]] w fun e w' => e = .returned (.tuple #[]) ∧ w' = w)
    (hsome : ∀ (blk cap : Nat) (d : Array (Vector UInt8 32)) (w : World), HoldsK encID 32 w blk 0 d → blk < w.heap.size → d.size < 4611686018427387904 →
      Calls P f #[.slice (some ⟨blk, 0, none⟩) d.size cap, .func (.func g) #[] #[]] w fun e w' => e = .returned (.tuple #[]) ∧ ∃ n os, w' = sortWorldK encID 32 w blk 0 n (srt d.toList).toArray os)
    (p0 : Value) (c0 : List (Vector UInt8 32)) : Spec P f [.val p0, .val (.func (.func g) #[] #[])] [(1, some (p0, .list (arrR 32 u8R) T c0))] (chk (c0.length ≤ 1000000) >>= fun _ => some (srt c0))
      (fun r nv => ⟨[], [(1, some (p0, .list (arrR 32 u8R) T r))]⟩) := by
  intro r hr H vs w hvs hres
  have hb : c0.length ≤ 1000000 ∧ r = srt c0 := by
    unfold chk at hr
    split at hr
    · rename_i h; simp at hr; exact ⟨h, hr.symm⟩
    · simp at hr
  obtain ⟨hlen0, rfl⟩ := hb
  match vs, hvs with
  | [v0, v1], hvs =>
  obtain ⟨h0, h1, _⟩ := hvs
  have e0 : v0 = p0 := h0.1
  have e1 : v1 = .func (.func g) #[] #[] := h1.1
  subst e0; subst e1
  have hc := hres.conts 1 v0 _ rfl
  have only : ∀ r v c (q : Cont), lr [(1, some (v0, q))] r = some (v, c) → r = 1 ∧ v = v0 ∧ c = q := fun r v c q h => by
    rw [lr_cons] at h
    split at h
    · rename_i e; cases h; exact ⟨e.symm, rfl, rfl⟩
    · simp [lr, lk] at h
  rcases hc with ⟨rfl, rfl⟩ | ⟨b, o, k1, k2, b', cap, C, k3, rfl, k4, k5, k6, k7⟩
  · refine (hnone 0 w).mono fun e w' ⟨he, hw⟩ => ?_
    subst hw
    refine ⟨fun _ => undef, [], he, trivial, fun r v c h => ?_, fun r v c r' v' c' h h' hne => ?_, fun r v c h b hb => ?_, Keep.rfl'⟩
    · obtain ⟨rfl, rfl, rfl⟩ := only _ _ _ _ h
      have : srt [] = [] := List.eq_nil_of_length_eq_zero (by rw [hlen]; rfl)
      exact .inl ⟨rfl, this⟩
    · exact absurd ((only _ _ _ _ h).1.trans (only _ _ _ _ h').1.symm) hne
    · obtain ⟨rfl, rfl, rfl⟩ := only _ _ _ _ h; cases hb
  · subst k3
    simp only [rblk, Option.some.injEq] at k1
    subst k1
    have hlt : b' < w.heap.size := (Array.getElem?_eq_some_iff.1 k2).1
    have hrow := relL_flat k7
    have hsz : (arrR 32 u8R).sz = 32 := rfl
    rw [hsz] at k6 hrow
    have hC : c0.length * 32 ≤ C.size := by rw [k6]; exact Nat.mul_le_mul_right _ k4
    refine (hsome b' cap c0.toArray w (holds_of_row encID 32 encID_len c0 k2 hrow) hlt (by simp; omega)).mono fun e w' ⟨he, n, os, hw⟩ => ?_
    subst hw
    refine ⟨fun _ => undef, [], he, trivial, fun r v c h => ?_, fun r v c r' v' c' h h' hne => ?_, fun r v c h b hb => ?_, rfl, rfl, rfl, ?_, fun i hi => ?_⟩
    · obtain ⟨rfl, rfl, rfl⟩ := only _ _ _ _ h
      refine .inr ⟨b', _, rfl, heap_at encID 32 w n _ os k2, b', cap, _, by rw [hlen], rfl, by rw [hlen]; exact k4, k5, ?_, ?_⟩
      · rw [hsz, ← k6]; simp [putCells]
      · rw [hsz, put_take encID 32 encID_len (srt c0) C (by rw [hlen]; exact hC)]
        exact flat_relL _
    · exact absurd ((only _ _ _ _ h).1.trans (only _ _ _ _ h').1.symm) hne
    · obtain ⟨rfl, rfl, rfl⟩ := only _ _ _ _ h
      exact .inr ⟨1, _, _, rfl, hb⟩
    · show w.heap.size ≤ (w.heap.modify b' _ ++ os).size
      simp
    · exact heap_other encID 32 w b' n _ os hi.1 fun e => hi.2 ⟨1, _, _, rfl, by rw [e]; rfl⟩
end
section
open Go
section
variable {σ β α ρ τ : Type}
theorem bs (x : α) (f : α → Option β) : (some x >>= f) = f x := rfl
theorem bS (x : α) (f : α → Option β) : (some x >>= f) = f x := Eq.trans (rfl : (some x >>= f) = f x) rfl
theorem or_l (r : ρ) (k : τ → Option ρ) : orRet (some (.inl r)) k = some r := rfl
theorem or_r (t : τ) (k : τ → Option ρ) : orRet (some (.inr t)) k = k t := rfl
theorem iter_l {F : σ → Option (Sum β σ)} {s : σ} {b : β} (h : F s = some (.inl b)) : iter F s = some b := by rw [iter, h]; rfl
theorem iter_r {F : σ → Option (Sum β σ)} {s s' : σ} (h : F s = some (.inr s')) : iter F s = iter F s' := by rw [iter, h]; rfl
theorem iter_inv {F : σ → Option (Sum β σ)} (I : σ → Prop) (μ : σ → Nat) (Q : β → Prop) (h : ∀ s, I s → (∃ b, F s = some (.inl b) ∧ Q b) ∨ ∃ s', F s = some (.inr s') ∧ I s' ∧ μ s' < μ s) (s : σ) (hs : I s) : ∃ b, iter F s = some b ∧ Q b := by
  have key : ∀ n s, μ s = n → I s → ∃ b, iter F s = some b ∧ Q b := by
    intro n
    induction n using Nat.strongRecOn with
    | _ n ih =>
      intro s hn hs
      rcases h s hs with ⟨b, h1, h2⟩ | ⟨s', h1, h2, h3⟩
      · exact ⟨b, iter_l h1, h2⟩
      · rw [iter_r h1]; exact ih (μ s') (hn ▸ h3) s' rfl h2
  exact key _ s rfl hs
theorem iter_up {F : σ → Option (Sum β σ)} (n : Nat) (I : Nat → σ → Prop) (Q : β → Prop) (h1 : ∀ i s, i < n → I i s → ∃ s', F s = some (.inr s') ∧ I (i + 1) s') (h2 : ∀ s, I n s → ∃ b, F s = some (.inl b) ∧ Q b) (s : σ) (i : Nat) (hi : i ≤ n) (hs : I i s) : ∃ b, iter F s = some b ∧ Q b := by
  have key : ∀ k i s, n - i = k → i ≤ n → I i s → ∃ b, iter F s = some b ∧ Q b := by
    intro k
    induction k with
    | zero =>
      intro i s hk hi hs
      have : i = n := by omega
      subst this
      obtain ⟨b, h3, h4⟩ := h2 s hs
      exact ⟨b, iter_l h3, h4⟩
    | succ k ih =>
      intro i s hk hi hs
      obtain ⟨s', h3, h4⟩ := h1 i s (by omega) hs
      rw [iter_r h3]; exact ih (i + 1) s' (by omega) (by omega) h4
  exact key _ i s rfl hi hs
theorem iter_run {F : σ → Option (Sum β σ)} (n : Nat) (g : Nat → σ) {b : β} (h1 : ∀ i, i < n → F (g i) = some (.inr (g (i + 1)))) (h2 : F (g n) = some (.inl b)) : iter F (g 0) = some b := by
  obtain ⟨b', h3, rfl⟩ := iter_up n (fun i s => s = g i) (fun x => x = b) (fun i s hi hs => ⟨_, by rw [hs]; exact h1 i hi, rfl⟩) (fun s hs => ⟨_, by rw [hs]; exact h2, rfl⟩) (g 0) 0 (Nat.zero_le _) rfl
  exact h3
theorem idx_nat {l : List α} {i : Nat} (h : i < l.length) : idx l (i : Int) = some l[i] := by simp [idx, h]
theorem idx_int {l : List α} {i : Int} (h0 : 0 ≤ i) (h : i.toNat < l.length) : idx l i = some l[i.toNat] := by simp [idx, h0, h]
theorem vidx_nat {n : Nat} {v : Vector α n} {i : Nat} (h : i < n) : vidx v (i : Int) = some v[i] := by unfold vidx; rw [idx_nat (by simpa using h)]; simp
theorem vset_get {n : Nat} {v : Vector α n} {i : Int} {x : α} {j : Nat} (hj : j < n) : (vset v i x)[j] = if i.toNat = j then x else v[j] := by
  unfold vset; rw [Vector.getElem_setIfInBounds hj]
theorem chk_true {p : Prop} [Decidable p] (h : p) : chk p = some () := by simp [chk, h]
theorem app_eq {by_ : Nat} {b c : List α} (h : (b.length + c.length) * by_ ≤ 140737488355328) : app by_ b c = some (b ++ c) := by simp [app, h]
theorem mkn_eq {by_ : Nat} {x : α} {n : Nat} (h : by_ * n ≤ 281474976710656) (h2 : n ≤ 9223372036854775807) : mkn by_ x (n : Int) = some (List.replicate n x) := by
  unfold mkn; rw [if_pos ⟨by omega, by simpa using h, by omega⟩]; simp
theorem cut_eq {b : List α} {i j : Nat} (h : i ≤ j) (hj : j ≤ b.length) : cut b (i : Int) (j : Int) = some ((b.drop i).take (j - i)) := by
  unfold cut; rw [if_pos ⟨by omega, by omega, by omega⟩]; simp
end
theorem w64_eq {x : Int} (h1 : -9223372036854775808 ≤ x) (h2 : x ≤ 9223372036854775807) : w64 x = x := wrap_i64' h1 h2
theorem w64_nat {n : Nat} (h : n < 9223372036854775807) : w64 ((n : Int) + 1) = ((n + 1 : Nat) : Int) := by rw [w64_eq (by omega) (by omega)]; omega
theorem shr64_toNat (a : UInt64) (n : Nat) : (shr64 a n).toNat = a.toNat / 2 ^ (min n 64) := by
  unfold shr64
  have h1 := UInt64.toNat_lt a
  have h2 : a.toNat / 2 ^ (min n 64) ≤ a.toNat := Nat.div_le_self _ _
  simp; omega
theorem shl64_toNat (a : UInt64) (n : Nat) : (shl64 a n).toNat = a.toNat * 2 ^ (min n 64) % 18446744073709551616 := by
  unfold shl64; simp
theorem bit64 (a : UInt64) (k : Nat) (hk : k < 64) : ((shr64 a k &&& 1) == 1) = a.toNat.testBit k := by
  rw [Bool.eq_iff_iff, beq_iff_eq, ← UInt64.toNat_inj, UInt64.toNat_and, shr64_toNat, Nat.min_eq_left (by omega)]
  have : (1 : UInt64).toNat = 1 := rfl
  rw [this, Nat.and_one_is_mod, Nat.testBit_eq_decide_div_mod_eq]
  simp
end
section
open Go
def bitLen (n : Nat) : Nat := if n = 0 then 0 else n.log2 + 1
theorem bitLen_shift (n k : Nat) (h : 2 ^ k ≤ n) : bitLen n = k + bitLen (n / 2 ^ k) := by
  have hp : 0 < 2 ^ k := Nat.pow_pos (by decide)
  have h1 : n / 2 ^ k ≠ 0 := by
    have : 1 ≤ n / 2 ^ k := (Nat.le_div_iff_mul_le hp).2 (by rw [Nat.one_mul]; exact h)
    omega
  have h2 : n ≠ 0 := by omega
  unfold bitLen
  rw [if_neg h1, if_neg h2]
  have h3 : n.log2 = k + (n / 2 ^ k).log2 := by
    rw [Nat.log2_eq_iff h2]
    have h4 := (Nat.log2_eq_iff h1).1 rfl
    refine ⟨?_, ?_⟩
    · rw [Nat.pow_add, Nat.mul_comm]; exact (Nat.le_div_iff_mul_le hp).1 h4.1
    · rw [Nat.add_assoc, Nat.pow_add, Nat.mul_comm]; exact (Nat.div_lt_iff_lt_mul hp).1 h4.2
  omega
theorem bitLen_le (n k : Nat) (h : n < 2 ^ k) : bitLen n ≤ k := by
  unfold bitLen; split
  · omega
  · rename_i h0; have := (Nat.log2_lt h0).2 h; omega
def len8tab : ByteArray := ⟨#[0, 1, 2, 2, 3, 3, 3, 3, 4, 4, 4, 4, 4, 4, 4, 4, 5, 5, 5, 5, 5, 5, 5, 5, 5, 5, 5, 5, 5, 5, 5, 5, 6, 6, 6, 6, 6, 6, 6, 6, 6, 6, 6, 6, 6, 6, 6, 6, 6, 6, 6, 6, 6, 6, 6, 6, 6, 6, 6, 6, 6, 6, 6, 6, 7, 7, 7, 7, 7, 7, 7, 7, 7, 7, 7, 7, 7, 7, 7, 7, 7, 7, 7, 7, 7, 7, 7, 7, 7, 7, 7, 7, 7, 7, 7, 7, 7, 7, 7, 7, 7, 7, 7, 7, 7, 7, 7, 7, 7, 7, 7, 7, 7, 7, 7, 7, 7, 7, 7, 7, 7, 7, 7, 7, 7, 7, 7, 7, 8, 8, 8, 8, 8, 8, 8, 8, 8, 8, 8, 8, 8, 8, 8, 8, 8, 8, 8, 8, 8, 8, 8, 8, 8, 8, 8, 8, 8, 8, 8, 8, 8, 8, 8, 8, 8, 8, 8, 8, 8, 8, 8, 8, 8, 8, 8, 8, 8, 8, 8, 8, 8, 8, 8, 8, 8, 8, 8, 8, 8, 8, 8, 8, 8, 8, 8, 8, 8, 8, 8, 8, 8, 8, 8, 8, 8, 8, 8, 8, 8, 8, 8, 8, 8, 8, 8, 8, 8, 8, 8, 8, 8, 8, 8, 8, 8, 8, 8, 8, 8, 8, 8, 8, 8, 8, 8, 8, 8, 8, 8, 8, 8, 8, 8, 8, 8, 8, 8, 8, 8, 8, 8, 8, 8, 8, 8, 8]⟩
set_option maxRecDepth 100000 in
theorem len8_all : ∀ x : Fin 256, len8tab.data[x.val]? = some (UInt8.ofNat (bitLen x.val)) := by decide +kernel
def digits (n : Nat) : List UInt8 := if h : n = 0 then [] else UInt8.ofNat n :: digits (n / 256)
termination_by n
theorem digits_zero : digits 0 = [] := by rw [digits]; simp
theorem digits_pos (n : Nat) (h : n ≠ 0) : digits n = UInt8.ofNat n :: digits (n / 256) := by rw [digits]; simp [h]
def numBytes (n : Nat) : List UInt8 := if n ≤ 247 then [UInt8.ofNat n] else UInt8.ofNat (247 + (digits n).length) :: (digits n).reverse
theorem digits_len (n : Nat) : (digits n).length = (bitLen n + 7) / 8 := by
  induction n using Nat.strongRecOn with
  | _ n ih =>
    by_cases h : n = 0
    · subst h; rw [digits_zero]; simp [bitLen]
    · rw [digits_pos n h, List.length_cons, ih (n / 256) (by omega)]
      by_cases h2 : n < 256
      · have : n / 256 = 0 := by omega
        rw [this]
        have h3 : bitLen n ≤ 8 := bitLen_le n 8 h2
        have h4 : 1 ≤ bitLen n := by unfold bitLen; rw [if_neg h]; omega
        simp [bitLen] at h3 h4 ⊢
        rw [if_neg h] at h3 h4 ⊢; omega
      · have := bitLen_shift n 8 (by omega)
        rw [show (2 : Nat) ^ 8 = 256 from rfl] at this
        omega
theorem digits_get (n : Nat) : ∀ (i : Nat), i < (digits n).length → (digits n)[i]? = some (UInt8.ofNat (n / 256 ^ i)) := by
  induction n using Nat.strongRecOn with
  | _ n ih =>
    intro i hi
    by_cases h : n = 0
    · subst h; rw [digits_zero] at hi; simp at hi
    · rw [digits_pos n h] at hi ⊢
      cases i with
      | zero => simp
      | succ i =>
        simp only [List.length_cons] at hi
        rw [List.getElem?_cons_succ, ih (n / 256) (by omega) i (by omega), Nat.div_div_eq_div_mul]
        congr 3
        rw [Nat.pow_succ, Nat.mul_comm]
theorem digits_le (n : Nat) (h : n < 18446744073709551616) : (digits n).length ≤ 8 := by
  rw [digits_len]; have := bitLen_le n 64 (by simpa using h); omega
theorem numBytes_len (n : Nat) (h : n < 18446744073709551616) : 1 ≤ (numBytes n).length ∧ (numBytes n).length ≤ 9 := by
  unfold numBytes; have := digits_le n h; split <;> simp <;> omega
def fillNum (n i : Nat) : List UInt8 := UInt8.ofNat (247 + (digits n).length) :: (List.replicate ((digits n).length - i) 0 ++ ((digits n).take i).reverse)
theorem fillNum_len (n i : Nat) (h : i ≤ (digits n).length) : (fillNum n i).length = (digits n).length + 1 := by simp [fillNum]; omega
theorem fillNum_zero (n : Nat) : (List.replicate ((digits n).length + 1) (0 : UInt8)).set 0 (UInt8.ofNat (247 + (digits n).length)) = fillNum n 0 := by
  simp [fillNum, List.replicate_succ]
theorem fillNum_step (n i : Nat) (h : i < (digits n).length) : (fillNum n i).set ((digits n).length - i) (UInt8.ofNat (n / 2 ^ (8 * i))) = fillNum n (i + 1) := by
  have hg := digits_get n i h
  have he : n / 2 ^ (8 * i) = n / 256 ^ i := by rw [Nat.pow_mul]
  rw [he]
  unfold fillNum
  obtain ⟨m, hm⟩ : ∃ m, (digits n).length - i = m + 1 := ⟨(digits n).length - i - 1, by omega⟩
  have hm2 : (digits n).length - (i + 1) = m := by omega
  rw [hm, hm2, List.set_cons_succ, List.take_succ_eq_append_getElem h, List.reverse_append, List.reverse_singleton, List.replicate_succ']
  rw [List.getElem?_eq_getElem h, Option.some.injEq] at hg
  rw [hg, List.append_assoc, List.set_append_right _ _ (by simp)]
  simp
theorem fillNum_last (n : Nat) (h : 247 < n) : fillNum n (digits n).length = numBytes n := by
  unfold fillNum numBytes; rw [if_neg (by omega)]; simp
theorem digits_split (n m : Nat) (ds : List UInt8) (hm : m ≠ 0) (h : digits n = ds ++ digits m) : digits n = (ds ++ [UInt8.ofNat (m % 256)]) ++ digits (m / 256) := by
  rw [h, digits_pos m hm, List.append_assoc]
  have : UInt8.ofNat (m % 256) = UInt8.ofNat m := by
    apply UInt8.toNat_inj.1; simp
  rw [this]; rfl
theorem append_left_le {α} {l a b : List α} (h : l = a ++ b) : a.length ≤ l.length := by rw [h]; simp
def zig (n : Int) : Nat := if 0 ≤ n then (2 * n).toNat else (-2 * n - 1).toNat
theorem zig_lt {n : Int} (h1 : -9223372036854775808 ≤ n) (h2 : n ≤ 9223372036854775807) : zig n < 18446744073709551616 := by unfold zig; split <;> omega
def bytesOf (s : List UInt8) : List UInt8 × Nat := if 10000 < s.length then ([], 4) else (numBytes s.length ++ s, 0)
end
section
open Go Go.RowKit
def wf_api_Value (x : api_Value) : Prop := (fun _ => True) x.Kind ∧ inI x.Num ∧ (fun _ => True) x.Bits ∧ (fun s : List UInt8 => s.length ≤ 9223372036854775807) x.Text ∧ True
def wf_api_Act (x : api_Act) : Prop := (fun _ => True) x.Kind ∧ (fun s : List UInt8 => s.length ≤ 9223372036854775807) x.Key ∧ wf_api_Value x.Value ∧ True
def wf_api_Sig (x : api_Sig) : Prop := (fun _ => True) x.E ∧ (fun _ => True) x.S ∧ True
def wf_api_Op (x : api_Op) : Prop := (fun _ => True) x.Author ∧ (fun l : List (Vector UInt8 32) => (∀ x ∈ l, (fun v : Vector UInt8 32 => ∀ x ∈ v.toList, (fun _ => True) x) x) ∧ l.length ≤ 9223372036854775807) x.Preds ∧ (fun _ => True) x.Stamp ∧ wf_api_Act x.Act ∧ wf_api_Sig x.Sig ∧ True
def wf_api_Graph (x : api_Graph) : Prop := (fun l : List (Vector UInt8 32) => (∀ x ∈ l, (fun v : Vector UInt8 32 => ∀ x ∈ v.toList, (fun _ => True) x) x) ∧ l.length ≤ 9223372036854775807) x.IDs ∧ (fun l : List api_Op => (∀ x ∈ l, wf_api_Op x) ∧ l.length ≤ 9223372036854775807) x.Ops ∧ True
end
section
open Go
theorem andI_nat {n k : Nat} (hn : n < 9223372036854775808) (hk : k < 9223372036854775808) : andI (n : Int) (k : Int) = ((n &&& k : Nat) : Int) := by
  show IntKind.i64.wrap (BitVec.toNat (BitVec.ofInt 64 (n : Int) &&& BitVec.ofInt 64 (k : Int)) : Int) = _
  rw [BitVec.ofInt_natCast, BitVec.ofInt_natCast, BitVec.toNat_and, BitVec.toNat_ofNat, BitVec.toNat_ofNat, Nat.mod_eq_of_lt (by omega), Nat.mod_eq_of_lt (by omega)]
  have := Nat.and_le_left (n := n) (m := k)
  exact wrap_i64' (by omega) (by omega)
def okb (c : UInt8) : Bool := decide (32 ≤ c.toNat) && decide (c.toNat ≤ 126)
theorem rune_lo {b : List UInt8} {q : Nat} (h : q < b.length) (ha : (b[q]).toNat < 128) : runeAt b q = ((b[q]).toNat, 1) := by
  unfold runeAt
  exact decode_ascii ⟨b.toArray⟩ q (by show q < b.toArray.size; simpa using h) ha
theorem rune_hi {b : List UInt8} {q : Nat} (h : q < b.length) (ha : 128 ≤ (b[q]).toNat) : 128 ≤ (runeAt b q).1 := by
  unfold runeAt
  have e : ((ByteArray.mk b.toArray).get! (q + 0)).toNat = (b[q]).toNat := by
    show ((ByteArray.mk b.toArray).get! q).toNat = _
    simp [ByteArray.get!, h]
  simp only [Utf8.decode, e]
  rw [if_neg (by omega)]
  repeat' split
  all_goals (first | (simp only [Utf8.runeError]; omega) | (rename_i h1; simp at h1; omega) | omega)
theorem text1_eq (x : Int) : value_Text_1 x = some (decide (x < 32) || decide (126 < x)) := by
  unfold value_Text_1
  cases decide (x < 32) <;> rfl
theorem find_eq5 (b : List UInt8) : ∀ (rest pre : List UInt8), b = pre ++ rest →
    (rest.all okb = true → iter (strings_indexFunc_value_Text_1_L0 b true) pre.length = some (.inr ())) ∧ (rest.all okb = false → ∃ i : Nat, iter (strings_indexFunc_value_Text_1_L0 b true) pre.length = some (.inl (i : Int)))
  | [], pre, e => by
    refine ⟨fun _ => iter_l ?_, fun h => by simp at h⟩
    subst e
    unfold strings_indexFunc_value_Text_1_L0
    simp
  | c :: rest, pre, e => by
    have hlen : pre.length < b.length := by rw [e]; simp
    have hget : b[pre.length]'hlen = c := by subst e; simp
    have hF : strings_indexFunc_value_Text_1_L0 b true pre.length = if ((decide (((runeAt b pre.length).1 : Int) < 32) || decide (126 < ((runeAt b pre.length).1 : Int))) == true) then some (.inl (.inl (pre.length : Int))) else some (.inr (pre.length + (runeAt b pre.length).2)) := by
      unfold strings_indexFunc_value_Text_1_L0
      rw [if_pos hlen]
      simp only [bs, text1_eq]
    cases hc : okb c with
    | false =>
      refine ⟨fun h => by simp [hc] at h, fun _ => ⟨pre.length, iter_l ?_⟩⟩
      rw [hF, if_pos]
      by_cases h8 : c.toNat < 128
      · rw [rune_lo hlen (by rw [hget]; exact h8), hget]
        simp only [okb, Bool.and_eq_false_iff, decide_eq_false_iff_not] at hc
        simp; omega
      · have := rune_hi hlen (by rw [hget]; omega)
        simp; omega
    | true =>
      simp only [okb, Bool.and_eq_true, decide_eq_true_eq] at hc
      rw [rune_lo hlen (by rw [hget]; omega), hget, if_neg (by simp; omega)] at hF
      have ih := find_eq5 b rest (pre ++ [c]) (by simp [e])
      simp only [List.length_append, List.length_cons, List.length_nil, Nat.zero_add] at ih
      rw [iter_r hF]
      have hc' : okb c = true := by simp [okb, hc]
      simpa [hc'] using ih
theorem printable_eq (b : List UInt8) (hb : b.length ≤ 9223372036854775807) : ∀ (rest pre : List UInt8), b = pre ++ rest → iter (braidref05_Printable_L0 b) (pre.length : Int) = some (if rest.all okb then .inr () else .inl false)
  | [], pre, e => by
    refine iter_l ?_
    subst e
    unfold braidref05_Printable_L0
    simp
  | c :: rest, pre, e => by
    have hlen : pre.length < b.length := by rw [e]; simp
    have hget : b[pre.length]'hlen = c := by subst e; simp
    have hF : braidref05_Printable_L0 b (pre.length : Int) = if okb c then some (.inr ((pre.length + 1 : Nat) : Int)) else some (.inl (.inl false)) := by
      unfold braidref05_Printable_L0
      rw [if_pos (by simp <;> omega)]
      simp only [idx_nat hlen, hget, bs, w64_nat (show pre.length < 9223372036854775807 by omega)]
      simp only [okb, UInt8.lt_iff_toNat_lt, UInt8.reduceToNat]
      by_cases h1 : c.toNat < 32
      · have : ¬ 32 ≤ c.toNat := by omega
        simp [h1, this]
      · by_cases h2 : 126 < c.toNat
        · have : ¬ c.toNat ≤ 126 := by omega
          simp [h1, h2, this]
        · have h3 : 32 ≤ c.toNat := by omega
          have h4 : c.toNat ≤ 126 := by omega
          simp [h1, h2, h3, h4]
    cases hc : okb c with
    | false => rw [hc] at hF; rw [iter_l hF]; simp [hc]
    | true =>
      rw [hc] at hF
      rw [iter_r hF]
      have ih := printable_eq b hb rest (pre ++ [c]) (by simp [e])
      simp only [List.length_append, List.length_cons, List.length_nil, Nat.zero_add] at ih
      rw [ih]; simp [hc]
theorem Printable_eq (b : List UInt8) (hb : b.length ≤ 9223372036854775807) : braidref05_Printable b = some (b.all okb) := by
  have h := printable_eq b hb b [] rfl
  unfold braidref05_Printable
  rw [show (0 : Int) = (([] : List UInt8).length : Int) from rfl, h]
  cases b.all okb <;> rfl
theorem vText_eq (b : List UInt8) (hb : b.length ≤ 9223372036854775807) : value_Text b = some (if decide (30 < (b.length : Int)) then (⟨0, 0, 0, []⟩, 4) else if b.all okb then (⟨3, 0, 0, b⟩, 0) else (⟨0, 0, 0, []⟩, 8)) := by
  unfold value_Text strings_IndexFunc_value_Text_1 strings_indexFunc_value_Text_1
  cases decide (30 < (b.length : Int))
  · simp only [Bool.false_eq_true, if_false]
    obtain ⟨h1, h2⟩ := find_eq5 b b [] rfl
    simp only [List.length_nil] at h1 h2
    cases h : b.all okb
    · obtain ⟨i, hi⟩ := h2 h
      rw [hi]
      simp only [or_l, bs]
      rw [if_pos (by simp)]; rfl
    · rw [h1 h]; rfl
  · rfl
theorem split_eq (a : UInt64) : value_split a = some (((a.toNat / 4503599627370496 % 2048 : Nat) : Int), a % 4503599627370496) := by
  unfold value_split
  simp only [bs]
  have h0 := UInt64.toNat_lt a
  rw [shr64_toNat]
  have e1 : (2 : Nat) ^ (min 52 64) = 4503599627370496 := by decide
  rw [e1, w64_eq (by omega) (by omega), show (2047 : Int) = ((2047 : Nat) : Int) from rfl, andI_nat (by omega) (by omega)]
  congr 2
  · congr 1
    exact Nat.and_two_pow_sub_one_eq_mod _ 11
  · apply UInt64.toNat_inj.1
    rw [UInt64.toNat_and, UInt64.toNat_mod]
    exact Nat.and_two_pow_sub_one_eq_mod _ 52
theorem exp_eq (a : UInt64) : braidref05_Exponent a = some ((a.toNat / 4503599627370496 % 2048 : Nat) : Int) := by
  unfold braidref05_Exponent
  have h0 := UInt64.toNat_lt a
  simp only [bs, UInt64.toNat_div, UInt64.toNat_mod, UInt64.reduceToNat]
  rw [w64_eq (by omega) (by omega)]
  congr 2
  omega
def expo (a : UInt64) : Nat := a.toNat / 4503599627370496 % 2048
def mant (a : UInt64) : Nat := a.toNat % 4503599627370496
theorem expo_lt (a : UInt64) : expo a < 2048 := Nat.mod_lt _ (by omega)
def clsF (a : UInt64) : UInt8 := if expo a = 2047 then (if mant a = 0 then 4 else 5) else if expo a = 0 then (if mant a = 0 then 1 else 2) else 3
theorem mant_z (a : UInt64) : (a % 4503599627370496 == 0) = decide (mant a = 0) := by
  rw [Bool.eq_iff_iff]
  simp only [beq_iff_eq, decide_eq_true_eq, ← UInt64.toNat_inj, UInt64.toNat_mod]
  rfl
theorem vClass_eq (a : UInt64) : value_Class a = some (clsF a) := by
  unfold value_Class clsF
  rw [split_eq]
  simp only [bs]
  have hm := mant_z a
  have hne : (a % 4503599627370496 != 0) = !decide (mant a = 0) := by rw [← hm]; rfl
  have he : ((a.toNat / 4503599627370496 % 2048 : Nat) : Int) = (expo a : Int) := rfl
  rw [hne, he]
  by_cases h1 : expo a = 2047
  · rw [h1]
    by_cases h2 : mant a = 0
    · rw [decide_eq_true h2, if_pos h2]; rfl
    · rw [decide_eq_false h2, if_neg h2]; rfl
  · have e1 : ((expo a : Int) == 2047) = false := by simp; omega
    rw [if_neg h1, e1]
    simp only [Bool.false_eq_true, if_false, bs]
    by_cases h0 : expo a = 0
    · rw [h0]
      by_cases h2 : mant a = 0
      · rw [decide_eq_true h2, if_pos h2]; rfl
      · rw [decide_eq_false h2, if_neg h2]; rfl
    · have e0 : ((expo a : Int) != 0) = true := by simp; omega
      rw [e0, if_neg h0]; rfl
theorem rClass_eq (a : UInt64) : braidref05_Class a = some (clsF a) := by
  unfold braidref05_Class braidref05_Fraction clsF
  rw [exp_eq]
  simp only [bs]
  rw [mant_z a]
  have hx := expo_lt a
  show orRet (if ((expo a : Int) == 0) = true then if decide (mant a = 0) = true then some (.inl 1) else some (.inr ()) else some (.inr ())) (fun s5 => if ((expo a : Int) == 0) = true then some 2 else if decide ((expo a : Int) < 2047) = true then some 3 else if decide (mant a = 0) = true then some 4 else some 5) = _
  by_cases h1 : expo a = 2047
  · rw [h1]
    by_cases h2 : mant a = 0 <;> simp [h2, or_r, or_l]
  · by_cases h0 : expo a = 0
    · rw [h0]
      by_cases h2 : mant a = 0 <;> simp [h2, or_r, or_l]
    · have e0 : ((expo a : Int) == 0) = false := by simp; omega
      have e2 : decide ((expo a : Int) < 2047) = true := by simp; omega
      rw [e0, e2, if_neg h1, if_neg h0]; rfl
def canonF (a : UInt64) : UInt64 := if clsF a = 5 then 9221120237041090560 else a
theorem vCanon_eq (a : UInt64) : value_Canon a = some (canonF a) := by
  unfold value_Canon canonF
  rw [vClass_eq]
  simp only [bs]
  by_cases h : clsF a = 5 <;> simp [h]
theorem rCanon_eq (a : UInt64) : braidref05_Canon a = some (canonF a) := by
  unfold braidref05_Canon canonF
  rw [rClass_eq]
  simp only [bs]
  by_cases h : clsF a = 5 <;> simp [h]
theorem vFloat_eq (a : UInt64) : value_Float a = some ⟨2, 0, canonF a, []⟩ := by
  unfold value_Float; rw [vCanon_eq]; rfl
def okV (v : api_Value) : Bool :=
  if v.Kind = 1 then decide (v.Bits = 0) && decide (v.Text = [])
  else if v.Kind = 2 then decide (v.Num = 0) && decide (v.Text = []) && decide (canonF v.Bits = v.Bits)
  else if v.Kind = 3 then decide (v.Num = 0) && decide (v.Bits = 0) && decide (v.Text.length ≤ 30) && v.Text.all okb
  else false
theorem rCheck_eq (v : api_Value) (hb : v.Text.length ≤ 9223372036854775807) : braidref05_Check v = some (if okV v then 0 else 8) := by
  obtain ⟨K, n, f, t⟩ := v
  unfold braidref05_Check okV
  simp only at hb ⊢
  rw [rCanon_eq, Printable_eq t hb]
  by_cases h1 : K = 1
  · subst h1
    by_cases hf : f = 0 <;> by_cases ht : t = [] <;> simp [hf, ht]
  by_cases h2 : K = 2
  · subst h2
    by_cases hn : n = 0 <;> by_cases ht : t = [] <;> by_cases hc : canonF f = f <;> simp [hn, ht, hc, bs]
  by_cases h3 : K = 3
  · subst h3
    by_cases hl : t.length ≤ 30
    · have hl' : (t.length : Int) ≤ 30 := by omega
      by_cases hn : n = 0 <;> by_cases hf : f = 0 <;> cases t.all okb <;> simp [hn, hf, hl, hl', bs]
    · have hl' : ¬ (t.length : Int) ≤ 30 := by omega
      by_cases hn : n = 0 <;> by_cases hf : f = 0 <;> simp [hn, hf, hl, hl', bs]
  · simp [h1, h2, h3]
theorem vCheck_eq (v : api_Value) (hb : v.Text.length ≤ 9223372036854775807) : value_Check v = some (if okV v then 0 else 8) := by
  obtain ⟨K, n, f, t⟩ := v
  unfold value_Check value_Number okV
  simp only at hb ⊢
  rw [vFloat_eq, vText_eq t hb]
  by_cases h1 : K = 1
  · subst h1
    by_cases hf : f = 0 <;> by_cases ht : t = [] <;> simp [hf, ht, bs]
  by_cases h2 : K = 2
  · subst h2
    by_cases hc : canonF f = f
    · by_cases hn : n = 0 <;> by_cases ht : t = [] <;> simp [hn, ht, hc, bs]
    · have hc' : ¬ f = canonF f := fun e => hc e.symm
      by_cases hn : n = 0 <;> by_cases ht : t = [] <;> simp [hn, ht, hc, hc', bs]
  by_cases h3 : K = 3
  · subst h3
    by_cases hl : 30 < (t.length : Int)
    · have h4 : ¬ t.length ≤ 30 := by omega
      rw [decide_eq_true hl, decide_eq_false h4]
      simp [bs]
    · have h4 : t.length ≤ 30 := by omega
      rw [decide_eq_false hl, decide_eq_true h4]
      cases t.all okb <;> by_cases hn : n = 0 <;> by_cases hf : f = 0 <;> simp [hn, hf, bs]
  · have e1 : (K == 1) = false := by simpa using h1
    have e2 : (K == 2) = false := by simpa using h2
    have e3 : (K == 3) = false := by simpa using h3
    simp only [e1, e2, e3, Bool.false_eq_true, if_false, bs, h1, h2, h3]
    by_cases h0 : K = 0
    · subst h0
      split <;> rfl
    · simp [h0]
end
section
open Go
theorem refNum_L0 : ∀ (n : Nat) (a : UInt64) (ds : List UInt8) (N : Nat), a.toNat = n → digits N = ds ++ digits n → (digits N).length ≤ 8 → iter braidref04_Number_L0 (a, ds) = some (digits N) := by
  intro n
  induction n using Nat.strongRecOn with
  | _ n ih =>
    intro a ds N ha hd hl
    by_cases h0 : n = 0
    · subst h0
      refine iter_l ?_
      unfold braidref04_Number_L0
      rw [if_neg (by simp [UInt64.lt_iff_toNat_lt, ha])]
      rw [digits_zero, List.append_nil] at hd
      rw [hd]
    · have hF : braidref04_Number_L0 (a, ds) = some (.inr (a / 256, ds ++ [(a % 256).toUInt8])) := by
        unfold braidref04_Number_L0
        rw [if_pos (by simp [UInt64.lt_iff_toNat_lt, ha]; omega)]
        have : ds.length ≤ 8 := Nat.le_trans (append_left_le hd) hl
        simp only [app_eq (show (ds.length + [(a % 256).toUInt8].length) * 1 ≤ 140737488355328 by simp; omega), bs]
      rw [iter_r hF]
      have hd2 := digits_split N n ds h0 hd
      refine ih (n / 256) (Nat.div_lt_self (by omega) (by omega)) _ _ N ?_ ?_ hl
      · simp [ha]
      · rw [hd2]
        congr 2
        congr 1
        apply UInt8.toNat_inj.1
        simp [ha]
theorem refNum_L2 (s : List UInt8) (hl : s.length ≤ 8) : ∀ (i : Nat) (acc : List UInt8), i ≤ s.length → acc.length + i ≤ 100 → iter (braidref04_Number_L2 s) (acc, (i : Int) - 1) = some (acc ++ (s.take i).reverse)
  | 0, acc, _, _ => by
    refine iter_l ?_
    unfold braidref04_Number_L2
    rw [if_neg (by simp)]; simp
  | i + 1, acc, hi, ha => by
    have hlt : i < s.length := by omega
    have e : ((i + 1 : Nat) : Int) - 1 = (i : Int) := by omega
    have hF : braidref04_Number_L2 s (acc, ((i + 1 : Nat) : Int) - 1) = some (.inr (acc ++ [s[i]], (i : Int) - 1)) := by
      unfold braidref04_Number_L2
      rw [e, if_pos (by simp)]
      simp only [idx_nat hlt, bs]
      rw [app_eq (by simp; omega)]
      simp only [bs, w64_eq (show -9223372036854775808 ≤ (i : Int) - 1 by omega) (by omega)]
    rw [iter_r hF, refNum_L2 s hl i _ (by omega) (by simp; omega)]
    have : List.take (i + 1) s = List.take i s ++ [s[i]] := by rw [List.take_add_one, List.getElem?_eq_getElem hlt]; rfl
    rw [this]; simp only [List.reverse_append, List.reverse_cons, List.reverse_nil, List.nil_append, List.append_assoc]
theorem refNumber_eq (a : UInt64) : braidref04_Number a = some (numBytes a.toNat) := by
  unfold braidref04_Number numBytes
  have h0 := UInt64.toNat_lt a
  by_cases h : a.toNat ≤ 247
  · have h' : decide (a ≤ 247) = true := by simpa [UInt64.le_iff_toNat_le] using h
    rw [if_pos h', if_pos h]
    congr 2
  · have h' : ¬ decide (a ≤ 247) = true := by simpa [UInt64.le_iff_toNat_le] using h
    rw [if_neg h', if_neg h]
    have hd := digits_le a.toNat h0
    rw [refNum_L0 a.toNat a [] a.toNat rfl rfl hd]
    simp only [bs]
    rw [w64_eq (show -9223372036854775808 ≤ ((digits a.toNat).length : Int) - 1 by omega) (by omega), w64_eq (show -9223372036854775808 ≤ 247 + ((digits a.toNat).length : Int) by omega) (by omega)]
    rw [refNum_L2 _ hd _ _ (Nat.le_refl _) (by simp; omega)]
    simp only [bs, List.take_length]
    rw [show (247 + ((digits a.toNat).length : Int)) = ((247 + (digits a.toNat).length : Nat) : Int) by omega]
    congr 1
    show _ :: _ = _
    congr 1
    apply UInt8.toNat_inj.1
    simp [UInt8.ofInt]
    omega
theorem wireNum_L0 (a : UInt64) (k : Nat) (hk : k = (digits a.toNat).length) (hk8 : k ≤ 8) : iter (wire_Number_L0 a (k : Int)) (fillNum a.toNat 0, 0) = some (fillNum a.toNat k) := by
  refine iter_run k (fun i => (fillNum a.toNat i, (i : Int))) (fun i hi => ?_) ?_
  · have hf := fillNum_len a.toNat i (by omega)
    unfold wire_Number_L0
    rw [if_pos (by simp; omega)]
    simp only [w64_eq (show -9223372036854775808 ≤ 8 * (i : Int) by omega) (by omega), chk_true (show (0 : Int) ≤ 8 * (i : Int) by omega), bs, w64_eq (show -9223372036854775808 ≤ (k : Int) - (i : Int) by omega) (by omega), w64_nat (show i < 9223372036854775807 by omega)]
    rw [idx_int (by omega) (by omega)]
    simp only [bs]
    have := fillNum_step a.toNat i (by omega)
    rw [← this]
    have e1 : ((k : Int) - (i : Int)).toNat = (digits a.toNat).length - i := by omega
    have e2 : (shr64 a (8 * (i : Int)).toNat).toUInt8 = UInt8.ofNat (a.toNat / 2 ^ (8 * i)) := by
      apply UInt8.toNat_inj.1
      have e3 : (8 * (i : Int)).toNat = 8 * i := by omega
      rw [e3]
      simp only [UInt64.toNat_toUInt8, shr64_toNat, Nat.min_eq_left (show 8 * i ≤ 64 by omega)]
      simp
    rw [e1, e2]
  · unfold wire_Number_L0
    rw [if_neg (by simp)]
theorem shr_step (a : UInt64) (k : Nat) (hk : k < 64) : (shr64 a k).toNat = a.toNat / 2 ^ k := by rw [shr64_toNat, Nat.min_eq_left (by omega)]
set_option maxRecDepth 100000 in
theorem len64_eq (a : UInt64) : math_bits_Len64 a = some (bitLen a.toNat : Int) := by
  unfold math_bits_Len64
  have h0 := UInt64.toNat_lt a
  have s1 : ∃ (y : UInt64) (n : Nat), (if decide (4294967296 ≤ a) then some (shr64 a 32, (32 : Int)) else some (a, 0)) = some (y, (n : Int)) ∧ y.toNat < 2 ^ 32 ∧ n ≤ 32 ∧ bitLen a.toNat = n + bitLen y.toNat := by
    by_cases h : 4294967296 ≤ a.toNat
    · refine ⟨shr64 a 32, 32, by rw [if_pos (by simpa [UInt64.le_iff_toNat_le] using h)]; rfl, ?_, by omega, ?_⟩
      · rw [shr_step a 32 (by omega)]; omega
      · rw [shr_step a 32 (by omega)]; exact bitLen_shift _ 32 (by omega)
    · exact ⟨a, 0, by rw [if_neg (by simpa [UInt64.le_iff_toNat_le] using h)]; rfl, by omega, by omega, by omega⟩
  obtain ⟨y, n, e1, hy, hn, hb⟩ := s1
  rw [e1]; simp only [bs]
  have s2 : ∃ (z : UInt64) (k : Nat), (if decide (65536 ≤ y) then some (shr64 y 16) >>= fun y5 => some (w64 ((n : Int) + 16)) >>= fun y6 => some (y5, y6) else some (y, (n : Int))) = some (z, (k : Int)) ∧ z.toNat < 2 ^ 16 ∧ k ≤ 48 ∧ bitLen a.toNat = k + bitLen z.toNat := by
    by_cases h : 65536 ≤ y.toNat
    · refine ⟨shr64 y 16, n + 16, by rw [if_pos (by simpa [UInt64.le_iff_toNat_le] using h)]; simp only [bs, w64_eq (show -9223372036854775808 ≤ (n : Int) + 16 by omega) (by omega)]; rfl, ?_, by omega, ?_⟩
      · rw [shr_step y 16 (by omega)]; omega
      · rw [shr_step y 16 (by omega), hb, bitLen_shift y.toNat 16 (by omega)]; omega
    · exact ⟨y, n, by rw [if_neg (by simpa [UInt64.le_iff_toNat_le] using h)], by omega, by omega, hb⟩
  obtain ⟨z, k, e2, hz, hk, hb2⟩ := s2
  simp only [bs] at e2
  rw [e2]; simp only [bs]
  have s3 : ∃ (x : UInt64) (j : Nat), (if decide (256 ≤ z) then some (w64 ((k : Int) + 8)) >>= fun y9 => some (shr64 z 8, y9) else some (z, (k : Int))) = some (x, (j : Int)) ∧ x.toNat < 256 ∧ j ≤ 56 ∧ bitLen a.toNat = j + bitLen x.toNat := by
    by_cases h : 256 ≤ z.toNat
    · refine ⟨shr64 z 8, k + 8, by rw [if_pos (by simpa [UInt64.le_iff_toNat_le] using h)]; simp only [bs, w64_eq (show -9223372036854775808 ≤ (k : Int) + 8 by omega) (by omega)]; rfl, ?_, by omega, ?_⟩
      · rw [shr_step z 8 (by omega)]; omega
      · rw [shr_step z 8 (by omega), hb2, bitLen_shift z.toNat 8 (by omega)]; omega
    · exact ⟨z, k, by rw [if_neg (by simpa [UInt64.le_iff_toNat_le] using h)], by omega, by omega, hb2⟩
  obtain ⟨x, j, e3, hx, hj, hb3⟩ := s3
  simp only [bs] at e3
  rw [e3]; simp only [bs]
  have ht := len8_all ⟨x.toNat, hx⟩
  have hx8 : (x.toUInt8.toNat : Int) = ((x.toNat : Nat) : Int) := by simp; omega
  have hle : bitLen x.toNat ≤ 8 := bitLen_le _ 8 (by omega)
  rw [hx8]
  have hlist : ∀ (l : List UInt8), l = len8tab.data.toList → idx l ((x.toNat : Nat) : Int) = some (UInt8.ofNat (bitLen x.toNat)) := fun l hl => by
    subst hl
    unfold idx
    rw [if_pos (by omega)]
    simpa using ht
  refine Eq.trans (congrArg (fun o : Option UInt8 => o >>= fun x10 => some (w64 ((j : Int) + (x10.toNat : Int)))) (hlist _ ?hh)) ?_
  case hh => rfl
  simp only [bs]
  have e4 : ((UInt8.ofNat (bitLen x.toNat)).toNat : Int) = (bitLen x.toNat : Int) := by simp; omega
  rw [e4, w64_eq (by omega) (by omega), hb3]
  simp
theorem wireNumber_eq (a : UInt64) : wire_Number a = some (numBytes a.toNat) := by
  unfold wire_Number
  have h0 := UInt64.toNat_lt a
  by_cases h : a.toNat ≤ 247
  · have h' : decide (a ≤ 247) = true := by simpa [UInt64.le_iff_toNat_le] using h
    unfold numBytes
    rw [if_pos h', if_pos h]
    congr 2
  · have h' : ¬ decide (a ≤ 247) = true := by simpa [UInt64.le_iff_toNat_le] using h
    rw [if_neg h', len64_eq]
    have hd := digits_le a.toNat h0
    have hl := digits_len a.toNat
    have hb : bitLen a.toNat ≤ 64 := bitLen_le _ 64 h0
    simp only [bs]
    rw [w64_eq (show -9223372036854775808 ≤ (bitLen a.toNat : Int) + 7 by omega) (by omega)]
    have e1 : Int.tdiv ((bitLen a.toNat : Int) + 7) 8 = ((digits a.toNat).length : Int) := by
      rw [hl, show ((bitLen a.toNat : Int) + 7) = ((bitLen a.toNat + 7 : Nat) : Int) by omega]
      rfl
    rw [e1, w64_eq (show -9223372036854775808 ≤ ((digits a.toNat).length : Int) by omega) (by omega), w64_nat (by omega), mkn_eq (by omega) (by omega)]
    simp only [bs]
    rw [show (0 : Int) = ((0 : Nat) : Int) from rfl, idx_nat (by simp)]
    simp only [bs, Int.toNat_natCast]
    rw [w64_eq (show -9223372036854775808 ≤ 247 + ((digits a.toNat).length : Int) by omega) (by omega)]
    have e2 : UInt8.ofInt (247 + ((digits a.toNat).length : Int)) = UInt8.ofNat (247 + (digits a.toNat).length) := by
      apply UInt8.toNat_inj.1
      rw [show (247 + ((digits a.toNat).length : Int)) = ((247 + (digits a.toNat).length : Nat) : Int) by omega]
      simp [UInt8.ofInt]
      omega
    have := fillNum_zero a.toNat
    rw [e2, this]
    have := wireNum_L0 a (digits a.toNat).length rfl hd
    rw [show (0 : Int) = ((0 : Nat) : Int) from rfl] at this
    rw [this]
    simp only [bs]
    rw [fillNum_last a.toNat (by omega)]
end
section
open Go
theorem okV3 {v : api_Value} (h : okV v = true) (k : v.Kind = 3) : v.Num = 0 ∧ v.Bits = 0 ∧ v.Text.length ≤ 30 ∧ v.Text.all okb = true := by
  unfold okV at h; rw [if_neg (by rw [k]; decide), if_neg (by rw [k]; decide), if_pos k] at h
  simp only [Bool.and_eq_true, decide_eq_true_eq] at h
  exact ⟨h.1.1.1, h.1.1.2, h.1.2, h.2⟩
theorem okV_kind {v : api_Value} (h : okV v = true) : v.Kind = 1 ∨ v.Kind = 2 ∨ v.Kind = 3 := by
  by_cases h1 : v.Kind = 1
  · exact .inl h1
  by_cases h2 : v.Kind = 2
  · exact .inr (.inl h2)
  by_cases h3 : v.Kind = 3
  · exact .inr (.inr h3)
  · unfold okV at h; simp [h1, h2, h3] at h
theorem xor_ones (x : UInt64) : (x ^^^ 18446744073709551615).toNat = 18446744073709551615 - x.toNat := by
  have e : x ^^^ 18446744073709551615 = ~~~x := by
    apply UInt64.eq_of_toBitVec_eq
    rw [UInt64.toBitVec_xor, UInt64.toBitVec_not]
    exact BitVec.xor_allOnes
  rw [e, UInt64.toNat_not]; rfl
theorem ofInt_toNat (n : Int) : (UInt64.ofInt n).toNat = (n % 18446744073709551616).toNat := by
  simp [UInt64.ofInt]; omega
theorem zig_u (n : Int) (h : inI n) : ((shl64 (UInt64.ofInt n) 1) ^^^ (UInt64.ofInt (shrI n 63))).toNat = zig n := by
  obtain ⟨h1, h2⟩ := h
  have es : (shl64 (UInt64.ofInt n) 1).toNat = (n % 18446744073709551616).toNat * 2 % 18446744073709551616 := by
    rw [shl64_toNat, ofInt_toNat]; rfl
  by_cases h0 : 0 ≤ n
  · have e : shrI n 63 = 0 := by
      unfold shrI
      rw [show (2 : Int) ^ (min 63 64) = 9223372036854775808 from rfl, Int.fdiv_eq_ediv_of_nonneg _ (by omega)]; omega
    rw [e, show UInt64.ofInt 0 = 0 from rfl, UInt64.xor_zero, es]
    unfold zig; rw [if_pos h0]; omega
  · have e : shrI n 63 = -1 := by
      unfold shrI
      rw [show (2 : Int) ^ (min 63 64) = 9223372036854775808 from rfl, Int.fdiv_eq_ediv_of_nonneg _ (by omega)]; omega
    rw [e, show UInt64.ofInt (-1) = 18446744073709551615 from rfl, xor_ones, es]
    unfold zig; rw [if_neg h0]; omega
theorem signed_eq (n : Int) (h : inI n) : wire_Signed n = some (numBytes (zig n)) := by
  unfold wire_Signed
  rw [wireNumber_eq, zig_u n h]; rfl
theorem wbytes_eq (s : List UInt8) (h : s.length ≤ 10000) : wire_Bytes s = some (numBytes s.length ++ s, 0) := by
  unfold wire_Bytes
  rw [if_neg (by simp; omega), wireNumber_eq]
  have e : (UInt64.ofInt (s.length : Int)).toNat = s.length := by rw [ofInt_toNat]; omega
  have := numBytes_len s.length (by omega)
  simp only [bs, e]
  rw [app_eq (by omega)]; rfl
def be8 (b : UInt64) : List UInt8 := [(shr64 b 56).toUInt8, (shr64 b 48).toUInt8, (shr64 b 40).toUInt8, (shr64 b 32).toUInt8, (shr64 b 24).toUInt8, (shr64 b 16).toUInt8, (shr64 b 8).toUInt8, (shr64 b 0).toUInt8]
theorem encF_step (v : api_Value) (l : List UInt8) (k : Nat) (hl : l.length ≤ 100) (hk : k ≤ 56) : value_Encode_L1 v (l, (k : Int)) = some (.inr (l ++ [(shr64 v.Bits k).toUInt8], (k : Int) - 8)) := by
  unfold value_Encode_L1
  rw [if_pos (by simp)]
  simp only
  rw [chk_true (by omega)]
  simp only [bs, Int.toNat_natCast]
  rw [app_eq (by simp; omega)]
  simp only [bs]
  rw [w64_eq (by omega) (by omega)]
theorem encF_run (v : api_Value) : iter (value_Encode_L1 v) ([v.Kind], 56) = some (v.Kind :: be8 v.Bits) := by
  have hs := fun l k h1 h2 => encF_step v l k h1 h2
  rw [show (56 : Int) = ((56 : Nat) : Int) from rfl, iter_r (hs [v.Kind] 56 (by simp) (by omega))]
  simp only [List.cons_append, List.nil_append, show ((56 : Nat) : Int) - 8 = ((48 : Nat) : Int) from rfl]
  rw [iter_r (hs _ 48 (by simp) (by omega))]
  simp only [List.cons_append, List.nil_append, show ((48 : Nat) : Int) - 8 = ((40 : Nat) : Int) from rfl]
  rw [iter_r (hs _ 40 (by simp) (by omega))]
  simp only [List.cons_append, List.nil_append, show ((40 : Nat) : Int) - 8 = ((32 : Nat) : Int) from rfl]
  rw [iter_r (hs _ 32 (by simp) (by omega))]
  simp only [List.cons_append, List.nil_append, show ((32 : Nat) : Int) - 8 = ((24 : Nat) : Int) from rfl]
  rw [iter_r (hs _ 24 (by simp) (by omega))]
  simp only [List.cons_append, List.nil_append, show ((24 : Nat) : Int) - 8 = ((16 : Nat) : Int) from rfl]
  rw [iter_r (hs _ 16 (by simp) (by omega))]
  simp only [List.cons_append, List.nil_append, show ((16 : Nat) : Int) - 8 = ((8 : Nat) : Int) from rfl]
  rw [iter_r (hs _ 8 (by simp) (by omega))]
  simp only [List.cons_append, List.nil_append, show ((8 : Nat) : Int) - 8 = ((0 : Nat) : Int) from rfl]
  rw [iter_r (hs _ 0 (by simp) (by omega))]
  simp only [List.cons_append, List.nil_append]
  refine iter_l ?_
  unfold value_Encode_L1
  rw [if_neg (by simp)]; rfl
def encV (v : api_Value) : List UInt8 := v.Kind :: (if v.Kind = 1 then numBytes (zig v.Num) else if v.Kind = 2 then be8 v.Bits else numBytes v.Text.length ++ v.Text)
theorem zig_in {n : Int} (h : inI n) : zig n < 18446744073709551616 := zig_lt h.1 h.2
theorem enc_eq (v : api_Value) (hI : inI v.Num) (hl : v.Text.length ≤ 9223372036854775807) : value_Encode v = some (if okV v then (encV v, 0) else ([], 8)) := by
  unfold value_Encode
  rw [vCheck_eq v hl]
  cases hv : okV v
  · rfl
  simp only [bs, if_true]
  rw [if_neg (by simp)]
  unfold encV
  rcases okV_kind hv with k | k | k
  · have h1 := numBytes_len (zig v.Num) (zig_in hI)
    rw [k, signed_eq v.Num hI]
    simp only [bs]
    rw [if_pos (by decide), app_eq (by simp; omega)]; simp [bs]
  · rw [k, if_neg (by decide), if_pos (by decide), if_neg (by decide), if_pos rfl, ← k, encF_run]; rfl
  · have h3 := (okV3 hv k).2.2.1
    have h1 := numBytes_len v.Text.length (by omega)
    rw [k, wbytes_eq v.Text (by omega)]
    rw [if_neg (by decide), if_neg (by decide), if_pos (by decide), if_neg (by decide), if_neg (by decide), chk_true (by omega)]
    simp only [bs]
    rw [app_eq (by simp; omega)]; rfl
theorem refSigned_eq (n : Int) (h : inI n) : braidref04_Signed n = some (numBytes (zig n)) := by
  obtain ⟨h1, h2⟩ := h
  unfold braidref04_Signed
  by_cases h0 : 0 ≤ n
  · rw [if_pos (by simpa using h0), refNumber_eq]
    have e : (2 * UInt64.ofInt n).toNat = zig n := by
      rw [UInt64.toNat_mul, ofInt_toNat, show (2 : UInt64).toNat = 2 from rfl]
      unfold zig; rw [if_pos h0]; omega
    rw [e]; rfl
  · rw [if_neg (by simpa using h0), refNumber_eq]
    have e : ((2 * UInt64.ofInt (w64 (0 - (w64 (n + 1))))) + 1).toNat = zig n := by
      rw [w64_eq (x := n + 1) (by omega) (by omega), w64_eq (by omega) (by omega), UInt64.toNat_add, UInt64.toNat_mul, ofInt_toNat, show (2 : UInt64).toNat = 2 from rfl, show (1 : UInt64).toNat = 1 from rfl]
      unfold zig; rw [if_neg h0]; omega
    rw [e]; rfl
theorem refText_eq (s : List UInt8) (h : s.length ≤ 100000) : braidref04_Text s = some (numBytes s.length ++ s) := by
  unfold braidref04_Text
  rw [refNumber_eq]
  have e : (UInt64.ofInt (s.length : Int)).toNat = s.length := by rw [ofInt_toNat]; omega
  have := numBytes_len s.length (by omega)
  rw [e]
  simp only [bs]
  rw [app_eq (by omega)]; rfl
theorem rByt_step (v : api_Value) (l : List UInt8) (k : Nat) (hl : l.length ≤ 100) (hk : k ≤ 7) : braidref05_Bytes_L1 v (l, (k : Int)) = some (.inr (l ++ [(shr64 v.Bits (8 * k)).toUInt8], (k : Int) - 1)) := by
  unfold braidref05_Bytes_L1
  rw [if_pos (by simp)]
  simp only
  have e : w64 (8 * (k : Int)) = ((8 * k : Nat) : Int) := by rw [w64_eq (by omega) (by omega)]; omega
  rw [e, chk_true (by omega)]
  simp only [bs, Int.toNat_natCast]
  rw [app_eq (by simp; omega)]
  simp only [bs]
  rw [w64_eq (by omega) (by omega)]
theorem rByt_run (v : api_Value) : iter (braidref05_Bytes_L1 v) ([v.Kind], 7) = some (v.Kind :: be8 v.Bits) := by
  have hs := fun l k h1 h2 => rByt_step v l k h1 h2
  rw [show (7 : Int) = ((7 : Nat) : Int) from rfl, iter_r (hs [v.Kind] 7 (by simp) (by omega))]
  simp only [List.cons_append, List.nil_append, show ((7 : Nat) : Int) - 1 = ((6 : Nat) : Int) from rfl]
  rw [iter_r (hs _ 6 (by simp) (by omega))]
  simp only [List.cons_append, List.nil_append, show ((6 : Nat) : Int) - 1 = ((5 : Nat) : Int) from rfl]
  rw [iter_r (hs _ 5 (by simp) (by omega))]
  simp only [List.cons_append, List.nil_append, show ((5 : Nat) : Int) - 1 = ((4 : Nat) : Int) from rfl]
  rw [iter_r (hs _ 4 (by simp) (by omega))]
  simp only [List.cons_append, List.nil_append, show ((4 : Nat) : Int) - 1 = ((3 : Nat) : Int) from rfl]
  rw [iter_r (hs _ 3 (by simp) (by omega))]
  simp only [List.cons_append, List.nil_append, show ((3 : Nat) : Int) - 1 = ((2 : Nat) : Int) from rfl]
  rw [iter_r (hs _ 2 (by simp) (by omega))]
  simp only [List.cons_append, List.nil_append, show ((2 : Nat) : Int) - 1 = ((1 : Nat) : Int) from rfl]
  rw [iter_r (hs _ 1 (by simp) (by omega))]
  simp only [List.cons_append, List.nil_append, show ((1 : Nat) : Int) - 1 = ((0 : Nat) : Int) from rfl]
  rw [iter_r (hs _ 0 (by simp) (by omega))]
  simp only [List.cons_append, List.nil_append]
  refine iter_l ?_
  unfold braidref05_Bytes_L1
  rw [if_neg (by simp)]; rfl
theorem rBytes_eq (v : api_Value) (hI : inI v.Num) (hv : okV v = true) : braidref05_Bytes v = some (encV v) := by
  unfold encV braidref05_Bytes
  rcases okV_kind hv with k | k | k
  · have h1 := numBytes_len (zig v.Num) (zig_in hI)
    rw [k, refSigned_eq v.Num hI]
    simp only [bs]
    rw [if_pos (by decide), app_eq (by simp; omega)]; simp [bs]
  · rw [k, if_neg (by decide), if_pos (by decide), if_neg (by decide), if_pos rfl, ← k, rByt_run]; rfl
  · have h3 := (okV3 hv k).2.2.1
    have h1 := numBytes_len v.Text.length (by omega)
    rw [k, refText_eq v.Text (by omega)]
    rw [if_neg (by decide), if_neg (by decide), if_neg (by decide), if_neg (by decide), chk_true (by omega)]
    simp only [bs]
    rw [app_eq (by simp; omega)]; rfl
end
end Go.Proofs.YtjnheeekdadcpaaGreatDoor
