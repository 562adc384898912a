import Derived.Test.YtjnheeekdadcpaaGreatDoorGb
set_option linter.unusedSimpArgs false
set_option linter.unusedVariables false
namespace Go.Proofs.YtjnheeekdadcpaaGreatDoor
section
open Go Go.RowKit
set_option maxRecDepth 100000
def bytes_Compare (a0 : List UInt8) (a1 : List UInt8) : Option (Int) :=
 some (Lib.compareBytes a0 a1) >>= fun y1 =>
 some y1
theorem bytes_Compare_ok (a0 : List UInt8) (a1 : List UInt8) : Spec Tryz.prog 63 [.rd (sliceR u8R) a0, .rd (sliceR u8R) a1] [] (bytes_Compare a0 a1) (fun r nv => ⟨[.rd i64R r], []⟩) := by
 refine spec 8 Tryz.func63 rfl rfl rfl fun H w => ?_
 refine gSR <| Za rfl <| Zn <| gSR <| Zm rfl <| Zm rfl <| Zq (cmpB rfl rfl Tryz.func87 rfl rfl (by kernel_rfl) (by kernel_rfl)) <| Za rfl <| lName 4 rfl fun y1 => Zn <| gRet <| eRet [] [] rfl (eE rfl <| eN) (rN)
def digest_Cmp (a0 : Vector UInt8 32) (a1 : Vector UInt8 32) : Option (Int) :=
 bytes_Compare a0.toList a1.toList >>= fun r3 =>
 some r3
theorem digest_Cmp_ok (a0 : Vector UInt8 32) (a1 : Vector UInt8 32) : Spec Tryz.prog 41 [.rd (arrR 32 u8R) a0, .rd (arrR 32 u8R) a1] [] (digest_Cmp a0 a1) (fun r nv => ⟨[.rd i64R r], []⟩) := by
 refine spec 8 Tryz.func41 rfl rfl rfl fun H w => ?_
 refine gSR <| Eb rfl (bx 1 rfl) fun v1 => Eb rfl (bx 2 rfl) fun v2 => Za rfl <| Zn <| gSeq <| gFrzB 1 2 rfl rfl <| gFrzB 2 3 rfl rfl <| gRegH [] mixed rfl rfl <| hTk 0 rfl rfl (cutV rfl tu27 ti5 rfl rfl rfl) <| hTk 1 rfl rfl (cutV rfl tu27 ti5 rfl rfl rfl) <| hCallF 2 [] [] rfl (by kernel_rfl) rfl (gd0 rfl) rfl Tryz.func63 rfl rfl (bytes_Compare_ok _ _) (aQ rfl <| aQ rfl <| aN) rN rfl (fun _ _ => flat_num) fun r3 n4 => hTk 3 rfl rfl (asg rfl) <| hDone (by kernel_rfl) <| eThen <| gRet <| eRet [] [] rfl (eE rfl <| eN) (rN)
def slices_Clone_api_ID_api_ID (a0 : List (Vector UInt8 32)) : Option ((List (Vector UInt8 32))) :=
 app 32 ([] : List (Vector UInt8 32)) a0 >>= fun x3 =>
 some x3
theorem slices_Clone_api_ID_api_ID_ok (a0 : List (Vector UInt8 32)) : Spec Tryz.prog 38 [.rd (sliceR (arrR 32 u8R)) a0] [] (slices_Clone_api_ID_api_ID a0) (fun r nv => ⟨[.val (nv 0)], [(100, some (nv 0, .list (arrR 32 u8R) 27 r))]⟩) := by
 refine spec 8 Tryz.func38 rfl rfl rfl fun H w => ?_
 refine gSR <| Za rfl <| Zn <| gSeq <| gSR <| Zm rfl <| lNilE rfl rfl .rd rfl tu22 (fun h1 => ?_) ?_
 ·
  subst h1
  refine Zn <| gTrue rfl <| gSR <| Za rfl <| Zn <| gRet <| eTret <| eNew (arrR 32 u8R) 27 1 <| eRet [(.slice none 0 0)] [1] rfl (eE rfl <| eN) (Zi rfl <| rN)
 ·
  refine Zn <| gFalse rfl <| Zt <| gSR <| Ef rfl (lit (R := (arrR 32 u8R)) (([] : List (Vector UInt8 32)) : List (Vector UInt8 32)) 2 (pN) rfl tu22 ti27 rfl rfl) fun v2 => Zm rfl <| lBind fun x3 h4 => Ef rfl (apn 2 rfl rfl rfl .rd h4 tu22 ti27 rfl rfl rfl) fun v5 => Za rfl <| Zn <| gRet <| eRet [v5] [2] rfl (eE rfl <| eN) (Zi rfl <| rN)
def group_mul_L0 (a0 : UInt64) (a1 : List UInt32) (s2 : UInt64 × Int) : Option (Sum UInt64 (UInt64 × Int)) :=
 if decide (s2.2 < (a1.length : Int)) then
  idx a1 s2.2 >>= fun x4 =>
  chk (a0 ≠ 0) >>= fun u6 =>
  some ((s2.1 * x4.toUInt64) % a0) >>= fun y8 =>
  some (.inr (y8, w64 (s2.2 + 1)))
 else
  some (.inl s2.1)
def group_mul (a0 : UInt64) (a1 : List UInt32) : Option (UInt32) :=
 (iter (group_mul_L0 a0 a1) (1, 0)) >>= fun s1 =>
 some s1.toUInt32
theorem group_mul_ok (a0 : UInt64) (a1 : List UInt32) : Spec Tryz.prog 128 [.rd u64R a0, .rd (sliceR u32R) a1] [] (group_mul a0 a1) (fun r nv => ⟨[.rd u32R r], []⟩) := by
 refine spec 23 Tryz.func128 rfl rfl rfl fun H w => ?_
 refine gSR <| Za rfl <| Zn <| gSR <| Za rfl <| Zn <| gMid (fun (s1 : UInt64) aa ww => Sta (ctx 23 H [] w) [(5, .rd u64R s1)] [] aa ww) ?_ (fun s1 => ?_)
 ·
  refine gSR <| Zm rfl <| Zq (len' rfl .rd rfl tu188) <| Zm rfl <| Zn <| gLoop (fun (s2 : UInt64 × Int) aa ww => Sta (ctx 23 H [] w) [(0, .rd u64R a0), (5, .rd u64R s2.1), (8, .rd (sliceR u32R) a1), (9, .rd i64R (a1.length : Int)), (10, .rd i64R s2.2)] [] aa ww) (fun aa ww h => h.sub [] (Zs rfl rfl rfl rfl <| sS rfl <| sN) (rN)) (fun s2 => ?_)
  refine gSR <| Zq (I.lss rfl rfl) <| Zn <| gSeq <| gIf rfl rfl (fun h3 => ?_) (fun h3 => ?_)
  ·
   refine Zt <| gSeq <| gBlk <| gSR <| lBind fun x4 h5 => Zq (ixR rfl rfl h5 tu188 ti56 rfl) <| Zq (ldR rfl ty56) <| Za rfl <| Zn <| gReg <| Zm rfl <| Zm rfl <| Zq (W.toU rfl tu56 tu57) <| Zq (U.mul rfl rfl) <| Zm rfl <| lBind fun u6 h7 => Zq (U.rem rfl rfl (chk_some h7)) <| Za rfl <| lName 5 rfl fun y8 => gNil <| eBlk <| eThen <| gReg <| Zq (I.add rfl rfl) <| Zm rfl <| gNil <| eNext (fun aa ww h => h.sub [] (Zs rfl rfl rfl rfl <| sS rfl <| sN) (rN))
  ·
   refine gExit <| eTexit <| eLeave <| eMid (fun aa ww h => h.sub [] (sS rfl <| sN) (rN))
 ·
  refine gSR <| Zm rfl <| Zq (U.toW rfl tu57 tu56) <| Za rfl <| Zn <| gRet <| eRet [] [] rfl (eE rfl <| eN) (rN)
def group_pow_1 (c0_0 : UInt32) : Option (UInt32) :=
 group_mul 1000000007 [c0_0, c0_0] >>= fun r2 =>
 some r2
theorem group_pow_1_ok (p0_0 : Value) (c0_0 : UInt32) : Spec Tryz.prog 146 [.val (ptrTo p0_0 0)] [(1, some (p0_0, .box 56 [.rd u32R c0_0]))] (group_pow_1 c0_0) (fun r nv => ⟨[], [(1, some (p0_0, .box 56 [.rd u32R r]))]⟩) := by
 refine spec 5 Tryz.func146 rfl rfl rfl fun H w => ?_
 refine gReg <| Zq (ld 1 rfl rfl Foc.here ty56 rfl) <| Zq (ld 1 rfl rfl Foc.here ty56 rfl) <| Ef rfl (lit (R := u32R) ([c0_0, c0_0] : List UInt32) 2 (pP rfl rfl <| pP rfl rfl <| pN) rfl tu188 ti56 rfl rfl) fun v1 => lFrz 2 [3] rfl (fS rfl <| fN) <| call [] [] rfl Tryz.func128 rfl rfl (group_mul_ok _ _) (aQ rfl <| aQ rfl <| aN) rN fun r2 n3 => Es (sto 1 rfl rfl Foc.here rfl ti56) <| gNil <| eRet [] [1] rfl (eN) (Zi rfl <| rN)
def group_pow_L0 (a0 : UInt32) (a1 : UInt64) (s3 : UInt32 × Int) : Option (Sum UInt32 (UInt32 × Int)) :=
 if decide (s3.2 < 64) then
  group_pow_1 s3.1 >>= fun r5 =>
  chk (0 ≤ w64 (63 - s3.2)) >>= fun u7 =>
  if ((shr64 a1 ((w64 (63 - s3.2) : Int).toNat)) &&& 1) == 1 then
   group_mul 1000000007 [r5, a0] >>= fun r11 =>
   some (.inr (r11, w64 (s3.2 + 1)))
  else
   some (.inr (r5, w64 (s3.2 + 1)))
 else
  some (.inl s3.1)
def group_pow (a0 : UInt32) (a1 : UInt64) : Option (UInt32) :=
 (iter (group_pow_L0 a0 a1) (1, 0)) >>= fun s2 =>
 some s2
theorem group_pow_ok (a0 : UInt32) (a1 : UInt64) : Spec Tryz.prog 122 [.rd u32R a0, .rd u64R a1] [] (group_pow a0 a1) (fun r nv => ⟨[.rd u32R r], []⟩) := by
 refine spec 26 Tryz.func122 rfl rfl rfl fun H w => ?_
 refine gSR <| Za rfl <| Zn <| gSR <| Eb rfl (allc 1 ti56 (.zr (R := u32R) (x := 0) (Zr.num rfl))) fun v1 => Es (sto 1 rfl rfl Foc.here rfl ti56) <| Zn <| gSR <| Zq (mkf mp0 (mp1 rfl)) <| Za rfl <| Zn <| gMid (fun (s2 : UInt32) aa ww => Sta (ctx 26 H [] w) [(5, .val (ptrTo v1 0))] [(1, some (v1, .box 56 [.rd u32R s2]))] aa ww) ?_ (fun s2 => ?_)
 ·
  refine gSR <| Zm rfl <| Zn <| gLoop (fun (s3 : UInt32 × Int) aa ww => Sta (ctx 26 H [] w) [(0, .rd u32R a0), (1, .rd u64R a1), (5, .val (ptrTo v1 0)), (6, .val (.func (.func 146) #[] #[ptrTo v1 0])), (9, .rd i64R s3.2)] [(1, some (v1, .box 56 [.rd u32R s3.1]))] aa ww) (fun aa ww h => h.sub [1] (Zs rfl rfl rfl rfl <| sS rfl <| sN) (Zi rfl <| rN)) (fun s3 => ?_)
  refine gSR <| Zq (I.lss rfl rfl) <| Zn <| gSeq <| gIf rfl rfl (fun h4 => ?_) (fun h4 => ?_)
  ·
   refine Zt <| gSeq <| gBlk <| gSR <| Zm rfl <| Za rfl <| Zn <| gSR <| Zm rfl <| callv [1] [(1, 1)] (gd0 rfl) rfl rfl Tryz.func146 rfl rfl (group_pow_1_ok _ _) (aN) (cQ 1 rfl <| cN) (Zi rfl <| rN) fun r5 n6 => Zn <| gSR <| Zm rfl <| Zm rfl <| Zq (I.sub rfl rfl) <| lBind fun u7 h8 => Zq (U.shr rfl rfl (chk_some h8)) <| Zq (U.and rfl rfl) <| Zq (U.eql rfl rfl) <| Zn <| gIf rfl rfl (fun h9 => ?_) (fun h9 => ?_)
   ·
    refine gReg <| Zq (ld 1 rfl rfl Foc.here ty56 rfl) <| Zm rfl <| Ef rfl (lit (R := u32R) ([r5, a0] : List UInt32) 2 (pP rfl rfl <| pP rfl rfl <| pN) rfl tu188 ti56 rfl rfl) fun v10 => lFrz 2 [22] rfl (fS rfl <| fN) <| call [] [] rfl Tryz.func128 rfl rfl (group_mul_ok _ _) (aQ rfl <| aQ rfl <| aN) rN fun r11 n12 => Es (sto 1 rfl rfl Foc.here rfl ti56) <| gNil <| eBlk <| eThen <| gReg <| Zq (I.add rfl rfl) <| Zm rfl <| gNil <| eNext (fun aa ww h => h.sub [1] (Zs rfl rfl rfl rfl <| sS rfl <| sN) (Zi rfl <| rN))
   ·
    refine gSkip <| eBlk <| eThen <| gReg <| Zq (I.add rfl rfl) <| Zm rfl <| gNil <| eNext (fun aa ww h => h.sub [1] (Zs rfl rfl rfl rfl <| sS rfl <| sN) (Zi rfl <| rN))
  ·
   refine gExit <| eTexit <| eLeave <| eMid (fun aa ww h => h.sub [1] (sS rfl <| sN) (Zi rfl <| rN))
 ·
  refine gSR <| Zq (ld 1 rfl rfl Foc.here ty56 rfl) <| Za rfl <| Zn <| gRet <| eRet [] [] rfl (eE rfl <| eN) (rN)
def group_Is (a0 : UInt32) : Option (Bool) :=
 if decide (0 < a0) then
  if decide (a0 < 1000000007) then
   group_pow a0 500000003 >>= fun r3 =>
   some (r3 == 1)
  else
   some false
 else
  some false
theorem group_Is_ok (a0 : UInt32) : Spec Tryz.prog 92 [.rd u32R a0] [] (group_Is a0) (fun r nv => ⟨[.rd boolR r], []⟩) := by
 refine spec 14 Tryz.func92 rfl rfl rfl fun H w => ?_
 refine gSR <| Za rfl <| Zn <| gSR <| Zm rfl <| Zq (W.gtr rfl rfl) <| Zm rfl <| lSplit 5 rfl (fun h1 => ?_) (fun h1 => ?_)
 ·
  refine lKn 4 rfl h1 <| lRun (gd rfl rfl rfl rfl) rfl rfl (mv rfl) <| lRun (gd rfl rfl rfl rfl) rfl rfl (W.lss rfl rfl) <| Zq (pkT rfl rfl) <| Zm rfl <| lSplit 9 rfl (fun h2 => ?_) (fun h2 => ?_)
  ·
   refine lKn 7 rfl h2 <| lKn 8 rfl h2 <| lRun (gd rfl rfl rfl rfl) rfl rfl (mv rfl) <| callg [] [] (gd rfl rfl rfl rfl) rfl Tryz.func122 rfl rfl (group_pow_ok _ _) (aQ rfl <| aQ rfl <| aN) rN fun r3 n4 => lRun (gd rfl rfl rfl rfl) rfl rfl (W.eql rfl rfl) <| Zq (pkT rfl rfl) <| Za rfl <| Zn <| gRet <| eRet [] [] rfl (eE rfl <| eN) (rN)
  ·
   refine lKn 7 rfl h2 <| lKn 8 rfl h2 <| Zk rfl <| Zk rfl <| Zk rfl <| Zq (pkF rfl rfl) <| Za rfl <| Zn <| gRet <| eRet [] [] rfl (eE rfl <| eN) (rN)
 ·
  refine lKn 4 rfl h1 <| Zk rfl <| Zk rfl <| Zq (pkF rfl rfl) <| Zm rfl <| Zk rfl <| Zk rfl <| Zk rfl <| Zq (pkF rfl rfl) <| Za rfl <| Zn <| gRet <| eRet [] [] rfl (eE rfl <| eN) (rN)
def op_key_1 (a0 : Int) : Option (Bool) :=
 if decide (a0 < 33) then
  some true
 else
  some (decide (126 < a0)) >>= fun y2 =>
  some y2
theorem op_key_1_ok (a0 : Int) : Spec Tryz.prog 148 [.rd i32R a0] [] (op_key_1 a0) (fun r nv => ⟨[.rd boolR r], []⟩) := by
 refine spec 9 Tryz.func148 rfl rfl rfl fun H w => ?_
 refine gSR <| Za rfl <| Zn <| gSR <| Zm rfl <| Zq (J.lss rfl rfl) <| Zm rfl <| lSplit 5 rfl (fun h1 => ?_) (fun h1 => ?_)
 ·
  refine lKn 4 rfl h1 <| Zk rfl <| Zk rfl <| Zq (pkT rfl rfl) <| Za rfl <| Zn <| gRet <| eRet [] [] rfl (eE rfl <| eN) (rN)
 ·
  refine lKn 4 rfl h1 <| lRun (gd rfl rfl rfl rfl) rfl rfl (mv rfl) <| lRun (gd rfl rfl rfl rfl) rfl rfl (J.gtr rfl rfl) <| Zq (pkF rfl rfl) <| Za rfl <| lName 2 rfl fun y2 => Zn <| gRet <| eRet [] [] rfl (eE rfl <| eN) (rN)
def strings_indexFunc_op_key_1_L0 (a0 : List UInt8) (a2 : Bool) (s3 : Nat) : Option (Sum (Sum Int Unit) Nat) :=
 if s3 < (a0).length then
  some ((runeAt a0 s3).1 : Int) >>= fun y5 =>
  op_key_1 y5 >>= fun r6 =>
  if r6 == a2 then
   some (.inl (.inl (s3 : Int)))
  else
   some (.inr (s3 + (runeAt a0 s3).2))
 else
  some (.inl (.inr ()))
def strings_indexFunc_op_key_1 (a0 : List UInt8) (a2 : Bool) : Option (Int) :=
 orRet (iter (strings_indexFunc_op_key_1_L0 a0 a2) 0) fun s1 =>
 some (-1)
theorem strings_indexFunc_op_key_1_ok (a0 : List UInt8) (a2 : Bool) : Spec Tryz.prog 163 [.rd strR a0, .val (.func (.func 148) #[] #[]), .rd boolR a2] [] (strings_indexFunc_op_key_1 a0 a2) (fun r nv => ⟨[.rd i64R r], []⟩) := by
 refine spec 21 Tryz.func163 rfl rfl rfl fun H w => ?_
 refine gSR <| Za rfl <| Zn <| gMidR (fun (s1 : Unit) aa ww => Sta (ctx 21 H [] w) [] [] aa ww) ?_ (fun s1 => ?_)
 ·
  refine gSR <| Zm rfl <| Ef rfl (rng 1 rfl tu9) fun v2 => Zn <| gLoop (fun (s3 : Nat) aa ww => Sta (ctx 21 H [] w) [(1, .val (.func (.func 148) #[] #[])), (2, .rd boolR a2), (10, .val v2)] [(1, some (v2, .iter a0 s3))] aa ww) (fun aa ww h => h.sub [1] (sS rfl <| sS rfl <| sS rfl <| sN) (Zi rfl <| rN)) (fun s3 => ?_)
  refine gSR <| lNext 1 rfl rfl rfl (fun h4 => ?_) (fun h4 => ?_)
  ·
   refine Zq (ext rfl rfl) <| Zn <| gSeq <| gTrue rfl <| Zt <| gBlk <| gSR <| Zq (ext rfl rfl) <| Zq (ext rfl rfl) <| Za rfl <| Za rfl <| lName 8 rfl fun y5 => Zn <| gSR <| Zm rfl <| Zm rfl <| callv [] [] (gd0 rfl) rfl rfl Tryz.func148 rfl rfl (op_key_1_ok _) (aQ rfl <| aN) (cN) rN fun r6 n7 => Zm rfl <| Zq (eqB Tryz.underlying4 rfl rfl) <| Zn <| gIf rfl rfl (fun h8 => ?_) (fun h8 => ?_)
   ·
    refine gSR <| Zm rfl <| Za rfl <| Zn <| gRet <| eBret <| eLret <| eMret <| eRet [] [] rfl (eE rfl <| eN) (rN)
   ·
    refine gSkip <| eBlk <| eNext (fun aa ww h => h.sub [1] (sS rfl <| sS rfl <| sS rfl <| sN) (Zi rfl <| rN))
  ·
   refine Zq (ext rfl rfl) <| Zn <| gSeq <| gFalse rfl <| gExit <| eTexit <| eLeave <| eMidR (fun aa ww h => h.sub [] (sN) (rN))
 ·
  refine gSR <| Za rfl <| Zn <| gRet <| eRet [] [] rfl (eE rfl <| eN) (rN)
def strings_IndexFunc_op_key_1 (a0 : List UInt8) : Option (Int) :=
 strings_indexFunc_op_key_1 a0 true >>= fun r1 =>
 some r1
theorem strings_IndexFunc_op_key_1_ok (a0 : List UInt8) : Spec Tryz.prog 147 [.rd strR a0, .val (.func (.func 148) #[] #[])] [] (strings_IndexFunc_op_key_1 a0) (fun r nv => ⟨[.rd i64R r], []⟩) := by
 refine spec 8 Tryz.func147 rfl rfl rfl fun H w => ?_
 refine gSR <| Za rfl <| Zn <| gSR <| Zm rfl <| Zm rfl <| call [] [] rfl Tryz.func163 rfl rfl (strings_indexFunc_op_key_1_ok _ _) (aQ rfl <| aQ rfl <| aQ rfl <| aN) rN fun r1 n2 => Za rfl <| Zn <| gRet <| eRet [] [] rfl (eE rfl <| eN) (rN)
def op_key (a0 : List UInt8) : Option (Bool) :=
 if decide (1 ≤ (a0.length : Int)) then
  if decide ((a0.length : Int) ≤ 20) then
   strings_IndexFunc_op_key_1 a0 >>= fun r3 =>
   some (decide (r3 < 0)) >>= fun y5 =>
   some y5
  else
   some false
 else
  some false
theorem op_key_ok (a0 : List UInt8) : Spec Tryz.prog 123 [.rd strR a0] [] (op_key a0) (fun r nv => ⟨[.rd boolR r], []⟩) := by
 refine spec 16 Tryz.func123 rfl rfl rfl fun H w => ?_
 refine gSR <| Za rfl <| Zn <| gSR <| Zm rfl <| Zq (lenT rfl rfl tu9) <| Zq (I.geq rfl rfl) <| Zm rfl <| lSplit 6 rfl (fun h1 => ?_) (fun h1 => ?_)
 ·
  refine lKn 5 rfl h1 <| lRun (gd rfl rfl rfl rfl) rfl rfl (mv rfl) <| lRun (gd rfl rfl rfl rfl) rfl rfl (lenT rfl rfl tu9) <| lRun (gd rfl rfl rfl rfl) rfl rfl (I.leq rfl rfl) <| Zq (pkT rfl rfl) <| Zm rfl <| lSplit 11 rfl (fun h2 => ?_) (fun h2 => ?_)
  ·
   refine lKn 9 rfl h2 <| lKn 10 rfl h2 <| lRun (gd rfl rfl rfl rfl) rfl rfl (mv rfl) <| callg [] [] (gd rfl rfl rfl rfl) rfl Tryz.func147 rfl rfl (strings_IndexFunc_op_key_1_ok _) (aQ rfl <| aQ rfl <| aN) rN fun r3 n4 => lRun (gd rfl rfl rfl rfl) rfl rfl (I.lss rfl rfl) <| Zq (pkT rfl rfl) <| Za rfl <| lName 2 rfl fun y5 => Zn <| gRet <| eRet [] [] rfl (eE rfl <| eN) (rN)
  ·
   refine lKn 9 rfl h2 <| lKn 10 rfl h2 <| Zk rfl <| Zk rfl <| Zk rfl <| Zq (pkF rfl rfl) <| Za rfl <| Zn <| gRet <| eRet [] [] rfl (eE rfl <| eN) (rN)
 ·
  refine lKn 5 rfl h1 <| Zk rfl <| Zk rfl <| Zk rfl <| Zq (pkF rfl rfl) <| Zm rfl <| Zk rfl <| Zk rfl <| Zk rfl <| Zq (pkF rfl rfl) <| Za rfl <| Zn <| gRet <| eRet [] [] rfl (eE rfl <| eN) (rN)
def value_Number (a0 : Int) : Option (api_Value) :=
 some (⟨1, a0, 0, []⟩ : api_Value)
theorem value_Number_ok (a0 : Int) : Spec Tryz.prog 149 [.rd i64R a0] [] (value_Number a0) (fun r nv => ⟨[.rd R_api_Value r], []⟩) := by
 refine spec 5 Tryz.func149 rfl rfl rfl fun H w => ?_
 refine gSR <| Eb rfl (allc 1 ti59 (.zr (R := R_api_Value) (x := (⟨0, 0, 0, []⟩ : api_Value)) zr59)) fun v1 => Zn <| gSR <| Zm rfl <| Zq (bld (x' := (⟨1, a0, 0, []⟩ : api_Value)) [(0, 1), (1, 1), (2, 1), (3, 1)] Tryz.underlying59 ti59 rfl zr59 rfl (Bld.cons (pt_api_Value_Kind _) rfl rfl <| Bld.cons (pt_api_Value_Num _) rfl rfl <| Bld.done rfl)) <| Es (sto 1 rfl rfl Foc.here rfl ti59) <| Zn <| gRet <| eRet [] [] rfl (eC 1 rfl rfl ty59 <| eN) (rN)
def value_split (a0 : UInt64) : Option (Int × UInt64) :=
 some (andI (w64 ((shr64 a0 52).toNat : Int)) 2047) >>= fun y1 =>
 some (a0 &&& 4503599627370495) >>= fun y2 =>
 some (y1, y2)
theorem value_split_ok (a0 : UInt64) : Spec Tryz.prog 171 [.rd u64R a0] [] (value_split a0) (fun r nv => ⟨[.rd i64R r.1, .rd u64R r.2], []⟩) := by
 refine spec 10 Tryz.func171 rfl rfl rfl fun H w => ?_
 refine gSR <| Za rfl <| Za rfl <| Zn <| gSR <| Zm rfl <| Zq (U.shr rfl rfl (Int.natCast_nonneg _)) <| Zq (U.toI rfl tu57 tu3) <| Zq (I.and rfl rfl) <| Zm rfl <| Zq (U.and rfl rfl) <| Za rfl <| lName 2 rfl fun y1 => Za rfl <| lName 3 rfl fun y2 => Zn <| gRet <| eRet [] [] rfl (eE rfl <| eE rfl <| eN) (rN)
def value_Class (a0 : UInt64) : Option (UInt8) :=
 value_split a0 >>= fun r1 =>
 (if r1.1 == 2047 then
  some (r1.2 != 0)
 else
  some false) >>= fun s3 =>
 if s3 then
  some 5
 else
  if r1.1 == 2047 then
   some 4
  else
   if r1.1 != 0 then
    some 3
   else
    if r1.2 != 0 then
     some 2
    else
     some 1
theorem value_Class_ok (a0 : UInt64) : Spec Tryz.prog 168 [.rd u64R a0] [] (value_Class a0) (fun r nv => ⟨[.rd u8R r], []⟩) := by
 refine spec 26 Tryz.func168 rfl rfl rfl fun H w => ?_
 refine gSR <| Za rfl <| Zn <| gSR <| Zm rfl <| call [] [] rfl Tryz.func171 rfl rfl (value_split_ok _) (aQ rfl <| aN) rN fun r1 n2 => Zm rfl <| Zq (ext rfl rfl) <| Zq (ext rfl rfl) <| Za rfl <| Za rfl <| Zn <| gSeq <| gBlk <| gMid (fun (s3 : Bool) aa ww => Sta (ctx 26 H [] w) [(3, .rd i64R r1.1), (4, .rd u64R r1.2), (10, .rd boolR s3)] [] aa ww) ?_ (fun s3 => ?_)
 ·
  refine gReg <| Zm rfl <| Zq (I.eql rfl rfl) <| Zm rfl <| lSplit 13 rfl (fun h4 => ?_) (fun h4 => ?_)
  ·
   refine lKn 12 rfl h4 <| lRun (gd rfl rfl rfl rfl) rfl rfl (mv rfl) <| lRun (gd rfl rfl rfl rfl) rfl rfl (U.neq rfl rfl) <| Zq (pkT rfl rfl) <| Za rfl <| gNil <| eMid (fun aa ww h => h.sub [] (sS rfl <| sS rfl <| sS rfl <| sN) (rN))
  ·
   refine lKn 12 rfl h4 <| Zk rfl <| Zk rfl <| Zq (pkF rfl rfl) <| Za rfl <| gNil <| eMid (fun aa ww h => h.sub [] (sS rfl <| sS rfl <| sS rfl <| sN) (rN))
 ·
  refine gIf rfl rfl (fun h5 => ?_) (fun h5 => ?_)
  ·
   refine gSR <| Za rfl <| Zn <| gRet <| eBret <| eTret <| eRet [] [] rfl (eE rfl <| eN) (rN)
  ·
   refine gSR <| Zm rfl <| Zq (I.eql rfl rfl) <| Za rfl <| Zn <| gIf rfl rfl (fun h6 => ?_) (fun h6 => ?_)
   ·
    refine gKn 19 rfl h6 <| gSR <| Za rfl <| Zn <| gRet <| eBret <| eTret <| eRet [] [] rfl (eE rfl <| eN) (rN)
   ·
    refine gKn 19 rfl h6 <| gSR <| Zm rfl <| Zq (I.neq rfl rfl) <| Za rfl <| Zn <| gIf rfl rfl (fun h7 => ?_) (fun h7 => ?_)
    ·
     refine gKn 22 rfl h7 <| gSR <| Za rfl <| Zn <| gRet <| eBret <| eTret <| eRet [] [] rfl (eE rfl <| eN) (rN)
    ·
     refine gKn 22 rfl h7 <| gSR <| Zm rfl <| Zq (U.neq rfl rfl) <| Za rfl <| Zn <| gIf rfl rfl (fun h8 => ?_) (fun h8 => ?_)
     ·
      refine gKn 25 rfl h8 <| gSR <| Za rfl <| Zn <| gRet <| eBret <| eTret <| eRet [] [] rfl (eE rfl <| eN) (rN)
     ·
      refine gKn 25 rfl h8 <| gSkip <| eBlk <| eThen <| gSR <| Za rfl <| Zn <| gRet <| eRet [] [] rfl (eE rfl <| eN) (rN)
def value_Canon (a0 : UInt64) : Option (UInt64) :=
 value_Class a0 >>= fun r1 =>
 if r1 == 5 then
  some 9221120237041090560
 else
  some a0
theorem value_Canon_ok (a0 : UInt64) : Spec Tryz.prog 164 [.rd u64R a0] [] (value_Canon a0) (fun r nv => ⟨[.rd u64R r], []⟩) := by
 refine spec 7 Tryz.func164 rfl rfl rfl fun H w => ?_
 refine gSR <| Za rfl <| Zn <| gSeq <| gSR <| Zm rfl <| call [] [] rfl Tryz.func168 rfl rfl (value_Class_ok _) (aQ rfl <| aN) rN fun r1 n2 => Zq (B.eql rfl rfl) <| Zn <| gIf rfl rfl (fun h3 => ?_) (fun h3 => ?_)
 ·
  refine gSR <| Za rfl <| Zn <| gRet <| eTret <| eRet [] [] rfl (eE rfl <| eN) (rN)
 ·
  refine Zt <| gSR <| Zm rfl <| Za rfl <| Zn <| gRet <| eRet [] [] rfl (eE rfl <| eN) (rN)
def value_Float (a0 : UInt64) : Option (api_Value) :=
 value_Canon a0 >>= fun r2 =>
 some (⟨2, 0, r2, []⟩ : api_Value)
theorem value_Float_ok (a0 : UInt64) : Spec Tryz.prog 150 [.rd u64R a0] [] (value_Float a0) (fun r nv => ⟨[.rd R_api_Value r], []⟩) := by
 refine spec 6 Tryz.func150 rfl rfl rfl fun H w => ?_
 refine gSR <| Eb rfl (allc 1 ti59 (.zr (R := R_api_Value) (x := (⟨0, 0, 0, []⟩ : api_Value)) zr59)) fun v1 => Zn <| gSR <| Zm rfl <| call [] [] rfl Tryz.func164 rfl rfl (value_Canon_ok _) (aQ rfl <| aN) rN fun r2 n3 => Zq (bld (x' := (⟨2, 0, r2, []⟩ : api_Value)) [(0, 1), (1, 1), (2, 1), (3, 1)] Tryz.underlying59 ti59 rfl zr59 rfl (Bld.cons (pt_api_Value_Kind _) rfl rfl <| Bld.cons (pt_api_Value_Bits _) rfl rfl <| Bld.done rfl)) <| Es (sto 1 rfl rfl Foc.here rfl ti59) <| Zn <| gRet <| eRet [] [] rfl (eC 1 rfl rfl ty59 <| eN) (rN)
def value_Text_1 (a0 : Int) : Option (Bool) :=
 if decide (a0 < 32) then
  some true
 else
  some (decide (126 < a0)) >>= fun y2 =>
  some y2
theorem value_Text_1_ok (a0 : Int) : Spec Tryz.prog 165 [.rd i32R a0] [] (value_Text_1 a0) (fun r nv => ⟨[.rd boolR r], []⟩) := by
 refine spec 9 Tryz.func165 rfl rfl rfl fun H w => ?_
 refine gSR <| Za rfl <| Zn <| gSR <| Zm rfl <| Zq (J.lss rfl rfl) <| Zm rfl <| lSplit 5 rfl (fun h1 => ?_) (fun h1 => ?_)
 ·
  refine lKn 4 rfl h1 <| Zk rfl <| Zk rfl <| Zq (pkT rfl rfl) <| Za rfl <| Zn <| gRet <| eRet [] [] rfl (eE rfl <| eN) (rN)
 ·
  refine lKn 4 rfl h1 <| lRun (gd rfl rfl rfl rfl) rfl rfl (mv rfl) <| lRun (gd rfl rfl rfl rfl) rfl rfl (J.gtr rfl rfl) <| Zq (pkF rfl rfl) <| Za rfl <| lName 2 rfl fun y2 => Zn <| gRet <| eRet [] [] rfl (eE rfl <| eN) (rN)
def strings_indexFunc_value_Text_1_L0 (a0 : List UInt8) (a2 : Bool) (s3 : Nat) : Option (Sum (Sum Int Unit) Nat) :=
 if s3 < (a0).length then
  some ((runeAt a0 s3).1 : Int) >>= fun y5 =>
  value_Text_1 y5 >>= fun r6 =>
  if r6 == a2 then
   some (.inl (.inl (s3 : Int)))
  else
   some (.inr (s3 + (runeAt a0 s3).2))
 else
  some (.inl (.inr ()))
def strings_indexFunc_value_Text_1 (a0 : List UInt8) (a2 : Bool) : Option (Int) :=
 orRet (iter (strings_indexFunc_value_Text_1_L0 a0 a2) 0) fun s1 =>
 some (-1)
theorem strings_indexFunc_value_Text_1_ok (a0 : List UInt8) (a2 : Bool) : Spec Tryz.prog 163 [.rd strR a0, .val (.func (.func 165) #[] #[]), .rd boolR a2] [] (strings_indexFunc_value_Text_1 a0 a2) (fun r nv => ⟨[.rd i64R r], []⟩) := by
 refine spec 21 Tryz.func163 rfl rfl rfl fun H w => ?_
 refine gSR <| Za rfl <| Zn <| gMidR (fun (s1 : Unit) aa ww => Sta (ctx 21 H [] w) [] [] aa ww) ?_ (fun s1 => ?_)
 ·
  refine gSR <| Zm rfl <| Ef rfl (rng 1 rfl tu9) fun v2 => Zn <| gLoop (fun (s3 : Nat) aa ww => Sta (ctx 21 H [] w) [(1, .val (.func (.func 165) #[] #[])), (2, .rd boolR a2), (10, .val v2)] [(1, some (v2, .iter a0 s3))] aa ww) (fun aa ww h => h.sub [1] (sS rfl <| sS rfl <| sS rfl <| sN) (Zi rfl <| rN)) (fun s3 => ?_)
  refine gSR <| lNext 1 rfl rfl rfl (fun h4 => ?_) (fun h4 => ?_)
  ·
   refine Zq (ext rfl rfl) <| Zn <| gSeq <| gTrue rfl <| Zt <| gBlk <| gSR <| Zq (ext rfl rfl) <| Zq (ext rfl rfl) <| Za rfl <| Za rfl <| lName 8 rfl fun y5 => Zn <| gSR <| Zm rfl <| Zm rfl <| callv [] [] (gd0 rfl) rfl rfl Tryz.func165 rfl rfl (value_Text_1_ok _) (aQ rfl <| aN) (cN) rN fun r6 n7 => Zm rfl <| Zq (eqB Tryz.underlying4 rfl rfl) <| Zn <| gIf rfl rfl (fun h8 => ?_) (fun h8 => ?_)
   ·
    refine gSR <| Zm rfl <| Za rfl <| Zn <| gRet <| eBret <| eLret <| eMret <| eRet [] [] rfl (eE rfl <| eN) (rN)
   ·
    refine gSkip <| eBlk <| eNext (fun aa ww h => h.sub [1] (sS rfl <| sS rfl <| sS rfl <| sN) (Zi rfl <| rN))
  ·
   refine Zq (ext rfl rfl) <| Zn <| gSeq <| gFalse rfl <| gExit <| eTexit <| eLeave <| eMidR (fun aa ww h => h.sub [] (sN) (rN))
 ·
  refine gSR <| Za rfl <| Zn <| gRet <| eRet [] [] rfl (eE rfl <| eN) (rN)
def strings_IndexFunc_value_Text_1 (a0 : List UInt8) : Option (Int) :=
 strings_indexFunc_value_Text_1 a0 true >>= fun r1 =>
 some r1
theorem strings_IndexFunc_value_Text_1_ok (a0 : List UInt8) : Spec Tryz.prog 147 [.rd strR a0, .val (.func (.func 165) #[] #[])] [] (strings_IndexFunc_value_Text_1 a0) (fun r nv => ⟨[.rd i64R r], []⟩) := by
 refine spec 8 Tryz.func147 rfl rfl rfl fun H w => ?_
 refine gSR <| Za rfl <| Zn <| gSR <| Zm rfl <| Zm rfl <| call [] [] rfl Tryz.func163 rfl rfl (strings_indexFunc_value_Text_1_ok _ _) (aQ rfl <| aQ rfl <| aQ rfl <| aN) rN fun r1 n2 => Za rfl <| Zn <| gRet <| eRet [] [] rfl (eE rfl <| eN) (rN)
def value_Text (a0 : List UInt8) : Option (api_Value × Int) :=
 if decide (30 < (a0.length : Int)) then
  some ((⟨0, 0, 0, []⟩ : api_Value), 4)
 else
  strings_IndexFunc_value_Text_1 a0 >>= fun r3 =>
  if decide (0 ≤ r3) then
   some ((⟨0, 0, 0, []⟩ : api_Value), 8)
  else
   some ((⟨3, 0, 0, a0⟩ : api_Value), 0)
theorem value_Text_ok (a0 : List UInt8) : Spec Tryz.prog 151 [.rd strR a0] [] (value_Text a0) (fun r nv => ⟨[.rd R_api_Value r.1, .rd i64R r.2], []⟩) := by
 refine spec 14 Tryz.func151 rfl rfl rfl fun H w => ?_
 refine gSR <| Eb rfl (allc 1 ti59 (.zr (R := R_api_Value) (x := (⟨0, 0, 0, []⟩ : api_Value)) zr59)) fun v1 => Za rfl <| Zn <| gSeq <| gSR <| Zm rfl <| Zq (lenT rfl rfl tu9) <| Zq (I.gtr rfl rfl) <| Zn <| gIf rfl rfl (fun h2 => ?_) (fun h2 => ?_)
 ·
  refine gSR <| Zq (bld (x' := (⟨0, 0, 0, []⟩ : api_Value)) [(0, 1), (1, 1), (2, 1), (3, 1)] Tryz.underlying59 ti59 rfl zr59 rfl (Bld.done rfl)) <| Es (sto 1 rfl rfl Foc.here rfl ti59) <| Za rfl <| Zn <| gRet <| eTret <| eRet [] [] rfl (eC 1 rfl rfl ty59 <| eE rfl <| eN) (rN)
 ·
  refine Zt <| gSeq <| gSR <| Zm rfl <| call [] [] rfl Tryz.func147 rfl rfl (strings_IndexFunc_value_Text_1_ok _) (aQ rfl <| aQ rfl <| aN) rN fun r3 n4 => Zq (I.geq rfl rfl) <| Zn <| gIf rfl rfl (fun h5 => ?_) (fun h5 => ?_)
  ·
   refine gSR <| Zq (bld (x' := (⟨0, 0, 0, []⟩ : api_Value)) [(0, 1), (1, 1), (2, 1), (3, 1)] Tryz.underlying59 ti59 rfl zr59 rfl (Bld.done rfl)) <| Es (sto 1 rfl rfl Foc.here rfl ti59) <| Za rfl <| Zn <| gRet <| eTret <| eRet [] [] rfl (eC 1 rfl rfl ty59 <| eE rfl <| eN) (rN)
  ·
   refine Zt <| gSR <| Zm rfl <| Zq (bld (x' := (⟨3, 0, 0, a0⟩ : api_Value)) [(0, 1), (1, 1), (2, 1), (3, 1)] Tryz.underlying59 ti59 rfl zr59 rfl (Bld.cons (pt_api_Value_Kind _) rfl rfl <| Bld.cons (pt_api_Value_Text _) rfl rfl <| Bld.done rfl)) <| Es (sto 1 rfl rfl Foc.here rfl ti59) <| Za rfl <| Zn <| gRet <| eRet [] [] rfl (eC 1 rfl rfl ty59 <| eE rfl <| eN) (rN)
def value_Check (a0 : api_Value) : Option (Int) :=
 (if a0.Kind == 1 then
  value_Number a0.Num >>= fun r5 =>
  some r5
 else
  if a0.Kind == 2 then
   value_Float a0.Bits >>= fun r8 =>
   some r8
  else
   if a0.Kind == 3 then
    value_Text a0.Text >>= fun r11 =>
    some r11.1
   else
    some (⟨0, 0, 0, []⟩ : api_Value)) >>= fun s3 =>
 if !decide (a0 = s3) then
  some 8
 else
  if a0.Kind == 0 then
   some 8
  else
   some 0
theorem value_Check_ok (a0 : api_Value) : Spec Tryz.prog 124 [.rd R_api_Value a0] [] (value_Check a0) (fun r nv => ⟨[.rd i64R r], []⟩) := by
 refine spec 32 Tryz.func124 rfl rfl rfl fun H w => ?_
 refine gSR <| Eb rfl (bx 1 rfl) fun v1 => Za rfl <| Zn <| gSR <| Eb rfl (allc 2 ti59 (.zr (R := R_api_Value) (x := (⟨0, 0, 0, []⟩ : api_Value)) zr59)) fun v2 => Zn <| gMid (fun (s3 : api_Value) aa ww => Sta (ctx 32 H [] w) [(1, .val (ptrTo v1 0)), (3, .val (ptrTo v2 0))] [(1, some (v1, .box 59 [.rd R_api_Value a0])), (2, some (v2, .box 59 [.rd R_api_Value s3]))] aa ww) ?_ (fun s3 => ?_)
 ·
  refine gSR <| Zq (faB 1 rfl rfl Tryz.underlying59 rfl (by exact ti5)) <| Zq (ld 1 rfl rfl ((Foc.here).part (pt_api_Value_Kind _)) ty5 rfl) <| Zn <| gBlk <| gSR <| Zq (B.eql rfl rfl) <| Za rfl <| Zn <| gIf rfl rfl (fun h4 => ?_) (fun h4 => ?_)
  ·
   refine gKn 7 rfl h4 <| gReg <| Zq (faB 1 rfl rfl Tryz.underlying59 rfl (by exact ti2)) <| Zq (ld 1 rfl rfl ((Foc.here).part (pt_api_Value_Num _)) ty2 rfl) <| call [] [] rfl Tryz.func149 rfl rfl (value_Number_ok _) (aQ rfl <| aN) rN fun r5 n6 => Es (sto 2 rfl rfl Foc.here rfl ti59) <| gNil <| eBlk <| eMid (fun aa ww h => h.sub [1, 2] (sS rfl <| sS rfl <| sN) (Zi rfl <| Zi rfl <| rN))
  ·
   refine gKn 7 rfl h4 <| gSR <| Zq (B.eql rfl rfl) <| Za rfl <| Zn <| gIf rfl rfl (fun h7 => ?_) (fun h7 => ?_)
   ·
    refine gKn 12 rfl h7 <| gReg <| Zq (faB 1 rfl rfl Tryz.underlying59 rfl (by exact ti57)) <| Zq (ld 1 rfl rfl ((Foc.here).part (pt_api_Value_Bits _)) ty57 rfl) <| call [] [] rfl Tryz.func150 rfl rfl (value_Float_ok _) (aQ rfl <| aN) rN fun r8 n9 => Es (sto 2 rfl rfl Foc.here rfl ti59) <| gNil <| eBlk <| eMid (fun aa ww h => h.sub [1, 2] (sS rfl <| sS rfl <| sN) (Zi rfl <| Zi rfl <| rN))
   ·
    refine gKn 12 rfl h7 <| gSR <| Zq (B.eql rfl rfl) <| Za rfl <| Zn <| gIf rfl rfl (fun h10 => ?_) (fun h10 => ?_)
    ·
     refine gKn 17 rfl h10 <| gReg <| Zq (faB 1 rfl rfl Tryz.underlying59 rfl (by exact ti9)) <| Zq (ld 1 rfl rfl ((Foc.here).part (pt_api_Value_Text _)) ty9 rfl) <| call [] [] rfl Tryz.func151 rfl rfl (value_Text_ok _) (aQ rfl <| aN) rN fun r11 n12 => Zm rfl <| Zq (ext rfl rfl) <| Zq (ext rfl rfl) <| Es (sto 2 rfl rfl Foc.here rfl ti59) <| gNil <| eBlk <| eMid (fun aa ww h => h.sub [1, 2] (sS rfl <| sS rfl <| sN) (Zi rfl <| Zi rfl <| rN))
    ·
     refine gKn 17 rfl h10 <| gSkip <| eBlk <| eMid (fun aa ww h => h.sub [1, 2] (sS rfl <| sS rfl <| sN) (Zi rfl <| Zi rfl <| rN))
 ·
  refine gSeq <| gSR <| Zq (ld 1 rfl rfl Foc.here ty59 rfl) <| Zq (ld 2 rfl rfl Foc.here ty59 rfl) <| Zq (neA rfl rfl eq59 rfl rfl gq59) <| Zm rfl <| lSplit 27 rfl (fun h13 => ?_) (fun h13 => ?_)
  ·
   refine lKn 26 rfl h13 <| Zk rfl <| Zk rfl <| Zk rfl <| Zq (pkT rfl rfl) <| Zn <| gTrue rfl <| gSR <| Za rfl <| Zn <| gRet <| eTret <| eRet [] [] rfl (eE rfl <| eN) (rN)
  ·
   refine lKn 26 rfl h13 <| lRun (gd rfl rfl rfl rfl) rfl rfl (faB 1 rfl rfl Tryz.underlying59 rfl (by exact ti5)) <| lRun (gd rfl rfl rfl rfl) rfl rfl (ld 1 rfl rfl ((Foc.here).part (pt_api_Value_Kind _)) ty5 rfl) <| lRun (gd rfl rfl rfl rfl) rfl rfl (B.eql rfl rfl) <| Zq (pkF rfl rfl) <| Zn <| gIf rfl rfl (fun h14 => ?_) (fun h14 => ?_)
   ·
    refine gKn 30 rfl h14 <| gSR <| Za rfl <| Zn <| gRet <| eTret <| eRet [] [] rfl (eE rfl <| eN) (rN)
   ·
    refine gKn 30 rfl h14 <| Zt <| gSR <| Za rfl <| Zn <| gRet <| eRet [] [] rfl (eE rfl <| eN) (rN)
def op_CheckAct (a0 : api_Act) : Option (Int) :=
 if a0.Kind == 1 then
  some (decide (a0 = (⟨1, [], (⟨0, 0, 0, []⟩ : api_Value)⟩ : api_Act))) >>= fun y3 =>
  if !y3 then
   some 8
  else
   some 0
 else
  (if a0.Kind == 2 then
   some true
  else
   some (a0.Kind == 3)) >>= fun s5 =>
  if s5 then
   op_key a0.Key >>= fun r8 =>
   if r8 then
    some (decide (a0.Value = (⟨0, 0, 0, []⟩ : api_Value))) >>= fun y11 =>
    if !y11 then
     some 8
    else
     some 0
   else
    some 8
  else
   if a0.Kind == 4 then
    op_key a0.Key >>= fun r14 =>
    if r14 then
     value_Check a0.Value >>= fun r17 =>
     if !(r17 == 0) then
      some 8
     else
      some 0
    else
     some 8
   else
    some 8
theorem op_CheckAct_ok (a0 : api_Act) : Spec Tryz.prog 93 [.rd R_api_Act a0] [] (op_CheckAct a0) (fun r nv => ⟨[.rd i64R r], []⟩) := by
 refine spec 36 Tryz.func93 rfl rfl rfl fun H w => ?_
 refine gSR <| Eb rfl (bx 1 rfl) fun v1 => Za rfl <| Zn <| gSR <| Za rfl <| Zn <| gSeq <| gSR <| Zq (faB 1 rfl rfl Tryz.underlying61 rfl (by exact ti5)) <| Zq (ld 1 rfl rfl ((Foc.here).part (pt_api_Act_Kind _)) ty5 rfl) <| Zn <| gBlk <| gSR <| Zq (B.eql rfl rfl) <| Za rfl <| Zn <| gIf rfl rfl (fun h2 => ?_) (fun h2 => ?_)
 ·
  refine gKn 7 rfl h2 <| gReg <| Zq (ld 1 rfl rfl Foc.here ty61 rfl) <| Zq (bld (x' := (⟨1, [], (⟨0, 0, 0, []⟩ : api_Value)⟩ : api_Act)) [(0, 1), (1, 1), (2, 4)] Tryz.underlying61 ti61 rfl zr61 rfl (Bld.cons (pt_api_Act_Kind _) rfl rfl <| Bld.done rfl)) <| Zq (eqA rfl rfl eq61 rfl rfl gq61) <| Za rfl <| lName 3 rfl fun y3 => gNil <| eBlk <| eThen <| gSeq <| gSR <| Zm rfl <| Zq (not' rfl) <| Zn <| gIf rfl rfl (fun h4 => ?_) (fun h4 => ?_)
  ·
   refine gSR <| Za rfl <| Zn <| gRet <| eTret <| eRet [] [] rfl (eE rfl <| eN) (rN)
  ·
   refine Zt <| gSR <| Za rfl <| Zn <| gRet <| eRet [] [] rfl (eE rfl <| eN) (rN)
 ·
  refine gKn 7 rfl h2 <| gMid (fun (s5 : Bool) aa ww => Sta (ctx 36 H [] w) [(1, .val (ptrTo v1 0)), (3, .rd boolR false), (5, .rd u8R a0.Kind), (11, .rd boolR s5)] [(1, some (v1, .box 61 [.rd R_api_Act a0]))] aa ww) ?_ (fun s5 => ?_)
  ·
   refine gSR <| Zq (B.eql rfl rfl) <| Za rfl <| Zn <| gIf rfl rfl (fun h6 => ?_) (fun h6 => ?_)
   ·
    refine gKn 12 rfl h6 <| gSkip <| eMid (fun aa ww h => h.sub [1] (Zs rfl rfl rfl rfl <| sN) (Zi rfl <| rN))
   ·
    refine gKn 12 rfl h6 <| gReg <| Zq (B.eql rfl rfl) <| Za rfl <| gNil <| eMid (fun aa ww h => h.sub [1] (Zs rfl rfl rfl rfl <| sN) (Zi rfl <| rN))
  ·
   refine gIf rfl rfl (fun h7 => ?_) (fun h7 => ?_)
   ·
    refine gReg <| Zq (faB 1 rfl rfl Tryz.underlying61 rfl (by exact ti9)) <| Zq (ld 1 rfl rfl ((Foc.here).part (pt_api_Act_Key _)) ty9 rfl) <| call [] [] rfl Tryz.func123 rfl rfl (op_key_ok _) (aQ rfl <| aN) rN fun r8 n9 => Zm rfl <| lSplit 17 rfl (fun h10 => ?_) (fun h10 => ?_)
    ·
     refine lKn 16 rfl h10 <| lRun (gd rfl rfl rfl rfl) rfl rfl (faB 1 rfl rfl Tryz.underlying61 rfl (by exact ti59)) <| lRun (gd rfl rfl rfl rfl) rfl rfl (ld 1 rfl rfl ((Foc.here).part (pt_api_Act_Value _)) ty59 rfl) <| lRun (gd rfl rfl rfl rfl) rfl rfl (bld (x' := (⟨0, 0, 0, []⟩ : api_Value)) [(0, 1), (1, 1), (2, 1), (3, 1)] Tryz.underlying59 ti59 rfl zr59 rfl (Bld.done rfl)) <| lRun (gd rfl rfl rfl rfl) rfl rfl (eqA rfl rfl eq59 rfl rfl gq59) <| Zq (pkT rfl rfl) <| Za rfl <| lName 3 rfl fun y11 => gNil <| eBlk <| eThen <| gSeq <| gSR <| Zm rfl <| Zq (not' rfl) <| Zn <| gIf rfl rfl (fun h12 => ?_) (fun h12 => ?_)
     ·
      refine gSR <| Za rfl <| Zn <| gRet <| eTret <| eRet [] [] rfl (eE rfl <| eN) (rN)
     ·
      refine Zt <| gSR <| Za rfl <| Zn <| gRet <| eRet [] [] rfl (eE rfl <| eN) (rN)
    ·
     refine lKn 16 rfl h10 <| Zk rfl <| Zk rfl <| Zk rfl <| Zk rfl <| Zq (pkF rfl rfl) <| Za rfl <| gNil <| eBlk <| eThen <| gSeq <| gSR <| Zm rfl <| Zq (not' rfl) <| Zn <| gTrue rfl <| gSR <| Za rfl <| Zn <| gRet <| eTret <| eRet [] [] rfl (eE rfl <| eN) (rN)
   ·
    refine gSR <| Zq (B.eql rfl rfl) <| Za rfl <| Zn <| gIf rfl rfl (fun h13 => ?_) (fun h13 => ?_)
    ·
     refine gKn 24 rfl h13 <| gReg <| Zq (faB 1 rfl rfl Tryz.underlying61 rfl (by exact ti9)) <| Zq (ld 1 rfl rfl ((Foc.here).part (pt_api_Act_Key _)) ty9 rfl) <| call [] [] rfl Tryz.func123 rfl rfl (op_key_ok _) (aQ rfl <| aN) rN fun r14 n15 => Zm rfl <| lSplit 28 rfl (fun h16 => ?_) (fun h16 => ?_)
     ·
      refine lKn 27 rfl h16 <| lRun (gd rfl rfl rfl rfl) rfl rfl (faB 1 rfl rfl Tryz.underlying61 rfl (by exact ti59)) <| lRun (gd rfl rfl rfl rfl) rfl rfl (ld 1 rfl rfl ((Foc.here).part (pt_api_Act_Value _)) ty59 rfl) <| callg [] [] (gd rfl rfl rfl rfl) rfl Tryz.func124 rfl rfl (value_Check_ok _) (aQ rfl <| aN) rN fun r17 n18 => lRun (gd rfl rfl rfl rfl) rfl rfl (I.eql rfl rfl) <| Zq (pkT rfl rfl) <| Za rfl <| gNil <| eBlk <| eThen <| gSeq <| gSR <| Zm rfl <| Zq (not' rfl) <| Zn <| gIf rfl rfl (fun h19 => ?_) (fun h19 => ?_)
      ·
       refine gSR <| Za rfl <| Zn <| gRet <| eTret <| eRet [] [] rfl (eE rfl <| eN) (rN)
      ·
       refine Zt <| gSR <| Za rfl <| Zn <| gRet <| eRet [] [] rfl (eE rfl <| eN) (rN)
     ·
      refine lKn 27 rfl h16 <| Zk rfl <| Zk rfl <| Zk rfl <| Zk rfl <| Zq (pkF rfl rfl) <| Za rfl <| gNil <| eBlk <| eThen <| gSeq <| gSR <| Zm rfl <| Zq (not' rfl) <| Zn <| gTrue rfl <| gSR <| Za rfl <| Zn <| gRet <| eTret <| eRet [] [] rfl (eE rfl <| eN) (rN)
    ·
     refine gKn 24 rfl h13 <| gSkip <| eBlk <| eThen <| gSeq <| gSR <| Zm rfl <| Zq (not' rfl) <| Zn <| gTrue rfl <| gSR <| Za rfl <| Zn <| gRet <| eTret <| eRet [] [] rfl (eE rfl <| eN) (rN)
def slices_IsSortedFunc_api_ID_api_ID_digest_Cmp_L0 (a0 : List (Vector UInt8 32)) (s3 : Int) : Option (Sum (Sum Bool Unit) Int) :=
 if decide (0 < s3) then
  idx a0 s3 >>= fun x5 =>
  idx a0 (w64 (s3 - 1)) >>= fun x7 =>
  digest_Cmp x5 x7 >>= fun r9 =>
  if decide (r9 < 0) then
   some (.inl (.inl false))
  else
   some (.inr (w64 (s3 - 1)))
 else
  some (.inl (.inr ()))
def slices_IsSortedFunc_api_ID_api_ID_digest_Cmp (a0 : List (Vector UInt8 32)) : Option (Bool) :=
 orRet (some (w64 ((a0.length : Int) - 1)) >>= fun y2 =>
 iter (slices_IsSortedFunc_api_ID_api_ID_digest_Cmp_L0 a0) y2) fun s1 =>
 some true
theorem slices_IsSortedFunc_api_ID_api_ID_digest_Cmp_ok (a0 : List (Vector UInt8 32)) : Spec Tryz.prog 91 [.rd (sliceR (arrR 32 u8R)) a0, .val (.func (.func 41) #[] #[])] [] (slices_IsSortedFunc_api_ID_api_ID_digest_Cmp a0) (fun r nv => ⟨[.rd boolR r], []⟩) := by
 refine spec 25 Tryz.func91 rfl rfl rfl fun H w => ?_
 refine gSR <| Za rfl <| Zn <| gMidR (fun (s1 : Unit) aa ww => Sta (ctx 25 H [] w) [] [] aa ww) ?_ (fun s1 => ?_)
 ·
  refine gSR <| Zm rfl <| Zq (len' rfl .rd rfl tu22) <| Zq (I.sub rfl rfl) <| Za rfl <| lName 5 rfl fun y2 => Zn <| gLoop (fun (s3 : Int) aa ww => Sta (ctx 25 H [] w) [(0, .rd (sliceR (arrR 32 u8R)) a0), (1, .val (.func (.func 41) #[] #[])), (5, .rd i64R s3)] [] aa ww) (fun aa ww h => h.sub [] (sS rfl <| sS rfl <| sS rfl <| sN) (rN)) (fun s3 => ?_)
  refine gSeq <| gSR <| Zm rfl <| Zq (I.gtr rfl rfl) <| Zn <| gIf rfl rfl (fun h4 => ?_) (fun h4 => ?_)
  ·
   refine Zt <| gSeq <| gBlk <| gSeq <| gRegH [] mixed rfl rfl <| hTk 0 rfl rfl (mv rfl) <| hTk 1 rfl rfl (mv rfl) <| hTk 2 rfl rfl (mv rfl) <| hBind fun x5 h6 => hTk 3 rfl rfl (ixR rfl rfl h6 tu22 ti27 rfl) <| hTk 4 rfl rfl (ldR rfl ty27) <| hTk 5 rfl rfl (mv rfl) <| hTk 6 rfl rfl (mv rfl) <| hTk 7 rfl rfl (I.sub rfl rfl) <| hBind fun x7 h8 => hTk 8 rfl rfl (ixR rfl rfl h8 tu22 ti27 rfl) <| hTk 9 rfl rfl (ldR rfl ty27) <| hCallVF 10 [] [] rfl (by kernel_rfl) rfl (gd0 rfl) rfl Tryz.func41 rfl rfl rfl (digest_Cmp_ok _ _) (aQ rfl <| aQ rfl <| aN) (cN) rfl rN rfl (fun _ _ => flat_num) fun r9 n10 => hTk 11 rfl rfl (I.lss rfl rfl) <| hDone (by kernel_rfl) <| eThen <| gIf rfl rfl (fun h11 => ?_) (fun h11 => ?_)
   ·
    refine gSR <| Za rfl <| Zn <| gRet <| eBret <| eTret <| eLret <| eMret <| eRet [] [] rfl (eE rfl <| eN) (rN)
   ·
    refine gSkip <| eBlk <| eThen <| gReg <| Zm rfl <| Zq (I.sub rfl rfl) <| Za rfl <| gNil <| eNext (fun aa ww h => h.sub [] (sS rfl <| sS rfl <| sS rfl <| sN) (rN))
  ·
   refine gExit <| eTexit <| eLeave <| eMidR (fun aa ww h => h.sub [] (sN) (rN))
 ·
  refine gSR <| Za rfl <| Zn <| gRet <| eRet [] [] rfl (eE rfl <| eN) (rN)
def slices_Compact_api_ID_api_ID_L2 (c0 : List (Vector UInt8 32)) (s3 : Int) (s13 : (List (Vector UInt8 32)) × Int × Int) : Option (Sum ((List (Vector UInt8 32)) × Int) ((List (Vector UInt8 32)) × Int × Int)) :=
 if decide (s13.2.2 < ((((c0.length : Int) : Int).toNat - (s3 : Int).toNat : Nat) : Int)) then
  subi ((s3 : Int).toNat) (((c0.length : Int) : Int).toNat - (s3 : Int).toNat) s13.2.2 >>= fun q15 =>
  idx s13.1 (q15 : Int) >>= fun x17 =>
  subi ((s3 : Int).toNat) (((c0.length : Int) : Int).toNat - (s3 : Int).toNat) (w64 (s13.2.2 - 1)) >>= fun q19 =>
  idx s13.1 (q19 : Int) >>= fun x21 =>
  if !decide (x17 = x21) then
   subi ((s3 : Int).toNat) (((c0.length : Int) : Int).toNat - (s3 : Int).toNat) s13.2.2 >>= fun q24 =>
   idx s13.1 (q24 : Int) >>= fun x26 =>
   idx s13.1 s13.2.1 >>= fun x28 =>
   some (w64 (s13.2.1 + 1)) >>= fun y30 =>
   some (w64 (s13.2.2 + 1)) >>= fun y31 =>
   some (.inr (s13.1.set (s13.2.1 : Int).toNat x26, y30, y31))
  else
   some (w64 (s13.2.2 + 1)) >>= fun y32 =>
   some (.inr (s13.1, s13.2.1, y32))
 else
  some (.inl (s13.1, s13.2.1))
def slices_Compact_api_ID_api_ID_L0 (c0 : List (Vector UInt8 32)) (s3 : Int) : Option (Sum (Sum ((List (Vector UInt8 32))) Unit) Int) :=
 if decide (s3 < (c0.length : Int)) then
  idx c0 s3 >>= fun x5 =>
  idx c0 (w64 (s3 - 1)) >>= fun x7 =>
  if decide (x5 = x7) then
   chk (0 ≤ s3 ∧ s3 ≤ (c0.length : Int) ∧ (c0.length : Int) ≤ (c0.length : Int)) >>= fun u10 =>
   (iter (slices_Compact_api_ID_api_ID_L2 c0 s3) (c0, s3, 1)) >>= fun s12 =>
   chk (0 ≤ s12.2 ∧ s12.2 ≤ (s12.1.length : Int) ∧ (s12.1.length : Int) ≤ (s12.1.length : Int)) >>= fun u33 =>
   chk ((s12.2 : Int).toNat + (((s12.1.length : Int) : Int).toNat - (s12.2 : Int).toNat) ≤ s12.1.length) >>= fun u35 =>
   cut (clr s12.1 ((s12.2 : Int).toNat) (((s12.1.length : Int) : Int).toNat - (s12.2 : Int).toNat) (Vector.replicate 32 0)) 0 s12.2 >>= fun x37 =>
   some (.inl (.inl x37))
  else
   some (.inr (w64 (s3 + 1)))
 else
  some (.inl (.inr ()))
def slices_Compact_api_ID_api_ID (c0 : List (Vector UInt8 32)) : Option ((List (Vector UInt8 32))) :=
 if decide ((c0.length : Int) < 2) then
  some c0
 else
  orRet (iter (slices_Compact_api_ID_api_ID_L0 c0) 1) fun s2 =>
  some c0
theorem slices_Compact_api_ID_api_ID_ok (p0 : Value) (c0 : List (Vector UInt8 32)) : Spec Tryz.prog 42 [.val p0] [(1, some (p0, .list (arrR 32 u8R) 27 c0))] (slices_Compact_api_ID_api_ID c0) (fun r nv => ⟨[.val (nv 0)], [(100, some (nv 0, .list (arrR 32 u8R) 27 r))]⟩) := by
 refine spec 61 Tryz.func42 rfl rfl rfl fun H w => ?_
 refine gSR <| Za rfl <| Zn <| gSeq <| gSR <| Zm rfl <| Zq (len' rfl (.own 1 rfl) rfl tu22) <| Zq (I.lss rfl rfl) <| Zn <| gIf rfl rfl (fun h1 => ?_) (fun h1 => ?_)
 ·
  refine gSR <| Zm rfl <| Za rfl <| Zn <| gRet <| eTret <| eRet [p0] [1] rfl (eE rfl <| eN) (Zi rfl <| rN)
 ·
  refine Zt <| gMidR (fun (s2 : Unit) aa ww => Sta (ctx 61 H [(1, some (p0, .list (arrR 32 u8R) 27 c0))] w) [(0, .val p0)] [(1, some (p0, .list (arrR 32 u8R) 27 c0))] aa ww) ?_ (fun s2 => ?_)
  ·
   refine gSR <| Za rfl <| Zn <| gLoop (fun (s3 : Int) aa ww => Sta (ctx 61 H [(1, some (p0, .list (arrR 32 u8R) 27 c0))] w) [(0, .val p0), (3, .rd i64R s3)] [(1, some (p0, .list (arrR 32 u8R) 27 c0))] aa ww) (fun aa ww h => h.sub [1] (sS rfl <| sS rfl <| sN) (Zi rfl <| rN)) (fun s3 => ?_)
   refine gSeq <| gSR <| Zm rfl <| Zm rfl <| Zq (len' rfl (.own 1 rfl) rfl tu22) <| Zq (I.lss rfl rfl) <| Zn <| gIf rfl rfl (fun h4 => ?_) (fun h4 => ?_)
   ·
    refine Zt <| gSeq <| gBlk <| gSeq <| gRegQ mixed (by kernel_rfl) <| Rq rfl (mv rfl) <| Rq rfl (mv rfl) <| qBind fun x5 h6 => Rq rfl (ixO 1 rfl rfl rfl h6 tu22 ti27) <| Rq rfl (ld 1 rfl rfl (Foc.el h6) ty27 rfl) <| Rq rfl (mv rfl) <| Rq rfl (mv rfl) <| Rq rfl (I.sub rfl rfl) <| qBind fun x7 h8 => Rq rfl (ixO 1 rfl rfl rfl h8 tu22 ti27) <| Rq rfl (ld 1 rfl rfl (Foc.el h8) ty27 rfl) <| Rq rfl (eqA rfl rfl eq27 rfl rfl gq27) <| qNil <| eThen <| gIf rfl rfl (fun h9 => ?_) (fun h9 => ?_)
    ·
     refine gSR <| Zm rfl <| Zm rfl <| lBind fun u10 h11 => Zq (cutSu 1 rfl rfl (.to rfl) .no (chk_some h11) tu22 ti27) <| Za rfl <| Zn <| gMid (fun (s12 : (List (Vector UInt8 32)) × Int) aa ww => Sta (ctx 61 H [(1, some (p0, .list (arrR 32 u8R) 27 c0))] w) [(0, .val p0), (3, .rd i64R s12.2)] [(1, some (p0, .list (arrR 32 u8R) 27 s12.1))] aa ww) ?_ (fun s12 => ?_)
     ·
      refine gSR <| Za rfl <| Zn <| gLoop (fun (s13 : (List (Vector UInt8 32)) × Int × Int) aa ww => Sta (ctx 61 H [(1, some (p0, .list (arrR 32 u8R) 27 c0))] w) [(0, .val p0), (3, .rd i64R s13.2.1), (4, .sub (arrR 32 u8R).sz p0 ((s3 : Int).toNat) (((c0.length : Int) : Int).toNat - (s3 : Int).toNat)), (5, .rd i64R s13.2.2)] [(1, some (p0, .list (arrR 32 u8R) 27 s13.1))] aa ww) (fun aa ww h => h.sub [1] (Zs rfl rfl rfl rfl <| sN) (Zi rfl <| rN)) (fun s13 => ?_)
      refine gSeq <| gSR <| Zm rfl <| Zm rfl <| Zq (lenSu rfl rfl tu22) <| Zq (I.lss rfl rfl) <| Zn <| gIf rfl rfl (fun h14 => ?_) (fun h14 => ?_)
      ·
       refine Zt <| gSeq <| gBlk <| gSeq <| gRegQ mixed (by kernel_rfl) <| Rq rfl (mv rfl) <| Rq rfl (mv rfl) <| qBind fun q15 h16 => qBind fun x17 h18 => Rq rfl (ixSu 1 rfl rfl rfl h16 tu22 ti27) <| Rq rfl (ld 1 rfl rfl (Foc.el h18) ty27 rfl) <| Rq rfl (mv rfl) <| Rq rfl (mv rfl) <| Rq rfl (I.sub rfl rfl) <| qBind fun q19 h20 => qBind fun x21 h22 => Rq rfl (ixSu 1 rfl rfl rfl h20 tu22 ti27) <| Rq rfl (ld 1 rfl rfl (Foc.el h22) ty27 rfl) <| Rq rfl (neA rfl rfl eq27 rfl rfl gq27) <| qNil <| eThen <| gIf rfl rfl (fun h23 => ?_) (fun h23 => ?_)
       ·
        refine gSR <| Zm rfl <| Zm rfl <| Zm rfl <| Zm rfl <| lBind fun q24 h25 => lBind fun x26 h27 => Zq (ixSu 1 rfl rfl rfl h25 tu22 ti27) <| Zq (ld 1 rfl rfl (Foc.el h27) ty27 rfl) <| lBind fun x28 h29 => Zq (ixO 1 rfl rfl rfl h29 tu22 ti27) <| Es (sto 1 rfl rfl (Foc.el h29) rfl ti27) <| Zn <| gReg <| Zm rfl <| Zq (I.add rfl rfl) <| Za rfl <| lName 3 rfl fun y30 => gNil <| eBlk <| eThen <| gReg <| Zm rfl <| Zq (I.add rfl rfl) <| Za rfl <| lName 5 rfl fun y31 => gNil <| eNext (fun aa ww h => h.sub [1] (Zs rfl rfl rfl rfl <| sN) (Zi rfl <| rN))
       ·
        refine gSkip <| eBlk <| eThen <| gReg <| Zm rfl <| Zq (I.add rfl rfl) <| Za rfl <| lName 5 rfl fun y32 => gNil <| eNext (fun aa ww h => h.sub [1] (Zs rfl rfl rfl rfl <| sN) (Zi rfl <| rN))
      ·
       refine gExit <| eTexit <| eLeave <| eMid (fun aa ww h => h.sub [1] (sS rfl <| sS rfl <| sN) (Zi rfl <| rN))
     ·
      refine gSR <| Zm rfl <| Zm rfl <| lBind fun u33 h34 => Zq (cutSu 1 rfl rfl (.to rfl) .no (chk_some h34) tu22 ti27) <| lBind fun u35 h36 => EsV (clrS 1 rfl rfl (chk_some h36) rfl tu22 ti27 zr26 rfl) <| Zn <| gSR <| Zm rfl <| Zm rfl <| lBind fun x37 h38 => Ef rfl (cutO 1 rfl rfl rfl h38 tu22 ti27) fun v39 => Za rfl <| Zn <| gRet <| eBret <| eTret <| eLret <| eMret <| eRet [v39] [1] rfl (eE rfl <| eN) (Zi rfl <| rN)
    ·
     refine gSkip <| eBlk <| eThen <| gReg <| Zm rfl <| Zq (I.add rfl rfl) <| Za rfl <| gNil <| eNext (fun aa ww h => h.sub [1] (sS rfl <| sS rfl <| sN) (Zi rfl <| rN))
   ·
    refine gExit <| eTexit <| eLeave <| eMidR (fun aa ww h => h.sub [1] (sS rfl <| sN) (Zi rfl <| rN))
  ·
   refine gSR <| Zm rfl <| Za rfl <| Zn <| gRet <| eRet [p0] [1] rfl (eE rfl <| eN) (Zi rfl <| rN)
def op_Check (a0 : api_Op) : Option (Int) :=
 some (decide (4 < (a0.Preds.length : Int))) >>= fun y2 =>
 if y2 then
  some 4
 else
  (slices_IsSortedFunc_api_ID_api_ID_digest_Cmp a0.Preds >>= fun r5 =>
  if !r5 then
   some true
  else
   slices_Clone_api_ID_api_ID a0.Preds >>= fun r8 =>
   slices_Compact_api_ID_api_ID r8 >>= fun r10 =>
   some ((r10.length : Int) != (a0.Preds.length : Int)) >>= fun y12 =>
   some y12) >>= fun s4 =>
  if s4 then
   some 32
  else
   (group_Is a0.Author >>= fun r15 =>
   if !r15 then
    some true
   else
    if decide (1000000000000 < a0.Stamp) then
     some true
    else
     some (decide (500000003 ≤ (max a0.Sig.E a0.Sig.S))) >>= fun y19 =>
     some y19) >>= fun s14 =>
   if s14 then
    some 8
   else
    op_CheckAct a0.Act >>= fun r21 =>
    some r21
theorem op_Check_ok (a0 : api_Op) : Spec Tryz.prog 68 [.rd R_api_Op a0] [] (op_Check a0) (fun r nv => ⟨[.rd i64R r], []⟩) := by
 refine spec 47 Tryz.func68 rfl rfl rfl fun H w => ?_
 refine gSR <| Eb rfl (bx 1 rfl) fun v1 => Za rfl <| Zn <| gSeq <| gBlk <| gSR <| Zq (faB 1 rfl rfl Tryz.underlying65 rfl (by exact ti22)) <| Zq (ld 1 rfl rfl ((Foc.here).part (pt_api_Op_Preds _)) ty22 rfl) <| Zq (len' rfl .rd rfl tu22) <| Zq (I.gtr rfl rfl) <| Za rfl <| lName 3 rfl fun y2 => Zn <| gIf rfl rfl (fun h3 => ?_) (fun h3 => ?_)
 ·
  refine gSR <| Za rfl <| Zn <| gRet <| eBret <| eTret <| eRet [] [] rfl (eE rfl <| eN) (rN)
 ·
  refine gMid (fun (s4 : Bool) aa ww => Sta (ctx 47 H [] w) [(1, .val (ptrTo v1 0)), (8, .rd boolR s4)] [(1, some (v1, .box 65 [.rd R_api_Op a0]))] aa ww) ?_ (fun s4 => ?_)
  ·
   refine gRegH [23, 26] mixed rfl rfl <| hTk 0 rfl rfl (faB 1 rfl rfl Tryz.underlying65 rfl (by exact ti22)) <| hTk 1 rfl rfl (ld 1 rfl rfl ((Foc.here).part (pt_api_Op_Preds _)) ty22 rfl) <| hCallF 2 [] [] rfl (by kernel_rfl) rfl (gd0 rfl) rfl Tryz.func91 rfl rfl (slices_IsSortedFunc_api_ID_api_ID_digest_Cmp_ok _) (aQ rfl <| aQ rfl <| aN) rN rfl (fun _ _ => flat_bool) fun r5 n6 => hTk 3 rfl rfl (not' rfl) <| hTk 4 rfl rfl (mv rfl) <| hIf 13 rfl rfl (fun h7 => ?_) (fun h7 => ?_)
   ·
    refine hKn 12 rfl rfl h7 <| hSk 5 rfl rfl <| hSk 6 rfl rfl <| hSk 7 rfl rfl <| hSk 8 rfl rfl <| hSk 9 rfl rfl <| hSk 10 rfl rfl <| hSk 11 rfl rfl <| hSk 12 rfl rfl <| hSk 13 rfl rfl <| hTk 14 rfl rfl (pkT rfl rfl) <| hTk 15 rfl rfl (asg rfl) <| hDone (by kernel_rfl) <| eMid (fun aa ww h => h.sub [1] (sS rfl <| sS rfl <| sN) (Zi rfl <| rN))
   ·
    refine hKn 12 rfl rfl h7 <| hTake 5 rfl (by kernel_rfl) (by kernel_rfl) (by kernel_rfl) (gd rfl rfl rfl rfl) rfl rfl (faB 1 rfl rfl Tryz.underlying65 rfl (by exact ti22)) <| hTake 6 rfl (by kernel_rfl) (by kernel_rfl) (by kernel_rfl) (gd rfl rfl rfl rfl) rfl rfl (ld 1 rfl rfl ((Foc.here).part (pt_api_Op_Preds _)) ty22 rfl) <| hTake 10 rfl (by kernel_rfl) (by kernel_rfl) (by kernel_rfl) (gd rfl rfl rfl rfl) rfl rfl (faB 1 rfl rfl Tryz.underlying65 rfl (by exact ti22)) <| hTake 11 rfl (by kernel_rfl) (by kernel_rfl) (by kernel_rfl) (gd rfl rfl rfl rfl) rfl rfl (ld 1 rfl rfl ((Foc.here).part (pt_api_Op_Preds _)) ty22 rfl) <| hTake 12 rfl (by kernel_rfl) (by kernel_rfl) (by kernel_rfl) (gd rfl rfl rfl rfl) rfl rfl (len' rfl .rd rfl tu22) <| hCallF 7 [] [(100, 23)] rfl (by kernel_rfl) rfl (gd rfl rfl rfl rfl) rfl Tryz.func38 rfl rfl (slices_Clone_api_ID_api_ID_ok _) (aQ rfl <| aN) rN rfl (fun _ _ => flat_val) fun r8 n9 => hCallF 8 [23] [(100, 26)] rfl (by kernel_rfl) rfl (gd rfl rfl rfl rfl) rfl Tryz.func42 rfl rfl (slices_Compact_api_ID_api_ID_ok _ _) (aQ rfl <| aN) (Zi rfl <| rN) rfl (fun _ _ => flat_val) fun r10 n11 => hTakeF 9 rfl (by kernel_rfl) (by kernel_rfl) (by kernel_rfl) (gd rfl rfl rfl rfl) rfl rfl flat_num (len' rfl (.own 26 rfl) rfl tu22) <| hTake 13 rfl (by kernel_rfl) (by kernel_rfl) (by kernel_rfl) (gd rfl rfl rfl rfl) rfl rfl (I.neq rfl rfl) <| hTk 14 rfl rfl (pkF rfl rfl) <| hTk 15 rfl rfl (asg rfl) <| hName 8 rfl rfl fun y12 => hDone (by kernel_rfl) <| eMid (fun aa ww h => h.sub [1] (sS rfl <| sS rfl <| sN) (Zi rfl <| rN))
  ·
   refine gIf rfl rfl (fun h13 => ?_) (fun h13 => ?_)
   ·
    refine gSR <| Za rfl <| Zn <| gRet <| eBret <| eTret <| eRet [] [] rfl (eE rfl <| eN) (rN)
   ·
    refine gMid (fun (s14 : Bool) aa ww => Sta (ctx 47 H [] w) [(1, .val (ptrTo v1 0)), (24, .rd boolR s14)] [(1, some (v1, .box 65 [.rd R_api_Op a0]))] aa ww) ?_ (fun s14 => ?_)
    ·
     refine gReg <| Zq (faB 1 rfl rfl Tryz.underlying65 rfl (by exact ti56)) <| Zq (ld 1 rfl rfl ((Foc.here).part (pt_api_Op_Author _)) ty56 rfl) <| call [] [] rfl Tryz.func92 rfl rfl (group_Is_ok _) (aQ rfl <| aN) rN fun r15 n16 => Zq (not' rfl) <| Zm rfl <| lSplit 29 rfl (fun h17 => ?_) (fun h17 => ?_)
     ·
      refine lKn 28 rfl h17 <| Zk rfl <| Zk rfl <| Zk rfl <| Zq (pkT rfl rfl) <| Zm rfl <| Zk rfl <| Zk rfl <| Zk rfl <| Zk rfl <| Zk rfl <| Zk rfl <| Zk rfl <| Zk rfl <| Zq (pkT rfl rfl) <| Za rfl <| gNil <| eMid (fun aa ww h => h.sub [1] (sS rfl <| sS rfl <| sN) (Zi rfl <| rN))
     ·
      refine lKn 28 rfl h17 <| lRun (gd rfl rfl rfl rfl) rfl rfl (faB 1 rfl rfl Tryz.underlying65 rfl (by exact ti57)) <| lRun (gd rfl rfl rfl rfl) rfl rfl (ld 1 rfl rfl ((Foc.here).part (pt_api_Op_Stamp _)) ty57 rfl) <| lRun (gd rfl rfl rfl rfl) rfl rfl (U.gtr rfl rfl) <| Zq (pkF rfl rfl) <| Zm rfl <| lSplit 34 rfl (fun h18 => ?_) (fun h18 => ?_)
      ·
       refine lKn 32 rfl h18 <| lKn 33 rfl h18 <| Zk rfl <| Zk rfl <| Zk rfl <| Zk rfl <| Zk rfl <| Zk rfl <| Zk rfl <| Zk rfl <| Zq (pkT rfl rfl) <| Za rfl <| gNil <| eMid (fun aa ww h => h.sub [1] (sS rfl <| sS rfl <| sN) (Zi rfl <| rN))
      ·
       refine lKn 32 rfl h18 <| lKn 33 rfl h18 <| lRun (gd rfl rfl rfl rfl) rfl rfl (faB 1 rfl rfl Tryz.underlying65 rfl (by exact ti63)) <| lRun (gd rfl rfl rfl rfl) rfl rfl (faB 1 rfl rfl Tryz.underlying63 rfl (by exact ti56)) <| lRun (gd rfl rfl rfl rfl) rfl rfl (ld 1 rfl rfl (((Foc.here).part (pt_api_Op_Sig _)).part (pt_api_Sig_E _)) ty56 rfl) <| lRun (gd rfl rfl rfl rfl) rfl rfl (faB 1 rfl rfl Tryz.underlying65 rfl (by exact ti63)) <| lRun (gd rfl rfl rfl rfl) rfl rfl (faB 1 rfl rfl Tryz.underlying63 rfl (by exact ti56)) <| lRun (gd rfl rfl rfl rfl) rfl rfl (ld 1 rfl rfl (((Foc.here).part (pt_api_Op_Sig _)).part (pt_api_Sig_S _)) ty56 rfl) <| lRun (gd rfl rfl rfl rfl) rfl rfl (W.max rfl rfl) <| lRun (gd rfl rfl rfl rfl) rfl rfl (W.geq rfl rfl) <| Zq (pkF rfl rfl) <| Za rfl <| lName 24 rfl fun y19 => gNil <| eMid (fun aa ww h => h.sub [1] (sS rfl <| sS rfl <| sN) (Zi rfl <| rN))
    ·
     refine gIf rfl rfl (fun h20 => ?_) (fun h20 => ?_)
     ·
      refine gSR <| Za rfl <| Zn <| gRet <| eBret <| eTret <| eRet [] [] rfl (eE rfl <| eN) (rN)
     ·
      refine gSkip <| eBlk <| eThen <| gSR <| Zq (faB 1 rfl rfl Tryz.underlying65 rfl (by exact ti61)) <| Zq (ld 1 rfl rfl ((Foc.here).part (pt_api_Op_Act _)) ty61 rfl) <| call [] [] rfl Tryz.func93 rfl rfl (op_CheckAct_ok _) (aQ rfl <| aN) rN fun r21 n22 => Za rfl <| Zn <| gRet <| eRet [] [] rfl (eE rfl <| eN) (rN)
def wire_rising_1 (a0 : Vector UInt8 32) (c1_0 : Int) (c2_0 : List (Vector UInt8 32)) : Option (Bool × Int) :=
 if decide ((w64 (c1_0 + 1)) < (c2_0.length : Int)) then
  idx c2_0 (w64 ((w64 (c1_0 + 1)) - 1)) >>= fun x3 =>
  idx c2_0 (w64 (c1_0 + 1)) >>= fun x5 =>
  digest_Cmp x3 x5 >>= fun r7 =>
  some (decide (0 ≤ r7)) >>= fun y9 =>
  some (y9, w64 (c1_0 + 1))
 else
  some (false, w64 (c1_0 + 1))
theorem wire_rising_1_ok (a0 : Vector UInt8 32) (p1_0 : Value) (c1_0 : Int) (p2_0 : Value) (c2_0 : List (Vector UInt8 32)) : Spec Tryz.prog 152 [.rd (arrR 32 u8R) a0, .val (ptrTo p1_0 0), .val (ptrTo p2_0 0)] [(1, some (p1_0, .box 3 [.rd i64R c1_0])), (2, some (p2_0, .box 22 [.rd (sliceR (arrR 32 u8R)) c2_0]))] (wire_rising_1 a0 c1_0 c2_0) (fun r nv => ⟨[.rd boolR r.1], [(1, some (p1_0, .box 3 [.rd i64R r.2])), (2, some (p2_0, .box 22 [.rd (sliceR (arrR 32 u8R)) c2_0]))]⟩) := by
 refine spec 24 Tryz.func152 rfl rfl rfl fun H w => ?_
 refine gSR <| Eb rfl (bx 3 rfl) fun v1 => Za rfl <| Zn <| gSR <| Zq (ld 1 rfl rfl Foc.here ty3 rfl) <| Zq (I.add rfl rfl) <| Es (sto 1 rfl rfl Foc.here rfl ti3) <| Zn <| gSeq <| gRegH [] mixed rfl rfl <| hTk 0 rfl rfl (ld 1 rfl rfl Foc.here ty3 rfl) <| hTk 1 rfl rfl (ld 2 rfl rfl Foc.here ty22 rfl) <| hTk 2 rfl rfl (len' rfl .rd rfl tu22) <| hTk 3 rfl rfl (I.lss rfl rfl) <| hTk 4 rfl rfl (mv rfl) <| hIf 11 rfl rfl (fun h2 => ?_) (fun h2 => ?_)
 ·
  refine hKn 10 rfl rfl h2 <| hTake 5 rfl (by kernel_rfl) (by kernel_rfl) (by kernel_rfl) (gd rfl rfl rfl rfl) rfl rfl (ld 2 rfl rfl Foc.here ty22 rfl) <| hTake 6 rfl (by kernel_rfl) (by kernel_rfl) (by kernel_rfl) (gd rfl rfl rfl rfl) rfl rfl (ld 1 rfl rfl Foc.here ty3 rfl) <| hTake 7 rfl (by kernel_rfl) (by kernel_rfl) (by kernel_rfl) (gd rfl rfl rfl rfl) rfl rfl (I.sub rfl rfl) <| hBind fun x3 h4 => hTake 8 rfl (by kernel_rfl) (by kernel_rfl) (by kernel_rfl) (gd rfl rfl rfl rfl) rfl rfl (ixR rfl rfl h4 tu22 ti27 rfl) <| hTake 9 rfl (by kernel_rfl) (by kernel_rfl) (by kernel_rfl) (gd rfl rfl rfl rfl) rfl rfl (ldR rfl ty27) <| hTake 10 rfl (by kernel_rfl) (by kernel_rfl) (by kernel_rfl) (gd rfl rfl rfl rfl) rfl rfl (ld 2 rfl rfl Foc.here ty22 rfl) <| hTake 11 rfl (by kernel_rfl) (by kernel_rfl) (by kernel_rfl) (gd rfl rfl rfl rfl) rfl rfl (ld 1 rfl rfl Foc.here ty3 rfl) <| hBind fun x5 h6 => hTake 12 rfl (by kernel_rfl) (by kernel_rfl) (by kernel_rfl) (gd rfl rfl rfl rfl) rfl rfl (ixR rfl rfl h6 tu22 ti27 rfl) <| hTake 13 rfl (by kernel_rfl) (by kernel_rfl) (by kernel_rfl) (gd rfl rfl rfl rfl) rfl rfl (ldR rfl ty27) <| hCallF 14 [] [] rfl (by kernel_rfl) rfl (gd rfl rfl rfl rfl) rfl Tryz.func41 rfl rfl (digest_Cmp_ok _ _) (aQ rfl <| aQ rfl <| aN) rN rfl (fun _ _ => flat_num) fun r7 n8 => hTake 15 rfl (by kernel_rfl) (by kernel_rfl) (by kernel_rfl) (gd rfl rfl rfl rfl) rfl rfl (I.geq rfl rfl) <| hTk 16 rfl rfl (pkT rfl rfl) <| hTk 17 rfl rfl (asg rfl) <| hName 4 rfl rfl fun y9 => hDone (by kernel_rfl) <| eThen <| gRet <| eRet [] [1, 2] rfl (eE rfl <| eN) (Zi rfl <| Zi rfl <| rN)
 ·
  refine hKn 10 rfl rfl h2 <| hSk 5 rfl rfl <| hSk 6 rfl rfl <| hSk 7 rfl rfl <| hSk 8 rfl rfl <| hSk 9 rfl rfl <| hSk 10 rfl rfl <| hSk 11 rfl rfl <| hSk 12 rfl rfl <| hSk 13 rfl rfl <| hSk 14 rfl rfl <| hSk 15 rfl rfl <| hTk 16 rfl rfl (pkF rfl rfl) <| hTk 17 rfl rfl (asg rfl) <| hDone (by kernel_rfl) <| eThen <| gRet <| eRet [] [1, 2] rfl (eE rfl <| eN) (Zi rfl <| Zi rfl <| rN)
def slices_IndexFunc_api_ID_api_ID_wire_rising_1_L0 (a0 : List (Vector UInt8 32)) (c1_1 : List (Vector UInt8 32)) (s2 : Int × Int) : Option (Sum (Sum (Int × Int) Int) (Int × Int)) :=
 if decide (s2.2 < (a0.length : Int)) then
  idx a0 s2.2 >>= fun x4 =>
  wire_rising_1 x4 s2.1 c1_1 >>= fun r6 =>
  if r6.1 then
   some (.inl (.inl (s2.2, r6.2)))
  else
   some (.inr (r6.2, w64 (s2.2 + 1)))
 else
  some (.inl (.inr s2.1))
def slices_IndexFunc_api_ID_api_ID_wire_rising_1 (a0 : List (Vector UInt8 32)) (c1_0 : Int) (c1_1 : List (Vector UInt8 32)) : Option (Int × Int) :=
 orRet (iter (slices_IndexFunc_api_ID_api_ID_wire_rising_1_L0 a0 c1_1) (c1_0, 0)) fun s1 =>
 some ((-1), s1)
theorem slices_IndexFunc_api_ID_api_ID_wire_rising_1_ok (a0 : List (Vector UInt8 32)) (p1_0 : Value) (c1_0 : Int) (p1_1 : Value) (c1_1 : List (Vector UInt8 32)) : Spec Tryz.prog 60 [.rd (sliceR (arrR 32 u8R)) a0, .val (.func (.func 152) #[] #[ptrTo p1_0 0, ptrTo p1_1 0])] [(1, some (p1_0, .box 3 [.rd i64R c1_0])), (2, some (p1_1, .box 22 [.rd (sliceR (arrR 32 u8R)) c1_1]))] (slices_IndexFunc_api_ID_api_ID_wire_rising_1 a0 c1_0 c1_1) (fun r nv => ⟨[.rd i64R r.1], [(1, some (p1_0, .box 3 [.rd i64R r.2])), (2, some (p1_1, .box 22 [.rd (sliceR (arrR 32 u8R)) c1_1]))]⟩) := by
 refine spec 19 Tryz.func60 rfl rfl rfl fun H w => ?_
 refine gSR <| Za rfl <| Zn <| gMidR (fun (s1 : Int) aa ww => Sta (ctx 19 H [(1, some (p1_0, .box 3 [.rd i64R c1_0])), (2, some (p1_1, .box 22 [.rd (sliceR (arrR 32 u8R)) c1_1]))] w) [] [(1, some (p1_0, .box 3 [.rd i64R s1])), (2, some (p1_1, .box 22 [.rd (sliceR (arrR 32 u8R)) c1_1]))] aa ww) ?_ (fun s1 => ?_)
 ·
  refine gSR <| Zm rfl <| Zq (len' rfl .rd rfl tu22) <| Zm rfl <| Zn <| gLoop (fun (s2 : Int × Int) aa ww => Sta (ctx 19 H [(1, some (p1_0, .box 3 [.rd i64R c1_0])), (2, some (p1_1, .box 22 [.rd (sliceR (arrR 32 u8R)) c1_1]))] w) [(0, .rd (sliceR (arrR 32 u8R)) a0), (1, .val (.func (.func 152) #[] #[ptrTo p1_0 0, ptrTo p1_1 0])), (7, .rd i64R (a0.length : Int)), (8, .rd i64R s2.2)] [(1, some (p1_0, .box 3 [.rd i64R s2.1])), (2, some (p1_1, .box 22 [.rd (sliceR (arrR 32 u8R)) c1_1]))] aa ww) (fun aa ww h => h.sub [1, 2] (Zs rfl rfl rfl rfl <| sN) (Zi rfl <| Zi rfl <| rN)) (fun s2 => ?_)
  refine gSR <| Zq (I.lss rfl rfl) <| Zn <| gSeq <| gIf rfl rfl (fun h3 => ?_) (fun h3 => ?_)
  ·
   refine Zt <| gSeq <| gBlk <| gSR <| Zm rfl <| Za rfl <| Zn <| gSR <| Zm rfl <| Zm rfl <| Zm rfl <| lBind fun x4 h5 => Zq (ixR rfl rfl h5 tu22 ti27 rfl) <| Zq (ldR rfl ty27) <| callv [1, 2] [(1, 1), (2, 2)] (gd0 rfl) rfl rfl Tryz.func152 rfl rfl (wire_rising_1_ok _ _ _ _ _) (aQ rfl <| aN) (cQ 1 rfl <| cQ 2 rfl <| cN) (Zi rfl <| Zi rfl <| rN) fun r6 n7 => Zn <| gIf rfl rfl (fun h8 => ?_) (fun h8 => ?_)
   ·
    refine gSR <| Zm rfl <| Za rfl <| Zn <| gRet <| eBret <| eTret <| eLret <| eMret <| eRet [] [1, 2] rfl (eE rfl <| eN) (Zi rfl <| Zi rfl <| rN)
   ·
    refine gSkip <| eBlk <| eThen <| gReg <| Zq (I.add rfl rfl) <| Zm rfl <| gNil <| eNext (fun aa ww h => h.sub [1, 2] (Zs rfl rfl rfl rfl <| sN) (Zi rfl <| Zi rfl <| rN))
  ·
   refine gExit <| eTexit <| eLeave <| eMidR (fun aa ww h => h.sub [1, 2] (sN) (Zi rfl <| Zi rfl <| rN))
 ·
  refine gSR <| Za rfl <| Zn <| gRet <| eRet [] [1, 2] rfl (eE rfl <| eN) (Zi rfl <| Zi rfl <| rN)
def slices_ContainsFunc_api_ID_api_ID_wire_rising_1 (a0 : List (Vector UInt8 32)) (c1_0 : Int) (c1_1 : List (Vector UInt8 32)) : Option (Bool × Int) :=
 slices_IndexFunc_api_ID_api_ID_wire_rising_1 a0 c1_0 c1_1 >>= fun r1 =>
 some (decide (0 ≤ r1.1)) >>= fun y3 =>
 some (y3, r1.2)
theorem slices_ContainsFunc_api_ID_api_ID_wire_rising_1_ok (a0 : List (Vector UInt8 32)) (p1_0 : Value) (c1_0 : Int) (p1_1 : Value) (c1_1 : List (Vector UInt8 32)) : Spec Tryz.prog 45 [.rd (sliceR (arrR 32 u8R)) a0, .val (.func (.func 152) #[] #[ptrTo p1_0 0, ptrTo p1_1 0])] [(1, some (p1_0, .box 3 [.rd i64R c1_0])), (2, some (p1_1, .box 22 [.rd (sliceR (arrR 32 u8R)) c1_1]))] (slices_ContainsFunc_api_ID_api_ID_wire_rising_1 a0 c1_0 c1_1) (fun r nv => ⟨[.rd boolR r.1], [(1, some (p1_0, .box 3 [.rd i64R r.2])), (2, some (p1_1, .box 22 [.rd (sliceR (arrR 32 u8R)) c1_1]))]⟩) := by
 refine spec 9 Tryz.func45 rfl rfl rfl fun H w => ?_
 refine gSR <| Za rfl <| Zn <| gSR <| Zm rfl <| Zm rfl <| call [1, 2] [(1, 1), (2, 2)] rfl Tryz.func60 rfl rfl (slices_IndexFunc_api_ID_api_ID_wire_rising_1_ok _ _ _ _ _) (aQ rfl <| aQ rfl <| aN) (Zi rfl <| Zi rfl <| rN) fun r1 n2 => Zq (I.geq rfl rfl) <| Za rfl <| lName 4 rfl fun y3 => Zn <| gRet <| eRet [] [1, 2] rfl (eE rfl <| eN) (Zi rfl <| Zi rfl <| rN)
def wire_rising (a0 : List (Vector UInt8 32)) : Option (Bool) :=
 slices_ContainsFunc_api_ID_api_ID_wire_rising_1 a0 0 a0 >>= fun r3 =>
 some (!r3.1)
theorem wire_rising_ok (a0 : List (Vector UInt8 32)) : Spec Tryz.prog 125 [.rd (sliceR (arrR 32 u8R)) a0] [] (wire_rising a0) (fun r nv => ⟨[.rd boolR r], []⟩) := by
 refine spec 8 Tryz.func125 rfl rfl rfl fun H w => ?_
 refine gSR <| Eb rfl (bx 1 rfl) fun v1 => Za rfl <| Zn <| gSR <| Eb rfl (allc 2 ti3 (.zr (R := i64R) (x := 0) (Zr.num rfl))) fun v2 => Es (sto 2 rfl rfl Foc.here rfl ti3) <| Zn <| gSR <| Zq (ld 1 rfl rfl Foc.here ty22 rfl) <| Zq (mkf mp0 (mp2 rfl rfl)) <| call [2, 1] [(1, 2), (2, 1)] rfl Tryz.func45 rfl rfl (slices_ContainsFunc_api_ID_api_ID_wire_rising_1_ok _ _ _ _ _) (aQ rfl <| aQ rfl <| aN) (Zi rfl <| Zi rfl <| rN) fun r3 n4 => Zq (not' rfl) <| Za rfl <| Zn <| gRet <| eRet [] [] rfl (eE rfl <| eN) (rN)
def math_bits_Len64 (a0 : UInt64) : Option (Int) :=
 (if decide (4294967296 ≤ a0) then
  some (shr64 a0 32, 32)
 else
  some (a0, 0)) >>= fun s1 =>
 (if decide (65536 ≤ s1.1) then
  some (shr64 s1.1 16) >>= fun y5 =>
  some (w64 (s1.2 + 16)) >>= fun y6 =>
  some (y5, y6)
 else
  some (s1.1, s1.2)) >>= fun s3 =>
 (if decide (256 ≤ s3.1) then
  some (w64 (s3.2 + 8)) >>= fun y9 =>
  some (shr64 s3.1 8, y9)
 else
  some (s3.1, s3.2)) >>= fun s7 =>
 idx ([0, 1, 2, 2, 3, 3, 3, 3, 4, 4, 4, 4, 4, 4, 4, 4, 5, 5, 5, 5, 5, 5, 5, 5, 5, 5, 5, 5, 5, 5, 5, 5, 6, 6, 6, 6, 6, 6, 6, 6, 6, 6, 6, 6, 6, 6, 6, 6, 6, 6, 6, 6, 6, 6, 6, 6, 6, 6, 6, 6, 6, 6, 6, 6, 7, 7, 7, 7, 7, 7, 7, 7, 7, 7, 7, 7, 7, 7, 7, 7, 7, 7, 7, 7, 7, 7, 7, 7, 7, 7, 7, 7, 7, 7, 7, 7, 7, 7, 7, 7, 7, 7, 7, 7, 7, 7, 7, 7, 7, 7, 7, 7, 7, 7, 7, 7, 7, 7, 7, 7, 7, 7, 7, 7, 7, 7, 7, 7, 8, 8, 8, 8, 8, 8, 8, 8, 8, 8, 8, 8, 8, 8, 8, 8, 8, 8, 8, 8, 8, 8, 8, 8, 8, 8, 8, 8, 8, 8, 8, 8, 8, 8, 8, 8, 8, 8, 8, 8, 8, 8, 8, 8, 8, 8, 8, 8, 8, 8, 8, 8, 8, 8, 8, 8, 8, 8, 8, 8, 8, 8, 8, 8, 8, 8, 8, 8, 8, 8, 8, 8, 8, 8, 8, 8, 8, 8, 8, 8, 8, 8, 8, 8, 8, 8, 8, 8, 8, 8, 8, 8, 8, 8, 8, 8, 8, 8, 8, 8, 8, 8, 8, 8, 8, 8, 8, 8, 8, 8, 8, 8, 8, 8, 8, 8, 8, 8, 8, 8, 8, 8, 8, 8, 8, 8, 8, 8] : List UInt8) (s7.1.toUInt8.toNat : Int) >>= fun x10 =>
 some (w64 (s7.2 + (x10.toNat : Int))) >>= fun y12 =>
 some y12
theorem math_bits_Len64_ok (a0 : UInt64) : Spec Tryz.prog 86 [.rd u64R a0] [] (math_bits_Len64 a0) (fun r nv => ⟨[.rd i64R r], []⟩) := by
 refine spec 25 Tryz.func86 rfl rfl rfl fun H w => ?_
 refine gSR <| Za rfl <| Zn <| gMid (fun (s1 : UInt64 × Int) aa ww => Sta (ctx 25 H [] w) [(0, .rd u64R s1.1), (2, .rd i64R s1.2)] [] aa ww) ?_ (fun s1 => ?_)
 ·
  refine gSR <| Zm rfl <| Zq (U.geq rfl rfl) <| Zn <| gIf rfl rfl (fun h2 => ?_) (fun h2 => ?_)
  ·
   refine gSR <| Zm rfl <| Zq (U.shr rfl rfl (Int.natCast_nonneg _)) <| Za rfl <| Zn <| gReg <| Za rfl <| gNil <| eMid (fun aa ww h => h.sub [] (sS rfl <| sS rfl <| sN) (rN))
  ·
   refine gSkip <| eMid (fun aa ww h => h.sub [] (sS rfl <| sS rfl <| sN) (rN))
 ·
  refine gMid (fun (s3 : UInt64 × Int) aa ww => Sta (ctx 25 H [] w) [(0, .rd u64R s3.1), (2, .rd i64R s3.2)] [] aa ww) ?_ (fun s3 => ?_)
  ·
   refine gSR <| Zm rfl <| Zq (U.geq rfl rfl) <| Zn <| gIf rfl rfl (fun h4 => ?_) (fun h4 => ?_)
   ·
    refine gSR <| Zm rfl <| Zq (U.shr rfl rfl (Int.natCast_nonneg _)) <| Za rfl <| lName 0 rfl fun y5 => Zn <| gReg <| Zm rfl <| Zq (I.add rfl rfl) <| Za rfl <| lName 2 rfl fun y6 => gNil <| eMid (fun aa ww h => h.sub [] (sS rfl <| sS rfl <| sN) (rN))
   ·
    refine gSkip <| eMid (fun aa ww h => h.sub [] (sS rfl <| sS rfl <| sN) (rN))
  ·
   refine gMid (fun (s7 : UInt64 × Int) aa ww => Sta (ctx 25 H [] w) [(0, .rd u64R s7.1), (2, .rd i64R s7.2)] [] aa ww) ?_ (fun s7 => ?_)
   ·
    refine gSR <| Zm rfl <| Zq (U.geq rfl rfl) <| Zn <| gIf rfl rfl (fun h8 => ?_) (fun h8 => ?_)
    ·
     refine gSR <| Zm rfl <| Zq (U.shr rfl rfl (Int.natCast_nonneg _)) <| Za rfl <| Zn <| gReg <| Zm rfl <| Zq (I.add rfl rfl) <| Za rfl <| lName 2 rfl fun y9 => gNil <| eMid (fun aa ww h => h.sub [] (sS rfl <| sS rfl <| sN) (rN))
    ·
     refine gSkip <| eMid (fun aa ww h => h.sub [] (sS rfl <| sS rfl <| sN) (rN))
   ·
    refine gSR <| Zm rfl <| Zm rfl <| Zq (U.toB rfl tu57 tu5) <| lBind fun x10 h11 => Zq (idxT rfl rfl tu9 (idx_some h11).1 (idx_some h11).2.1) <| Zq (B.toI rfl tu5 tu3) <| Zq (I.add rfl rfl) <| Za rfl <| lName 2 rfl fun y12 => Zn <| gRet <| eRet [] [] rfl (eE rfl <| eN) (rN)
def wire_Number_L0 (a0 : UInt64) (y5 : Int) (s12 : (List UInt8) × Int) : Option (Sum ((List UInt8)) ((List UInt8) × Int)) :=
 if decide (s12.2 < y5) then
  chk (0 ≤ w64 (8 * s12.2)) >>= fun u14 =>
  idx s12.1 (w64 (y5 - s12.2)) >>= fun x16 =>
  some (.inr (s12.1.set (w64 (y5 - s12.2) : Int).toNat ((shr64 a0 ((w64 (8 * s12.2) : Int).toNat)).toUInt8), w64 (s12.2 + 1)))
 else
  some (.inl s12.1)
def wire_Number (a0 : UInt64) : Option ((List UInt8)) :=
 if decide (a0 ≤ 247) then
  some [a0.toUInt8]
 else
  math_bits_Len64 a0 >>= fun r3 =>
  some (w64 (Int.tdiv (w64 (r3 + 7)) 8)) >>= fun y5 =>
  mkn 1 0 (w64 (y5 + 1)) >>= fun x6 =>
  idx x6 0 >>= fun x9 =>
  (iter (wire_Number_L0 a0 y5) (x6.set (0 : Int).toNat (UInt8.ofInt (w64 (247 + y5))), 0)) >>= fun s11 =>
  some s11
theorem wire_Number_ok (a0 : UInt64) : Spec Tryz.prog 89 [.rd u64R a0] [] (wire_Number a0) (fun r nv => ⟨[.val (nv 0)], [(100, some (nv 0, .list u8R 5 r))]⟩) := by
 refine spec 39 Tryz.func89 rfl rfl rfl fun H w => ?_
 refine gSR <| Za rfl <| Zn <| gSeq <| gSR <| Zm rfl <| Zq (U.leq rfl rfl) <| Zn <| gIf rfl rfl (fun h1 => ?_) (fun h1 => ?_)
 ·
  refine gSR <| Zm rfl <| Zq (U.toB rfl tu57 tu5) <| Ef rfl (lit (R := u8R) ([a0.toUInt8] : List UInt8) 1 (pP rfl rfl <| pN) rfl tu103 ti5 rfl rfl) fun v2 => Za rfl <| Zn <| gRet <| eTret <| eRet [v2] [1] rfl (eE rfl <| eN) (Zi rfl <| rN)
 ·
  refine Zt <| gSR <| Zm rfl <| call [] [] rfl Tryz.func86 rfl rfl (math_bits_Len64_ok _) (aQ rfl <| aN) rN fun r3 n4 => Zq (I.add rfl rfl) <| Zq (I.quo rfl rfl (by decide)) <| Za rfl <| lName 3 rfl fun y5 => Zn <| gSR <| Zm rfl <| Zq (I.add rfl rfl) <| lBind fun x6 h7 => Ef rfl (mks (R := u8R) 2 rfl rfl h7 tu103 ti5 (Zr.num rfl) rfl) fun v8 => Za rfl <| Zn <| gSR <| Zm rfl <| Zm rfl <| Zq (I.add rfl rfl) <| Zq (I.toB rfl tu3 tu5) <| lBind fun x9 h10 => Zq (ixO 2 rfl rfl rfl h10 tu103 ti5) <| Es (sto 2 rfl rfl (Foc.el h10) rfl ti5) <| Zn <| gMid (fun (s11 : (List UInt8)) aa ww => Sta (ctx 39 H [] w) [(4, .val v8)] [(2, some (v8, .list u8R 5 s11))] aa ww) ?_ (fun s11 => ?_)
  ·
   refine gSR <| Zm rfl <| Zm rfl <| Zn <| gLoop (fun (s12 : (List UInt8) × Int) aa ww => Sta (ctx 39 H [] w) [(0, .rd u64R a0), (3, .rd i64R y5), (4, .val v8), (23, .rd i64R y5), (24, .rd i64R s12.2)] [(2, some (v8, .list u8R 5 s12.1))] aa ww) (fun aa ww h => h.sub [2] (Zs rfl rfl rfl rfl <| sS rfl <| sN) (Zi rfl <| rN)) (fun s12 => ?_)
   refine gSR <| Zq (I.lss rfl rfl) <| Zn <| gSeq <| gIf rfl rfl (fun h13 => ?_) (fun h13 => ?_)
   ·
    refine Zt <| gSeq <| gBlk <| gSR <| Zm rfl <| Za rfl <| Zn <| gReg <| Zm rfl <| Zm rfl <| Zm rfl <| Zq (I.sub rfl rfl) <| Zm rfl <| Zm rfl <| Zq (I.mul rfl rfl) <| lBind fun u14 h15 => Zq (U.shr rfl rfl (chk_some h15)) <| Zq (U.toB rfl tu57 tu5) <| lBind fun x16 h17 => Zq (ixO 2 rfl rfl rfl h17 tu103 ti5) <| Es (sto 2 rfl rfl (Foc.el h17) rfl ti5) <| gNil <| eBlk <| eThen <| gReg <| Zq (I.add rfl rfl) <| Zm rfl <| gNil <| eNext (fun aa ww h => h.sub [2] (Zs rfl rfl rfl rfl <| sS rfl <| sN) (Zi rfl <| rN))
   ·
    refine gExit <| eTexit <| eLeave <| eMid (fun aa ww h => h.sub [2] (sS rfl <| sN) (Zi rfl <| rN))
  ·
   refine gSR <| Zm rfl <| Za rfl <| Zn <| gRet <| eRet [v8] [2] rfl (eE rfl <| eN) (Zi rfl <| rN)
def wire_IDs_L0 (a0 : List (Vector UInt8 32)) (s8 : (List UInt8) × Int) : Option (Sum ((List UInt8)) ((List UInt8) × Int)) :=
 if decide (s8.2 < (a0.length : Int)) then
  idx a0 s8.2 >>= fun x11 =>
  app 1 s8.1 x11.toList >>= fun x14 =>
  some (.inr (x14, w64 (s8.2 + 1)))
 else
  some (.inl s8.1)
def wire_IDs (a0 : List (Vector UInt8 32)) : Option ((List UInt8) × Int) :=
 if decide (60 < (a0.length : Int)) then
  some ([], 4)
 else
  wire_rising a0 >>= fun r2 =>
  if !r2 then
   some ([], 32)
  else
   wire_Number (UInt64.ofInt (a0.length : Int)) >>= fun r5 =>
   (iter (wire_IDs_L0 a0) (r5, 0)) >>= fun s7 =>
   some (s7, 0)
theorem wire_IDs_ok (a0 : List (Vector UInt8 32)) : Spec Tryz.prog 94 [.rd (sliceR (arrR 32 u8R)) a0] [] (wire_IDs a0) (fun r nv => ⟨[.val (nv 0), .rd i64R r.2], [(100, some (nv 0, .list u8R 5 r.1))]⟩) := by
 refine spec 28 Tryz.func94 rfl rfl rfl fun H w => ?_
 refine gSR <| Za rfl <| Za rfl <| Zn <| gSeq <| gSR <| Zm rfl <| Zq (len' rfl .rd rfl tu22) <| Zq (I.gtr rfl rfl) <| Zn <| gIf rfl rfl (fun h1 => ?_) (fun h1 => ?_)
 ·
  refine gSR <| Za rfl <| Za rfl <| Zn <| gRet <| eTret <| eNew u8R 5 1 <| eRet [(.slice none 0 0)] [1] rfl (eE rfl <| eE rfl <| eN) (Zi rfl <| rN)
 ·
  refine Zt <| gSeq <| gSR <| Zm rfl <| call [] [] rfl Tryz.func125 rfl rfl (wire_rising_ok _) (aQ rfl <| aN) rN fun r2 n3 => Zq (not' rfl) <| Zn <| gIf rfl rfl (fun h4 => ?_) (fun h4 => ?_)
  ·
   refine gSR <| Za rfl <| Za rfl <| Zn <| gRet <| eTret <| eNew u8R 5 2 <| eRet [(.slice none 0 0)] [2] rfl (eE rfl <| eE rfl <| eN) (Zi rfl <| rN)
  ·
   refine Zt <| gSR <| Zm rfl <| Zq (len' rfl .rd rfl tu22) <| Zq (I.toU rfl tu3 tu57) <| call [] [(100, 3)] rfl Tryz.func89 rfl rfl (wire_Number_ok _) (aQ rfl <| aN) rN fun r5 n6 => Za rfl <| Zn <| gMid (fun (s7 : (List UInt8)) aa ww => ∃ nv : Nat → Value, Sta (ctx 28 H [] w) [(4, .val (nv 0))] [(3, some ((nv 0), .list u8R 5 s7))] aa ww) ?_ (fun s7 => ?_)
   ·
    refine gSR <| Zm rfl <| Zq (len' rfl .rd rfl tu22) <| Zm rfl <| Zn <| gLoop (fun (s8 : (List UInt8) × Int) aa ww => ∃ nv : Nat → Value, Sta (ctx 28 H [] w) [(4, .val (nv 0)), (17, .rd (sliceR (arrR 32 u8R)) a0), (18, .rd i64R (a0.length : Int)), (19, .rd i64R s8.2)] [(3, some ((nv 0), .list u8R 5 s8.1))] aa ww) (fun aa ww h => ⟨nvl [(n6 0)], h.sub [3] (Zs rfl rfl rfl rfl <| sN) (Zi rfl <| rN)⟩) (fun s8 => ?_)
    refine gEx fun n9 => gSR <| Zq (I.lss rfl rfl) <| Zn <| gSeq <| gIf rfl rfl (fun h10 => ?_) (fun h10 => ?_)
    ·
     refine Zt <| gSeq <| gBlk <| gSR <| lBind fun x11 h12 => Zq (ixR rfl rfl h12 tu22 ti27 rfl) <| Zq (ldR rfl ty27) <| Eb rfl (allc 4 ti27 (.zr (R := (arrR 32 u8R)) (x := (Vector.replicate 32 0)) zr26)) fun v13 => Es (sto 4 rfl rfl Foc.here rfl ti27) <| Zn <| gReg <| Zm rfl <| lFrzB 4 6 rfl rfl <| Zq (cutV rfl tu27 ti5 rfl rfl rfl) <| lBind fun x14 h15 => Ef rfl (apn 3 rfl rfl rfl .rd h15 tu103 ti5 rfl rfl rfl) fun v16 => Za rfl <| gNil <| eBlk <| eThen <| gReg <| Zq (I.add rfl rfl) <| Zm rfl <| gNil <| eNext (fun aa ww h => ⟨nvl [v16], h.sub [3] (Zs rfl rfl rfl rfl <| sN) (Zi rfl <| rN)⟩)
    ·
     refine gExit <| eTexit <| eLeave <| eMid (fun aa ww h => ⟨nvl [(n9 0)], h.sub [3] (sS rfl <| sN) (Zi rfl <| rN)⟩)
   ·
    refine gEx fun n17 => gSR <| Zm rfl <| Za rfl <| Za rfl <| Zn <| gRet <| eRet [(n17 0)] [3] rfl (eE rfl <| eE rfl <| eN) (Zi rfl <| rN)
def slices_Grow_byte_byte (a1 : Int) : Option ((List UInt8)) :=
 if decide (a1 < 0) then
  none
 else
  some (w64 (a1 - (w64 (0 - (([] : List UInt8).length : Int))))) >>= fun y2 =>
  if decide (0 < y2) then
   mkn 2 0 y2 >>= fun x4 =>
   cut x4 0 (([] : List UInt8).length : Int) >>= fun x7 =>
   some x7
  else
   some []
end
section
open Go Go.RowKit
set_option maxRecDepth 100000
theorem slices_Grow_byte_byte_ok (a1 : Int) : Spec Tryz.prog 116 [.val (.slice none 0 0), .rd i64R a1] [] (slices_Grow_byte_byte a1) (fun r nv => ⟨[.val (nv 0)], [(100, some (nv 0, .list u8R 5 r))]⟩) := by
 refine spec 27 Tryz.func116 rfl rfl rfl fun H w => ?_
 refine gSR <| Za rfl <| Zn <| gSeq <| gSR <| Zm rfl <| Zq (I.lss rfl rfl) <| Zn <| gIf rfl rfl (fun h1 => ?_) (fun h1 => ?_)
 ·
  refine gVoid
 ·
  refine Zt <| gSeq <| gSR <| Zm rfl <| Zm rfl <| Zq (capN rfl rfl tu103) <| Zm rfl <| lRdNil u8R 11 rfl <| Zq (len' rfl .rd rfl tu103) <| Zq (I.sub rfl rfl) <| Zq (I.sub rfl rfl) <| Za rfl <| lName 1 rfl fun y2 => Zn <| gSR <| Zm rfl <| Zq (I.gtr rfl rfl) <| Zn <| gIf rfl rfl (fun h3 => ?_) (fun h3 => ?_)
  ·
   refine gReg <| Zm rfl <| Zm rfl <| Zq (capN rfl rfl tu103) <| Zq (cutN rfl rfl tu103 ti5) <| Zm rfl <| lBind fun x4 h5 => Ef rfl (apZ 1 rfl rfl h5 tu103 tu3 ti5 (Zr.num rfl) rfl) fun v6 => Zm rfl <| lRdNil u8R 23 rfl <| Zq (len' rfl .rd rfl tu103) <| lBind fun x7 h8 => Ef rfl (cutO 1 rfl rfl rfl h8 tu103 ti5) fun v9 => Za rfl <| Zn <| gSR <| Zm rfl <| Za rfl <| Zn <| gRet <| eRet [v9] [1] rfl (eE rfl <| eN) (Zi rfl <| rN)
  ·
   refine Zt <| gSR <| Zm rfl <| Za rfl <| Zn <| gRet <| eNew u8R 5 2 <| eRet [(.slice none 0 0)] [2] rfl (eE rfl <| eN) (Zi rfl <| rN)
def slices_Concat_byte_byte_L0 (a0 : List (List UInt8)) (s2 : Int × Int) : Option (Sum Int (Int × Int)) :=
 if decide (s2.2 < (a0.length : Int)) then
  idx a0 s2.2 >>= fun x4 =>
  some (w64 (s2.1 + (x4.length : Int))) >>= fun y6 =>
  if decide (y6 < 0) then
   none
  else
   some (.inr (y6, w64 (s2.2 + 1)))
 else
  some (.inl s2.1)
def slices_Concat_byte_byte_L2 (a0 : List (List UInt8)) (s11 : (List UInt8) × Int) : Option (Sum ((List UInt8)) ((List UInt8) × Int)) :=
 if decide (s11.2 < (a0.length : Int)) then
  idx a0 s11.2 >>= fun x14 =>
  app 1 s11.1 x14 >>= fun x16 =>
  some (.inr (x16, w64 (s11.2 + 1)))
 else
  some (.inl s11.1)
def slices_Concat_byte_byte (a0 : List (List UInt8)) : Option ((List UInt8)) :=
 (iter (slices_Concat_byte_byte_L0 a0) (0, 0)) >>= fun s1 =>
 slices_Grow_byte_byte s1 >>= fun r8 =>
 (iter (slices_Concat_byte_byte_L2 a0) (r8, 0)) >>= fun s10 =>
 some s10
theorem slices_Concat_byte_byte_ok (a0 : List (List UInt8)) : Spec Tryz.prog 88 [.rd (sliceR (sliceR u8R)) a0] [] (slices_Concat_byte_byte a0) (fun r nv => ⟨[.val (nv 0)], [(100, some (nv 0, .list u8R 5 r))]⟩) := by
 refine spec 36 Tryz.func88 rfl rfl rfl fun H w => ?_
 refine gSR <| Za rfl <| Zn <| gSR <| Za rfl <| Zn <| gMid (fun (s1 : Int) aa ww => Sta (ctx 36 H [] w) [(0, .rd (sliceR (sliceR u8R)) a0), (3, .rd i64R s1)] [] aa ww) ?_ (fun s1 => ?_)
 ·
  refine gSR <| Zm rfl <| Zq (len' rfl .rd rfl tu126) <| Zm rfl <| Zn <| gLoop (fun (s2 : Int × Int) aa ww => Sta (ctx 36 H [] w) [(0, .rd (sliceR (sliceR u8R)) a0), (3, .rd i64R s2.1), (9, .rd (sliceR (sliceR u8R)) a0), (10, .rd i64R (a0.length : Int)), (11, .rd i64R s2.2)] [] aa ww) (fun aa ww h => h.sub [] (Zs rfl rfl rfl rfl <| sS rfl <| sN) (rN)) (fun s2 => ?_)
  refine gSR <| Zq (I.lss rfl rfl) <| Zn <| gSeq <| gIf rfl rfl (fun h3 => ?_) (fun h3 => ?_)
  ·
   refine Zt <| gSeq <| gBlk <| gSR <| lBind fun x4 h5 => Zq (ixR rfl rfl h5 tu126 ti103 rfl) <| Zq (ldR rfl ty103) <| Za rfl <| Zn <| gSR <| Zm rfl <| Zm rfl <| Zq (len' rfl .rd rfl tu103) <| Zq (I.add rfl rfl) <| Za rfl <| lName 3 rfl fun y6 => Zn <| gSR <| Zm rfl <| Zq (I.lss rfl rfl) <| Zn <| gIf rfl rfl (fun h7 => ?_) (fun h7 => ?_)
   ·
    refine gVoid
   ·
    refine gSkip <| eBlk <| eThen <| gReg <| Zq (I.add rfl rfl) <| Zm rfl <| gNil <| eNext (fun aa ww h => h.sub [] (Zs rfl rfl rfl rfl <| sS rfl <| sN) (rN))
  ·
   refine gExit <| eTexit <| eLeave <| eMid (fun aa ww h => h.sub [] (sS rfl <| sS rfl <| sN) (rN))
 ·
  refine gSR <| Zm rfl <| call [] [(100, 1)] rfl Tryz.func116 rfl rfl (slices_Grow_byte_byte_ok _) (aQ rfl <| aQ rfl <| aN) rN fun r8 n9 => Za rfl <| Zn <| gMid (fun (s10 : (List UInt8)) aa ww => ∃ nv : Nat → Value, Sta (ctx 36 H [] w) [(6, .val (nv 0))] [(1, some ((nv 0), .list u8R 5 s10))] aa ww) ?_ (fun s10 => ?_)
  ·
   refine gSR <| Zm rfl <| Zq (len' rfl .rd rfl tu126) <| Zm rfl <| Zn <| gLoop (fun (s11 : (List UInt8) × Int) aa ww => ∃ nv : Nat → Value, Sta (ctx 36 H [] w) [(6, .val (nv 0)), (25, .rd (sliceR (sliceR u8R)) a0), (26, .rd i64R (a0.length : Int)), (27, .rd i64R s11.2)] [(1, some ((nv 0), .list u8R 5 s11.1))] aa ww) (fun aa ww h => ⟨nvl [(n9 0)], h.sub [1] (Zs rfl rfl rfl rfl <| sN) (Zi rfl <| rN)⟩) (fun s11 => ?_)
   refine gEx fun n12 => gSR <| Zq (I.lss rfl rfl) <| Zn <| gSeq <| gIf rfl rfl (fun h13 => ?_) (fun h13 => ?_)
   ·
    refine Zt <| gSeq <| gBlk <| gSR <| lBind fun x14 h15 => Zq (ixR rfl rfl h15 tu126 ti103 rfl) <| Zq (ldR rfl ty103) <| Za rfl <| Zn <| gReg <| Zm rfl <| Zm rfl <| lBind fun x16 h17 => Ef rfl (apn 1 rfl rfl rfl .rd h17 tu103 ti5 rfl rfl rfl) fun v18 => Za rfl <| gNil <| eBlk <| eThen <| gReg <| Zq (I.add rfl rfl) <| Zm rfl <| gNil <| eNext (fun aa ww h => ⟨nvl [v18], h.sub [1] (Zs rfl rfl rfl rfl <| sN) (Zi rfl <| rN)⟩)
   ·
    refine gExit <| eTexit <| eLeave <| eMid (fun aa ww h => ⟨nvl [(n12 0)], h.sub [1] (sS rfl <| sN) (Zi rfl <| rN)⟩)
  ·
   refine gEx fun n19 => gSR <| Zm rfl <| Za rfl <| Zn <| gRet <| eRet [(n19 0)] [1] rfl (eE rfl <| eN) (Zi rfl <| rN)
def wire_Bytes (a0 : List UInt8) : Option ((List UInt8) × Int) :=
 if decide (10000 < (a0.length : Int)) then
  some ([], 4)
 else
  wire_Number (UInt64.ofInt (a0.length : Int)) >>= fun r2 =>
  app 1 r2 a0 >>= fun x4 =>
  some (x4, 0)
theorem wire_Bytes_ok (a0 : List UInt8) : Spec Tryz.prog 95 [.rd (sliceR u8R) a0] [] (wire_Bytes a0) (fun r nv => ⟨[.val (nv 0), .rd i64R r.2], [(100, some (nv 0, .list u8R 5 r.1))]⟩) := by
 refine spec 13 Tryz.func95 rfl rfl rfl fun H w => ?_
 refine gSR <| Za rfl <| Za rfl <| Zn <| gSeq <| gSR <| Zm rfl <| Zq (len' rfl .rd rfl tu103) <| Zq (I.gtr rfl rfl) <| Zn <| gIf rfl rfl (fun h1 => ?_) (fun h1 => ?_)
 ·
  refine gSR <| Za rfl <| Za rfl <| Zn <| gRet <| eTret <| eNew u8R 5 1 <| eRet [(.slice none 0 0)] [1] rfl (eE rfl <| eE rfl <| eN) (Zi rfl <| rN)
 ·
  refine Zt <| gSR <| Zm rfl <| Zq (len' rfl .rd rfl tu103) <| Zq (I.toU rfl tu3 tu57) <| call [] [(100, 2)] rfl Tryz.func89 rfl rfl (wire_Number_ok _) (aQ rfl <| aN) rN fun r2 n3 => Zm rfl <| lBind fun x4 h5 => Ef rfl (apn 2 rfl rfl rfl .rd h5 tu103 ti5 rfl rfl rfl) fun v6 => Za rfl <| Za rfl <| Zn <| gRet <| eRet [v6] [2] rfl (eE rfl <| eE rfl <| eN) (Zi rfl <| rN)
def wire_Signed (a0 : Int) : Option ((List UInt8)) :=
 wire_Number ((shl64 (UInt64.ofInt a0) 1) ^^^ (UInt64.ofInt (shrI a0 63))) >>= fun r1 =>
 some r1
theorem wire_Signed_ok (a0 : Int) : Spec Tryz.prog 126 [.rd i64R a0] [] (wire_Signed a0) (fun r nv => ⟨[.val (nv 0)], [(100, some (nv 0, .list u8R 5 r))]⟩) := by
 refine spec 11 Tryz.func126 rfl rfl rfl fun H w => ?_
 refine gSR <| Za rfl <| Zn <| gSR <| Zm rfl <| Zq (I.toU rfl Tryz.underlying2 tu57) <| Zq (U.shl rfl rfl (Int.natCast_nonneg _)) <| Zm rfl <| Zq (I.shr rfl rfl (Int.natCast_nonneg _)) <| Zq (I.toU rfl Tryz.underlying2 tu57) <| Zq (U.xor rfl rfl) <| call [] [(100, 1)] rfl Tryz.func89 rfl rfl (wire_Number_ok _) (aQ rfl <| aN) rN fun r1 n2 => Za rfl <| Zn <| gRet <| eRet [(n2 0)] [1] rfl (eE rfl <| eN) (Zi rfl <| rN)
def value_Encode_L1 (a0 : api_Value) (s14 : (List UInt8) × Int) : Option (Sum ((List UInt8)) ((List UInt8) × Int)) :=
 if decide (0 ≤ s14.2) then
  chk (0 ≤ s14.2) >>= fun u17 =>
  app 1 s14.1 [(shr64 a0.Bits ((s14.2 : Int).toNat)).toUInt8] >>= fun x20 =>
  some (w64 (s14.2 - 8)) >>= fun y23 =>
  some (.inr (x20, y23))
 else
  some (.inl s14.1)
def value_Encode (a0 : api_Value) : Option ((List UInt8) × Int) :=
 value_Check a0 >>= fun r2 =>
 if r2 != 0 then
  some ([], r2)
 else
  (if a0.Kind == 1 then
   wire_Signed a0.Num >>= fun r8 =>
   app 1 [a0.Kind] r8 >>= fun x10 =>
   some x10
  else
   if a0.Kind == 2 then
    iter (value_Encode_L1 a0) ([a0.Kind], 56)
   else
    if a0.Kind == 3 then
     chk (a0.Text.length ≤ 281474976710656) >>= fun u25 =>
     wire_Bytes a0.Text >>= fun r27 =>
     app 1 [a0.Kind] r27.1 >>= fun x29 =>
     some x29
    else
     some [a0.Kind]) >>= fun s6 =>
  some (s6, 0)
theorem value_Encode_ok (a0 : api_Value) : Spec Tryz.prog 96 [.rd R_api_Value a0] [] (value_Encode a0) (fun r nv => ⟨[.val (nv 0), .rd i64R r.2], [(100, some (nv 0, .list u8R 5 r.1))]⟩) := by
 refine spec 53 Tryz.func96 rfl rfl rfl fun H w => ?_
 refine gSR <| Eb rfl (bx 1 rfl) fun v1 => Za rfl <| Za rfl <| Zn <| gSeq <| gSR <| Zq (ld 1 rfl rfl Foc.here ty59 rfl) <| call [] [] rfl Tryz.func124 rfl rfl (value_Check_ok _) (aQ rfl <| aN) rN fun r2 n3 => Za rfl <| Zn <| gSR <| Zm rfl <| Zq (I.neq rfl rfl) <| Zn <| gIf rfl rfl (fun h4 => ?_) (fun h4 => ?_)
 ·
  refine gSR <| Zm rfl <| Za rfl <| Za rfl <| Zn <| gRet <| eTret <| eNew u8R 5 2 <| eRet [(.slice none 0 0)] [2] rfl (eE rfl <| eE rfl <| eN) (Zi rfl <| rN)
 ·
  refine Zt <| gSR <| Zq (faB 1 rfl rfl Tryz.underlying59 rfl (by exact ti5)) <| Zq (ld 1 rfl rfl ((Foc.here).part (pt_api_Value_Kind _)) ty5 rfl) <| Ef rfl (lit (R := u8R) ([a0.Kind] : List UInt8) 3 (pP rfl rfl <| pN) rfl tu103 ti5 rfl rfl) fun v5 => Za rfl <| Zn <| gMid (fun (s6 : (List UInt8)) aa ww => ∃ nv : Nat → Value, Sta (ctx 53 H [] w) [(5, .val (nv 0))] [(3, some ((nv 0), .list u8R 5 s6))] aa ww) ?_ (fun s6 => ?_)
  ·
   refine gSR <| Zq (faB 1 rfl rfl Tryz.underlying59 rfl (by exact ti5)) <| Zq (ld 1 rfl rfl ((Foc.here).part (pt_api_Value_Kind _)) ty5 rfl) <| Zn <| gBlk <| gSR <| Zq (B.eql rfl rfl) <| Za rfl <| Zn <| gIf rfl rfl (fun h7 => ?_) (fun h7 => ?_)
   ·
    refine gKn 20 rfl h7 <| gReg <| Zm rfl <| Zq (faB 1 rfl rfl Tryz.underlying59 rfl (by exact ti2)) <| Zq (ld 1 rfl rfl ((Foc.here).part (pt_api_Value_Num _)) ty2 rfl) <| call [] [(100, 4)] rfl Tryz.func126 rfl rfl (wire_Signed_ok _) (aQ rfl <| aN) rN fun r8 n9 => lBind fun x10 h11 => Ef rfl (apn 3 rfl rfl rfl (.own 4 rfl) h11 tu103 ti5 rfl rfl rfl) fun v12 => Za rfl <| gNil <| eBlk <| eMid (fun aa ww h => ⟨nvl [v12], h.sub [3] (sS rfl <| sN) (Zi rfl <| rN)⟩)
   ·
    refine gKn 20 rfl h7 <| gSR <| Zq (B.eql rfl rfl) <| Za rfl <| Zn <| gIf rfl rfl (fun h13 => ?_) (fun h13 => ?_)
    ·
     refine gKn 27 rfl h13 <| gSR <| Za rfl <| Zn <| gLoop (fun (s14 : (List UInt8) × Int) aa ww => ∃ nv : Nat → Value, Sta (ctx 53 H [] w) [(1, .val (ptrTo v1 0)), (5, .val (nv 0)), (6, .rd i64R s14.2)] [(1, some (v1, .box 59 [.rd R_api_Value a0])), (3, some ((nv 0), .list u8R 5 s14.1))] aa ww) (fun aa ww h => ⟨nvl [v5], h.sub [1, 3] (sS rfl <| sS rfl <| sS rfl <| sN) (Zi rfl <| Zi rfl <| rN)⟩) (fun s14 => ?_)
     refine gEx fun n15 => gSeq <| gSR <| Zm rfl <| Zq (I.geq rfl rfl) <| Zn <| gIf rfl rfl (fun h16 => ?_) (fun h16 => ?_)
     ·
      refine Zt <| gSeq <| gBlk <| gReg <| Zm rfl <| Zq (faB 1 rfl rfl Tryz.underlying59 rfl (by exact ti57)) <| Zq (ld 1 rfl rfl ((Foc.here).part (pt_api_Value_Bits _)) ty57 rfl) <| Zm rfl <| lBind fun u17 h18 => Zq (U.shr rfl rfl (chk_some h18)) <| Zq (U.toB rfl tu57 tu5) <| Ef rfl (lit (R := u8R) ([(shr64 a0.Bits ((s14.2 : Int).toNat)).toUInt8] : List UInt8) 5 (pP rfl rfl <| pN) rfl tu103 ti5 rfl rfl) fun v19 => lBind fun x20 h21 => Ef rfl (apn 3 rfl rfl rfl (.own 5 rfl) h21 tu103 ti5 rfl rfl rfl) fun v22 => Za rfl <| gNil <| eBlk <| eThen <| gReg <| Zm rfl <| Zq (I.sub rfl rfl) <| Za rfl <| lName 6 rfl fun y23 => gNil <| eNext (fun aa ww h => ⟨nvl [v22], h.sub [1, 3] (sS rfl <| sS rfl <| sS rfl <| sN) (Zi rfl <| Zi rfl <| rN)⟩)
     ·
      refine gExit <| eTexit <| eLeave <| eBlk <| eMid (fun aa ww h => ⟨nvl [(n15 0)], h.sub [3] (sS rfl <| sN) (Zi rfl <| rN)⟩)
    ·
     refine gKn 27 rfl h13 <| gSR <| Zq (B.eql rfl rfl) <| Za rfl <| Zn <| gIf rfl rfl (fun h24 => ?_) (fun h24 => ?_)
     ·
      refine gKn 41 rfl h24 <| gSR <| Zq (faB 1 rfl rfl Tryz.underlying59 rfl (by exact ti9)) <| Zq (ld 1 rfl rfl ((Foc.here).part (pt_api_Value_Text _)) ty9 rfl) <| lBind fun u25 h26 => lCvSB rfl rfl h26 tu9 tu103 tu5 <| call [] [(100, 6)] rfl Tryz.func95 rfl rfl (wire_Bytes_ok _) (aQ rfl <| aN) rN fun r27 n28 => Zm rfl <| Zq (ext rfl rfl) <| Zq (ext rfl rfl) <| Za rfl <| Za rfl <| Zn <| gReg <| Zm rfl <| Zm rfl <| lBind fun x29 h30 => Ef rfl (apn 3 rfl rfl rfl (.own 6 rfl) h30 tu103 ti5 rfl rfl rfl) fun v31 => Za rfl <| gNil <| eBlk <| eMid (fun aa ww h => ⟨nvl [v31], h.sub [3] (sS rfl <| sN) (Zi rfl <| rN)⟩)
     ·
      refine gKn 41 rfl h24 <| gSkip <| eBlk <| eMid (fun aa ww h => ⟨nvl [v5], h.sub [3] (sS rfl <| sN) (Zi rfl <| rN)⟩)
  ·
   refine gEx fun n32 => gSR <| Zm rfl <| Za rfl <| Za rfl <| Zn <| gRet <| eRet [(n32 0)] [3] rfl (eE rfl <| eE rfl <| eN) (Zi rfl <| rN)
def op_Message (a0 : api_Op) : Option ((List UInt8) × Int) :=
 op_Check ({ a0 with Sig := (⟨0, 0⟩ : api_Sig) }) >>= fun r2 =>
 if r2 != 0 then
  some ([], r2)
 else
  wire_IDs (({ a0 with Sig := (⟨0, 0⟩ : api_Sig) }).Preds) >>= fun r5 =>
  (wire_Number ((({ a0 with Sig := (⟨0, 0⟩ : api_Sig) }).Author).toUInt64) >>= fun r9 =>
  wire_Number (({ a0 with Sig := (⟨0, 0⟩ : api_Sig) }).Stamp) >>= fun r11 =>
  slices_Concat_byte_byte [[111], r9, r5.1, r11, [(({ a0 with Sig := (⟨0, 0⟩ : api_Sig) }).Act).Kind]] >>= fun r15 =>
  some r15) >>= fun s7 =>
  if ((({ a0 with Sig := (⟨0, 0⟩ : api_Sig) }).Act).Kind) == 1 then
   some (s7, 0)
  else
   chk (((({ a0 with Sig := (⟨0, 0⟩ : api_Sig) }).Act).Key).length ≤ 281474976710656) >>= fun u96 =>
   wire_Bytes ((({ a0 with Sig := (⟨0, 0⟩ : api_Sig) }).Act).Key) >>= fun r98 =>
   app 1 s7 r98.1 >>= fun x100 =>
   if ((({ a0 with Sig := (⟨0, 0⟩ : api_Sig) }).Act).Kind) == 4 then
    value_Encode ((({ a0 with Sig := (⟨0, 0⟩ : api_Sig) }).Act).Value) >>= fun r104 =>
    app 1 x100 r104.1 >>= fun x106 =>
    some (x106, 0)
   else
    some (x100, 0)
theorem op_Message_ok (a0 : api_Op) : Spec Tryz.prog 69 [.rd R_api_Op a0] [] (op_Message a0) (fun r nv => ⟨[.val (nv 0), .rd i64R r.2], [(100, some (nv 0, .list u8R 5 r.1))]⟩) := by
 refine spec 71 Tryz.func69 rfl rfl rfl fun H w => ?_
 refine gSR <| Eb rfl (bx 1 rfl) fun v1 => Za rfl <| Za rfl <| Zn <| gSR <| Zq (bld (x' := (⟨0, 0⟩ : api_Sig)) [(0, 1), (1, 1)] Tryz.underlying63 ti63 rfl zr63 rfl (Bld.done rfl)) <| Zq (faB 1 rfl rfl Tryz.underlying65 rfl (by exact ti63)) <| Es (sto 1 rfl rfl ((Foc.here).part (pt_api_Op_Sig _)) rfl ti63) <| Zn <| gSeq <| gSR <| Zq (ld 1 rfl rfl Foc.here ty65 rfl) <| call [] [] rfl Tryz.func68 rfl rfl (op_Check_ok _) (aQ rfl <| aN) rN fun r2 n3 => Za rfl <| Zn <| gSR <| Zm rfl <| Zq (I.neq rfl rfl) <| Zn <| gIf rfl rfl (fun h4 => ?_) (fun h4 => ?_)
 ·
  refine gSR <| Zm rfl <| Za rfl <| Za rfl <| Zn <| gRet <| eTret <| eNew u8R 5 2 <| eRet [(.slice none 0 0)] [2] rfl (eE rfl <| eE rfl <| eN) (Zi rfl <| rN)
 ·
  refine Zt <| gSR <| Zq (faB 1 rfl rfl Tryz.underlying65 rfl (by exact ti22)) <| Zq (ld 1 rfl rfl ((Foc.here).part (pt_api_Op_Preds _)) ty22 rfl) <| call [] [(100, 3)] rfl Tryz.func94 rfl rfl (wire_IDs_ok _) (aQ rfl <| aN) rN fun r5 n6 => Zm rfl <| Zq (ext rfl rfl) <| Zq (ext rfl rfl) <| Za rfl <| Za rfl <| Zn <| gMid (fun (s7 : (List UInt8)) aa ww => ∃ nv : Nat → Value, Sta (ctx 71 H [] w) [(1, .val (ptrTo v1 0)), (7, .val (nv 0))] [(1, some (v1, .box 65 [.rd R_api_Op ({ a0 with Sig := (⟨0, 0⟩ : api_Sig) })])), (46, some ((nv 0), .list u8R 5 s7))] aa ww) ?_ (fun s7 => ?_)
  ·
   refine gRegH [47, 59, 71, 83, 86, 89] mixed rfl rfl <| hTk 1 rfl rfl (faB 1 rfl rfl Tryz.underlying65 rfl (by exact ti56)) <| hTk 2 rfl rfl (ld 1 rfl rfl ((Foc.here).part (pt_api_Op_Author _)) ty56 rfl) <| hTk 3 rfl rfl (W.toU rfl tu56 tu57) <| hTk 5 rfl rfl (mv rfl) <| hTk 6 rfl rfl (faB 1 rfl rfl Tryz.underlying65 rfl (by exact ti57)) <| hTk 7 rfl rfl (ld 1 rfl rfl ((Foc.here).part (pt_api_Op_Stamp _)) ty57 rfl) <| hTk 9 rfl rfl (faB 1 rfl rfl Tryz.underlying65 rfl (by exact ti61)) <| hTk 10 rfl rfl (faB 1 rfl rfl Tryz.underlying61 rfl (by exact ti5)) <| hTk 11 rfl rfl (ld 1 rfl rfl (((Foc.here).part (pt_api_Op_Act _)).part (pt_api_Act_Kind _)) ty5 rfl) <| hAlt [0, 4, 12] (by kernel_rfl) rfl ⟨?_, ?_, ?_, trivial⟩
   ·
    refine oDo 0 rfl (gd0 rfl) rfl rfl rfl (lit (R := u8R) ([111] : List UInt8) 47 (pP rfl rfl <| pN) rfl tu103 ti5 rfl rfl) (fun _ => rfl) fun v8 => hAlt [4, 12] (by kernel_rfl) rfl ⟨?_, ?_, trivial⟩
    ·
     refine oCallF 4 [] [(100, 59)] rfl rfl (gd0 rfl) rfl Tryz.func89 rfl rfl (wire_Number_ok _) (aQ rfl <| aN) rN rfl (fun _ _ => flat_val) fun r9 n10 => hAlt [8, 12] (by kernel_rfl) rfl ⟨?_, ?_, trivial⟩
     ·
      refine oCallF 8 [] [(100, 71)] rfl rfl (gd0 rfl) rfl Tryz.func89 rfl rfl (wire_Number_ok _) (aQ rfl <| aN) rN rfl (fun _ _ => flat_val) fun r11 n12 => Zo 12 rfl rfl rfl (lit (R := u8R) ([(({ a0 with Sig := (⟨0, 0⟩ : api_Sig) }).Act).Kind] : List UInt8) 83 (pP rfl rfl <| pN) rfl tu103 ti5 rfl rfl) (fun _ => rfl) fun v13 => hFrz 47 [25] rfl (fS rfl <| fN) <| hFrz 59 [29] rfl (fS rfl <| fN) <| hFrz 3 [23, 5, 30] rfl (fS rfl <| fS rfl <| fS rfl <| fN) <| hFrz 71 [33] rfl (fS rfl <| fN) <| hFrz 83 [37] rfl (fS rfl <| fN) <| Zo 13 rfl rfl rfl (lit (R := (sliceR u8R)) ([[111], r9, r5.1, r11, [(({ a0 with Sig := (⟨0, 0⟩ : api_Sig) }).Act).Kind]] : List (List UInt8)) 86 (pP rfl rfl <| pP rfl rfl <| pP rfl rfl <| pP rfl rfl <| pP rfl rfl <| pN) rfl tu126 ti103 rfl rfl) (fun _ => rfl) fun v14 => hFrz 86 [38] rfl (fS rfl <| fN) <| hCallF 14 [] [(100, 89)] rfl (by kernel_rfl) rfl (gd0 rfl) rfl Tryz.func88 rfl rfl (slices_Concat_byte_byte_ok _) (aQ rfl <| aN) rN rfl (fun _ _ => flat_val) fun r15 n16 => hTakeF 15 rfl (by kernel_rfl) (by kernel_rfl) (by kernel_rfl) (gd0 rfl) rfl rfl flat_val (asg rfl) <| hDone (by kernel_rfl) <| eMid (fun aa ww h => ⟨nvl [(n16 0)], h.sub [1, 89] (sS rfl <| sS rfl <| sN) (Zi rfl <| Zi rfl <| rN)⟩)
     ·
      refine oDo 12 rfl (gd0 rfl) rfl rfl rfl (lit (R := u8R) ([(({ a0 with Sig := (⟨0, 0⟩ : api_Sig) }).Act).Kind] : List UInt8) 83 (pP rfl rfl <| pN) rfl tu103 ti5 rfl rfl) (fun _ => rfl) fun v17 => hCallF 8 [] [(100, 71)] rfl (by kernel_rfl) rfl (gd0 rfl) rfl Tryz.func89 rfl rfl (wire_Number_ok _) (aQ rfl <| aN) rN rfl (fun _ _ => flat_val) fun r18 n19 => hFrz 47 [25] rfl (fS rfl <| fN) <| hFrz 59 [29] rfl (fS rfl <| fN) <| hFrz 3 [23, 5, 30] rfl (fS rfl <| fS rfl <| fS rfl <| fN) <| hFrz 71 [33] rfl (fS rfl <| fN) <| hFrz 83 [37] rfl (fS rfl <| fN) <| Zo 13 rfl rfl rfl (lit (R := (sliceR u8R)) ([[111], r9, r5.1, r18, [(({ a0 with Sig := (⟨0, 0⟩ : api_Sig) }).Act).Kind]] : List (List UInt8)) 86 (pP rfl rfl <| pP rfl rfl <| pP rfl rfl <| pP rfl rfl <| pP rfl rfl <| pN) rfl tu126 ti103 rfl rfl) (fun _ => rfl) fun v20 => hFrz 86 [38] rfl (fS rfl <| fN) <| hCallF 14 [] [(100, 89)] rfl (by kernel_rfl) rfl (gd0 rfl) rfl Tryz.func88 rfl rfl (slices_Concat_byte_byte_ok _) (aQ rfl <| aN) rN rfl (fun _ _ => flat_val) fun r21 n22 => hTakeF 15 rfl (by kernel_rfl) (by kernel_rfl) (by kernel_rfl) (gd0 rfl) rfl rfl flat_val (asg rfl) <| hDone (by kernel_rfl) <| eMid (fun aa ww h => ⟨nvl [(n22 0)], h.sub [1, 89] (sS rfl <| sS rfl <| sN) (Zi rfl <| Zi rfl <| rN)⟩)
    ·
     refine oDo 12 rfl (gd0 rfl) rfl rfl rfl (lit (R := u8R) ([(({ a0 with Sig := (⟨0, 0⟩ : api_Sig) }).Act).Kind] : List UInt8) 83 (pP rfl rfl <| pN) rfl tu103 ti5 rfl rfl) (fun _ => rfl) fun v23 => hCallF 4 [] [(100, 59)] rfl (by kernel_rfl) rfl (gd0 rfl) rfl Tryz.func89 rfl rfl (wire_Number_ok _) (aQ rfl <| aN) rN rfl (fun _ _ => flat_val) fun r24 n25 => hCallF 8 [] [(100, 71)] rfl (by kernel_rfl) rfl (gd0 rfl) rfl Tryz.func89 rfl rfl (wire_Number_ok _) (aQ rfl <| aN) rN rfl (fun _ _ => flat_val) fun r26 n27 => hFrz 47 [25] rfl (fS rfl <| fN) <| hFrz 59 [29] rfl (fS rfl <| fN) <| hFrz 3 [23, 5, 30] rfl (fS rfl <| fS rfl <| fS rfl <| fN) <| hFrz 71 [33] rfl (fS rfl <| fN) <| hFrz 83 [37] rfl (fS rfl <| fN) <| Zo 13 rfl rfl rfl (lit (R := (sliceR u8R)) ([[111], r24, r5.1, r26, [(({ a0 with Sig := (⟨0, 0⟩ : api_Sig) }).Act).Kind]] : List (List UInt8)) 86 (pP rfl rfl <| pP rfl rfl <| pP rfl rfl <| pP rfl rfl <| pP rfl rfl <| pN) rfl tu126 ti103 rfl rfl) (fun _ => rfl) fun v28 => hFrz 86 [38] rfl (fS rfl <| fN) <| hCallF 14 [] [(100, 89)] rfl (by kernel_rfl) rfl (gd0 rfl) rfl Tryz.func88 rfl rfl (slices_Concat_byte_byte_ok _) (aQ rfl <| aN) rN rfl (fun _ _ => flat_val) fun r29 n30 => hTakeF 15 rfl (by kernel_rfl) (by kernel_rfl) (by kernel_rfl) (gd0 rfl) rfl rfl flat_val (asg rfl) <| hDone (by kernel_rfl) <| eMid (fun aa ww h => ⟨nvl [(n30 0)], h.sub [1, 89] (sS rfl <| sS rfl <| sN) (Zi rfl <| Zi rfl <| rN)⟩)
   ·
    refine oCallF 4 [] [(100, 59)] rfl rfl (gd0 rfl) rfl Tryz.func89 rfl rfl (wire_Number_ok _) (aQ rfl <| aN) rN rfl (fun _ _ => flat_val) fun r31 n32 => hAlt [0, 8, 12] (by kernel_rfl) rfl ⟨?_, ?_, ?_, trivial⟩
    ·
     refine oDo 0 rfl (gd0 rfl) rfl rfl rfl (lit (R := u8R) ([111] : List UInt8) 47 (pP rfl rfl <| pN) rfl tu103 ti5 rfl rfl) (fun _ => rfl) fun v33 => hAlt [8, 12] (by kernel_rfl) rfl ⟨?_, ?_, trivial⟩
     ·
      refine oCallF 8 [] [(100, 71)] rfl rfl (gd0 rfl) rfl Tryz.func89 rfl rfl (wire_Number_ok _) (aQ rfl <| aN) rN rfl (fun _ _ => flat_val) fun r34 n35 => Zo 12 rfl rfl rfl (lit (R := u8R) ([(({ a0 with Sig := (⟨0, 0⟩ : api_Sig) }).Act).Kind] : List UInt8) 83 (pP rfl rfl <| pN) rfl tu103 ti5 rfl rfl) (fun _ => rfl) fun v36 => hFrz 47 [25] rfl (fS rfl <| fN) <| hFrz 59 [29] rfl (fS rfl <| fN) <| hFrz 3 [23, 5, 30] rfl (fS rfl <| fS rfl <| fS rfl <| fN) <| hFrz 71 [33] rfl (fS rfl <| fN) <| hFrz 83 [37] rfl (fS rfl <| fN) <| Zo 13 rfl rfl rfl (lit (R := (sliceR u8R)) ([[111], r31, r5.1, r34, [(({ a0 with Sig := (⟨0, 0⟩ : api_Sig) }).Act).Kind]] : List (List UInt8)) 86 (pP rfl rfl <| pP rfl rfl <| pP rfl rfl <| pP rfl rfl <| pP rfl rfl <| pN) rfl tu126 ti103 rfl rfl) (fun _ => rfl) fun v37 => hFrz 86 [38] rfl (fS rfl <| fN) <| hCallF 14 [] [(100, 89)] rfl (by kernel_rfl) rfl (gd0 rfl) rfl Tryz.func88 rfl rfl (slices_Concat_byte_byte_ok _) (aQ rfl <| aN) rN rfl (fun _ _ => flat_val) fun r38 n39 => hTakeF 15 rfl (by kernel_rfl) (by kernel_rfl) (by kernel_rfl) (gd0 rfl) rfl rfl flat_val (asg rfl) <| hDone (by kernel_rfl) <| eMid (fun aa ww h => ⟨nvl [(n39 0)], h.sub [1, 89] (sS rfl <| sS rfl <| sN) (Zi rfl <| Zi rfl <| rN)⟩)
     ·
      refine oDo 12 rfl (gd0 rfl) rfl rfl rfl (lit (R := u8R) ([(({ a0 with Sig := (⟨0, 0⟩ : api_Sig) }).Act).Kind] : List UInt8) 83 (pP rfl rfl <| pN) rfl tu103 ti5 rfl rfl) (fun _ => rfl) fun v40 => hCallF 8 [] [(100, 71)] rfl (by kernel_rfl) rfl (gd0 rfl) rfl Tryz.func89 rfl rfl (wire_Number_ok _) (aQ rfl <| aN) rN rfl (fun _ _ => flat_val) fun r41 n42 => hFrz 47 [25] rfl (fS rfl <| fN) <| hFrz 59 [29] rfl (fS rfl <| fN) <| hFrz 3 [23, 5, 30] rfl (fS rfl <| fS rfl <| fS rfl <| fN) <| hFrz 71 [33] rfl (fS rfl <| fN) <| hFrz 83 [37] rfl (fS rfl <| fN) <| Zo 13 rfl rfl rfl (lit (R := (sliceR u8R)) ([[111], r31, r5.1, r41, [(({ a0 with Sig := (⟨0, 0⟩ : api_Sig) }).Act).Kind]] : List (List UInt8)) 86 (pP rfl rfl <| pP rfl rfl <| pP rfl rfl <| pP rfl rfl <| pP rfl rfl <| pN) rfl tu126 ti103 rfl rfl) (fun _ => rfl) fun v43 => hFrz 86 [38] rfl (fS rfl <| fN) <| hCallF 14 [] [(100, 89)] rfl (by kernel_rfl) rfl (gd0 rfl) rfl Tryz.func88 rfl rfl (slices_Concat_byte_byte_ok _) (aQ rfl <| aN) rN rfl (fun _ _ => flat_val) fun r44 n45 => hTakeF 15 rfl (by kernel_rfl) (by kernel_rfl) (by kernel_rfl) (gd0 rfl) rfl rfl flat_val (asg rfl) <| hDone (by kernel_rfl) <| eMid (fun aa ww h => ⟨nvl [(n45 0)], h.sub [1, 89] (sS rfl <| sS rfl <| sN) (Zi rfl <| Zi rfl <| rN)⟩)
    ·
     refine oCallF 8 [] [(100, 71)] rfl rfl (gd0 rfl) rfl Tryz.func89 rfl rfl (wire_Number_ok _) (aQ rfl <| aN) rN rfl (fun _ _ => flat_val) fun r46 n47 => hAlt [0, 12] (by kernel_rfl) rfl ⟨?_, ?_, trivial⟩
     ·
      refine oDo 0 rfl (gd0 rfl) rfl rfl rfl (lit (R := u8R) ([111] : List UInt8) 47 (pP rfl rfl <| pN) rfl tu103 ti5 rfl rfl) (fun _ => rfl) fun v48 => Zo 12 rfl rfl rfl (lit (R := u8R) ([(({ a0 with Sig := (⟨0, 0⟩ : api_Sig) }).Act).Kind] : List UInt8) 83 (pP rfl rfl <| pN) rfl tu103 ti5 rfl rfl) (fun _ => rfl) fun v49 => hFrz 47 [25] rfl (fS rfl <| fN) <| hFrz 59 [29] rfl (fS rfl <| fN) <| hFrz 3 [23, 5, 30] rfl (fS rfl <| fS rfl <| fS rfl <| fN) <| hFrz 71 [33] rfl (fS rfl <| fN) <| hFrz 83 [37] rfl (fS rfl <| fN) <| Zo 13 rfl rfl rfl (lit (R := (sliceR u8R)) ([[111], r31, r5.1, r46, [(({ a0 with Sig := (⟨0, 0⟩ : api_Sig) }).Act).Kind]] : List (List UInt8)) 86 (pP rfl rfl <| pP rfl rfl <| pP rfl rfl <| pP rfl rfl <| pP rfl rfl <| pN) rfl tu126 ti103 rfl rfl) (fun _ => rfl) fun v50 => hFrz 86 [38] rfl (fS rfl <| fN) <| hCallF 14 [] [(100, 89)] rfl (by kernel_rfl) rfl (gd0 rfl) rfl Tryz.func88 rfl rfl (slices_Concat_byte_byte_ok _) (aQ rfl <| aN) rN rfl (fun _ _ => flat_val) fun r51 n52 => hTakeF 15 rfl (by kernel_rfl) (by kernel_rfl) (by kernel_rfl) (gd0 rfl) rfl rfl flat_val (asg rfl) <| hDone (by kernel_rfl) <| eMid (fun aa ww h => ⟨nvl [(n52 0)], h.sub [1, 89] (sS rfl <| sS rfl <| sN) (Zi rfl <| Zi rfl <| rN)⟩)
     ·
      refine oDo 12 rfl (gd0 rfl) rfl rfl rfl (lit (R := u8R) ([(({ a0 with Sig := (⟨0, 0⟩ : api_Sig) }).Act).Kind] : List UInt8) 83 (pP rfl rfl <| pN) rfl tu103 ti5 rfl rfl) (fun _ => rfl) fun v53 => Zo 0 rfl rfl rfl (lit (R := u8R) ([111] : List UInt8) 47 (pP rfl rfl <| pN) rfl tu103 ti5 rfl rfl) (fun _ => rfl) fun v54 => hFrz 47 [25] rfl (fS rfl <| fN) <| hFrz 59 [29] rfl (fS rfl <| fN) <| hFrz 3 [23, 5, 30] rfl (fS rfl <| fS rfl <| fS rfl <| fN) <| hFrz 71 [33] rfl (fS rfl <| fN) <| hFrz 83 [37] rfl (fS rfl <| fN) <| Zo 13 rfl rfl rfl (lit (R := (sliceR u8R)) ([[111], r31, r5.1, r46, [(({ a0 with Sig := (⟨0, 0⟩ : api_Sig) }).Act).Kind]] : List (List UInt8)) 86 (pP rfl rfl <| pP rfl rfl <| pP rfl rfl <| pP rfl rfl <| pP rfl rfl <| pN) rfl tu126 ti103 rfl rfl) (fun _ => rfl) fun v55 => hFrz 86 [38] rfl (fS rfl <| fN) <| hCallF 14 [] [(100, 89)] rfl (by kernel_rfl) rfl (gd0 rfl) rfl Tryz.func88 rfl rfl (slices_Concat_byte_byte_ok _) (aQ rfl <| aN) rN rfl (fun _ _ => flat_val) fun r56 n57 => hTakeF 15 rfl (by kernel_rfl) (by kernel_rfl) (by kernel_rfl) (gd0 rfl) rfl rfl flat_val (asg rfl) <| hDone (by kernel_rfl) <| eMid (fun aa ww h => ⟨nvl [(n57 0)], h.sub [1, 89] (sS rfl <| sS rfl <| sN) (Zi rfl <| Zi rfl <| rN)⟩)
    ·
     refine oDo 12 rfl (gd0 rfl) rfl rfl rfl (lit (R := u8R) ([(({ a0 with Sig := (⟨0, 0⟩ : api_Sig) }).Act).Kind] : List UInt8) 83 (pP rfl rfl <| pN) rfl tu103 ti5 rfl rfl) (fun _ => rfl) fun v58 => hAlt [0, 8] (by kernel_rfl) rfl ⟨?_, ?_, trivial⟩
     ·
      refine oDo 0 rfl (gd0 rfl) rfl rfl rfl (lit (R := u8R) ([111] : List UInt8) 47 (pP rfl rfl <| pN) rfl tu103 ti5 rfl rfl) (fun _ => rfl) fun v59 => hCallF 8 [] [(100, 71)] rfl (by kernel_rfl) rfl (gd0 rfl) rfl Tryz.func89 rfl rfl (wire_Number_ok _) (aQ rfl <| aN) rN rfl (fun _ _ => flat_val) fun r60 n61 => hFrz 47 [25] rfl (fS rfl <| fN) <| hFrz 59 [29] rfl (fS rfl <| fN) <| hFrz 3 [23, 5, 30] rfl (fS rfl <| fS rfl <| fS rfl <| fN) <| hFrz 71 [33] rfl (fS rfl <| fN) <| hFrz 83 [37] rfl (fS rfl <| fN) <| Zo 13 rfl rfl rfl (lit (R := (sliceR u8R)) ([[111], r31, r5.1, r60, [(({ a0 with Sig := (⟨0, 0⟩ : api_Sig) }).Act).Kind]] : List (List UInt8)) 86 (pP rfl rfl <| pP rfl rfl <| pP rfl rfl <| pP rfl rfl <| pP rfl rfl <| pN) rfl tu126 ti103 rfl rfl) (fun _ => rfl) fun v62 => hFrz 86 [38] rfl (fS rfl <| fN) <| hCallF 14 [] [(100, 89)] rfl (by kernel_rfl) rfl (gd0 rfl) rfl Tryz.func88 rfl rfl (slices_Concat_byte_byte_ok _) (aQ rfl <| aN) rN rfl (fun _ _ => flat_val) fun r63 n64 => hTakeF 15 rfl (by kernel_rfl) (by kernel_rfl) (by kernel_rfl) (gd0 rfl) rfl rfl flat_val (asg rfl) <| hDone (by kernel_rfl) <| eMid (fun aa ww h => ⟨nvl [(n64 0)], h.sub [1, 89] (sS rfl <| sS rfl <| sN) (Zi rfl <| Zi rfl <| rN)⟩)
     ·
      refine oCallF 8 [] [(100, 71)] rfl rfl (gd0 rfl) rfl Tryz.func89 rfl rfl (wire_Number_ok _) (aQ rfl <| aN) rN rfl (fun _ _ => flat_val) fun r65 n66 => Zo 0 rfl rfl rfl (lit (R := u8R) ([111] : List UInt8) 47 (pP rfl rfl <| pN) rfl tu103 ti5 rfl rfl) (fun _ => rfl) fun v67 => hFrz 47 [25] rfl (fS rfl <| fN) <| hFrz 59 [29] rfl (fS rfl <| fN) <| hFrz 3 [23, 5, 30] rfl (fS rfl <| fS rfl <| fS rfl <| fN) <| hFrz 71 [33] rfl (fS rfl <| fN) <| hFrz 83 [37] rfl (fS rfl <| fN) <| Zo 13 rfl rfl rfl (lit (R := (sliceR u8R)) ([[111], r31, r5.1, r65, [(({ a0 with Sig := (⟨0, 0⟩ : api_Sig) }).Act).Kind]] : List (List UInt8)) 86 (pP rfl rfl <| pP rfl rfl <| pP rfl rfl <| pP rfl rfl <| pP rfl rfl <| pN) rfl tu126 ti103 rfl rfl) (fun _ => rfl) fun v68 => hFrz 86 [38] rfl (fS rfl <| fN) <| hCallF 14 [] [(100, 89)] rfl (by kernel_rfl) rfl (gd0 rfl) rfl Tryz.func88 rfl rfl (slices_Concat_byte_byte_ok _) (aQ rfl <| aN) rN rfl (fun _ _ => flat_val) fun r69 n70 => hTakeF 15 rfl (by kernel_rfl) (by kernel_rfl) (by kernel_rfl) (gd0 rfl) rfl rfl flat_val (asg rfl) <| hDone (by kernel_rfl) <| eMid (fun aa ww h => ⟨nvl [(n70 0)], h.sub [1, 89] (sS rfl <| sS rfl <| sN) (Zi rfl <| Zi rfl <| rN)⟩)
   ·
    refine oDo 12 rfl (gd0 rfl) rfl rfl rfl (lit (R := u8R) ([(({ a0 with Sig := (⟨0, 0⟩ : api_Sig) }).Act).Kind] : List UInt8) 83 (pP rfl rfl <| pN) rfl tu103 ti5 rfl rfl) (fun _ => rfl) fun v71 => hAlt [0, 4] (by kernel_rfl) rfl ⟨?_, ?_, trivial⟩
    ·
     refine oDo 0 rfl (gd0 rfl) rfl rfl rfl (lit (R := u8R) ([111] : List UInt8) 47 (pP rfl rfl <| pN) rfl tu103 ti5 rfl rfl) (fun _ => rfl) fun v72 => hCallF 4 [] [(100, 59)] rfl (by kernel_rfl) rfl (gd0 rfl) rfl Tryz.func89 rfl rfl (wire_Number_ok _) (aQ rfl <| aN) rN rfl (fun _ _ => flat_val) fun r73 n74 => hCallF 8 [] [(100, 71)] rfl (by kernel_rfl) rfl (gd0 rfl) rfl Tryz.func89 rfl rfl (wire_Number_ok _) (aQ rfl <| aN) rN rfl (fun _ _ => flat_val) fun r75 n76 => hFrz 47 [25] rfl (fS rfl <| fN) <| hFrz 59 [29] rfl (fS rfl <| fN) <| hFrz 3 [23, 5, 30] rfl (fS rfl <| fS rfl <| fS rfl <| fN) <| hFrz 71 [33] rfl (fS rfl <| fN) <| hFrz 83 [37] rfl (fS rfl <| fN) <| Zo 13 rfl rfl rfl (lit (R := (sliceR u8R)) ([[111], r73, r5.1, r75, [(({ a0 with Sig := (⟨0, 0⟩ : api_Sig) }).Act).Kind]] : List (List UInt8)) 86 (pP rfl rfl <| pP rfl rfl <| pP rfl rfl <| pP rfl rfl <| pP rfl rfl <| pN) rfl tu126 ti103 rfl rfl) (fun _ => rfl) fun v77 => hFrz 86 [38] rfl (fS rfl <| fN) <| hCallF 14 [] [(100, 89)] rfl (by kernel_rfl) rfl (gd0 rfl) rfl Tryz.func88 rfl rfl (slices_Concat_byte_byte_ok _) (aQ rfl <| aN) rN rfl (fun _ _ => flat_val) fun r78 n79 => hTakeF 15 rfl (by kernel_rfl) (by kernel_rfl) (by kernel_rfl) (gd0 rfl) rfl rfl flat_val (asg rfl) <| hDone (by kernel_rfl) <| eMid (fun aa ww h => ⟨nvl [(n79 0)], h.sub [1, 89] (sS rfl <| sS rfl <| sN) (Zi rfl <| Zi rfl <| rN)⟩)
    ·
     refine oCallF 4 [] [(100, 59)] rfl rfl (gd0 rfl) rfl Tryz.func89 rfl rfl (wire_Number_ok _) (aQ rfl <| aN) rN rfl (fun _ _ => flat_val) fun r80 n81 => hAlt [0, 8] (by kernel_rfl) rfl ⟨?_, ?_, trivial⟩
     ·
      refine oDo 0 rfl (gd0 rfl) rfl rfl rfl (lit (R := u8R) ([111] : List UInt8) 47 (pP rfl rfl <| pN) rfl tu103 ti5 rfl rfl) (fun _ => rfl) fun v82 => hCallF 8 [] [(100, 71)] rfl (by kernel_rfl) rfl (gd0 rfl) rfl Tryz.func89 rfl rfl (wire_Number_ok _) (aQ rfl <| aN) rN rfl (fun _ _ => flat_val) fun r83 n84 => hFrz 47 [25] rfl (fS rfl <| fN) <| hFrz 59 [29] rfl (fS rfl <| fN) <| hFrz 3 [23, 5, 30] rfl (fS rfl <| fS rfl <| fS rfl <| fN) <| hFrz 71 [33] rfl (fS rfl <| fN) <| hFrz 83 [37] rfl (fS rfl <| fN) <| Zo 13 rfl rfl rfl (lit (R := (sliceR u8R)) ([[111], r80, r5.1, r83, [(({ a0 with Sig := (⟨0, 0⟩ : api_Sig) }).Act).Kind]] : List (List UInt8)) 86 (pP rfl rfl <| pP rfl rfl <| pP rfl rfl <| pP rfl rfl <| pP rfl rfl <| pN) rfl tu126 ti103 rfl rfl) (fun _ => rfl) fun v85 => hFrz 86 [38] rfl (fS rfl <| fN) <| hCallF 14 [] [(100, 89)] rfl (by kernel_rfl) rfl (gd0 rfl) rfl Tryz.func88 rfl rfl (slices_Concat_byte_byte_ok _) (aQ rfl <| aN) rN rfl (fun _ _ => flat_val) fun r86 n87 => hTakeF 15 rfl (by kernel_rfl) (by kernel_rfl) (by kernel_rfl) (gd0 rfl) rfl rfl flat_val (asg rfl) <| hDone (by kernel_rfl) <| eMid (fun aa ww h => ⟨nvl [(n87 0)], h.sub [1, 89] (sS rfl <| sS rfl <| sN) (Zi rfl <| Zi rfl <| rN)⟩)
     ·
      refine oCallF 8 [] [(100, 71)] rfl rfl (gd0 rfl) rfl Tryz.func89 rfl rfl (wire_Number_ok _) (aQ rfl <| aN) rN rfl (fun _ _ => flat_val) fun r88 n89 => Zo 0 rfl rfl rfl (lit (R := u8R) ([111] : List UInt8) 47 (pP rfl rfl <| pN) rfl tu103 ti5 rfl rfl) (fun _ => rfl) fun v90 => hFrz 47 [25] rfl (fS rfl <| fN) <| hFrz 59 [29] rfl (fS rfl <| fN) <| hFrz 3 [23, 5, 30] rfl (fS rfl <| fS rfl <| fS rfl <| fN) <| hFrz 71 [33] rfl (fS rfl <| fN) <| hFrz 83 [37] rfl (fS rfl <| fN) <| Zo 13 rfl rfl rfl (lit (R := (sliceR u8R)) ([[111], r80, r5.1, r88, [(({ a0 with Sig := (⟨0, 0⟩ : api_Sig) }).Act).Kind]] : List (List UInt8)) 86 (pP rfl rfl <| pP rfl rfl <| pP rfl rfl <| pP rfl rfl <| pP rfl rfl <| pN) rfl tu126 ti103 rfl rfl) (fun _ => rfl) fun v91 => hFrz 86 [38] rfl (fS rfl <| fN) <| hCallF 14 [] [(100, 89)] rfl (by kernel_rfl) rfl (gd0 rfl) rfl Tryz.func88 rfl rfl (slices_Concat_byte_byte_ok _) (aQ rfl <| aN) rN rfl (fun _ _ => flat_val) fun r92 n93 => hTakeF 15 rfl (by kernel_rfl) (by kernel_rfl) (by kernel_rfl) (gd0 rfl) rfl rfl flat_val (asg rfl) <| hDone (by kernel_rfl) <| eMid (fun aa ww h => ⟨nvl [(n93 0)], h.sub [1, 89] (sS rfl <| sS rfl <| sN) (Zi rfl <| Zi rfl <| rN)⟩)
  ·
   refine gEx fun n94 => gSeq <| gSR <| Zq (faB 1 rfl rfl Tryz.underlying65 rfl (by exact ti61)) <| Zq (faB 1 rfl rfl Tryz.underlying61 rfl (by exact ti5)) <| Zq (ld 1 rfl rfl (((Foc.here).part (pt_api_Op_Act _)).part (pt_api_Act_Kind _)) ty5 rfl) <| Zq (B.eql rfl rfl) <| Zn <| gIf rfl rfl (fun h95 => ?_) (fun h95 => ?_)
   ·
    refine gSR <| Zm rfl <| Za rfl <| Za rfl <| Zn <| gRet <| eTret <| eRet [(n94 0)] [46] rfl (eE rfl <| eE rfl <| eN) (Zi rfl <| rN)
   ·
    refine Zt <| gSR <| Zq (faB 1 rfl rfl Tryz.underlying65 rfl (by exact ti61)) <| Zq (faB 1 rfl rfl Tryz.underlying61 rfl (by exact ti9)) <| Zq (ld 1 rfl rfl (((Foc.here).part (pt_api_Op_Act _)).part (pt_api_Act_Key _)) ty9 rfl) <| lBind fun u96 h97 => lCvSB rfl rfl h97 tu9 tu103 tu5 <| call [] [(100, 98)] rfl Tryz.func95 rfl rfl (wire_Bytes_ok _) (aQ rfl <| aN) rN fun r98 n99 => Zm rfl <| Zq (ext rfl rfl) <| Zq (ext rfl rfl) <| Za rfl <| Za rfl <| Zn <| gSR <| Zm rfl <| Zm rfl <| lBind fun x100 h101 => Ef rfl (apn 46 rfl rfl rfl (.own 98 rfl) h101 tu103 ti5 rfl rfl rfl) fun v102 => Za rfl <| Zn <| gSeq <| gSR <| Zq (faB 1 rfl rfl Tryz.underlying65 rfl (by exact ti61)) <| Zq (faB 1 rfl rfl Tryz.underlying61 rfl (by exact ti5)) <| Zq (ld 1 rfl rfl (((Foc.here).part (pt_api_Op_Act _)).part (pt_api_Act_Kind _)) ty5 rfl) <| Zq (B.eql rfl rfl) <| Zn <| gIf rfl rfl (fun h103 => ?_) (fun h103 => ?_)
    ·
     refine gSR <| Zq (faB 1 rfl rfl Tryz.underlying65 rfl (by exact ti61)) <| Zq (faB 1 rfl rfl Tryz.underlying61 rfl (by exact ti59)) <| Zq (ld 1 rfl rfl (((Foc.here).part (pt_api_Op_Act _)).part (pt_api_Act_Value _)) ty59 rfl) <| call [] [(100, 99)] rfl Tryz.func96 rfl rfl (value_Encode_ok _) (aQ rfl <| aN) rN fun r104 n105 => Zm rfl <| Zq (ext rfl rfl) <| Zq (ext rfl rfl) <| Za rfl <| Za rfl <| Zn <| gReg <| Zm rfl <| Zm rfl <| lBind fun x106 h107 => Ef rfl (apn 46 rfl rfl rfl (.own 99 rfl) h107 tu103 ti5 rfl rfl rfl) fun v108 => Za rfl <| Zn <| gSR <| Zm rfl <| Za rfl <| Za rfl <| Zn <| gRet <| eRet [v108] [46] rfl (eE rfl <| eE rfl <| eN) (Zi rfl <| rN)
    ·
     refine Zt <| gSR <| Zm rfl <| Za rfl <| Za rfl <| Zn <| gRet <| eRet [v102] [46] rfl (eE rfl <| eE rfl <| eN) (Zi rfl <| rN)
def op_Encode (a0 : api_Op) : Option ((List UInt8) × Int) :=
 op_Check a0 >>= fun r2 =>
 if r2 != 0 then
  some ([], r2)
 else
  op_Message a0 >>= fun r5 =>
  wire_Number a0.Sig.E.toUInt64 >>= fun r7 =>
  wire_Number a0.Sig.S.toUInt64 >>= fun r9 =>
  slices_Concat_byte_byte [r5.1, r7, r9] >>= fun r12 =>
  some (r12, 0)
theorem op_Encode_ok (a0 : api_Op) : Spec Tryz.prog 66 [.rd R_api_Op a0] [] (op_Encode a0) (fun r nv => ⟨[.val (nv 0), .rd i64R r.2], [(100, some (nv 0, .list u8R 5 r.1))]⟩) := by
 refine spec 30 Tryz.func66 rfl rfl rfl fun H w => ?_
 refine gSR <| Eb rfl (bx 1 rfl) fun v1 => Za rfl <| Za rfl <| Zn <| gSeq <| gSR <| Zq (ld 1 rfl rfl Foc.here ty65 rfl) <| call [] [] rfl Tryz.func68 rfl rfl (op_Check_ok _) (aQ rfl <| aN) rN fun r2 n3 => Za rfl <| Zn <| gSR <| Zm rfl <| Zq (I.neq rfl rfl) <| Zn <| gIf rfl rfl (fun h4 => ?_) (fun h4 => ?_)
 ·
  refine gSR <| Zm rfl <| Za rfl <| Za rfl <| Zn <| gRet <| eTret <| eNew u8R 5 2 <| eRet [(.slice none 0 0)] [2] rfl (eE rfl <| eE rfl <| eN) (Zi rfl <| rN)
 ·
  refine Zt <| gSR <| Zq (ld 1 rfl rfl Foc.here ty65 rfl) <| call [] [(100, 3)] rfl Tryz.func69 rfl rfl (op_Message_ok _) (aQ rfl <| aN) rN fun r5 n6 => Zm rfl <| Zq (ext rfl rfl) <| Zq (ext rfl rfl) <| Za rfl <| Za rfl <| Zn <| gSeq <| gRegH [19, 34, 37, 40] mixed rfl rfl <| hTk 0 rfl rfl (mv rfl) <| hTk 1 rfl rfl (faB 1 rfl rfl Tryz.underlying65 rfl (by exact ti63)) <| hTk 2 rfl rfl (faB 1 rfl rfl Tryz.underlying63 rfl (by exact ti56)) <| hTk 3 rfl rfl (ld 1 rfl rfl (((Foc.here).part (pt_api_Op_Sig _)).part (pt_api_Sig_E _)) ty56 rfl) <| hTk 4 rfl rfl (W.toU rfl tu56 tu57) <| hTk 6 rfl rfl (faB 1 rfl rfl Tryz.underlying65 rfl (by exact ti63)) <| hTk 7 rfl rfl (faB 1 rfl rfl Tryz.underlying63 rfl (by exact ti56)) <| hTk 8 rfl rfl (ld 1 rfl rfl (((Foc.here).part (pt_api_Op_Sig _)).part (pt_api_Sig_S _)) ty56 rfl) <| hTk 9 rfl rfl (W.toU rfl tu56 tu57) <| hCallF 5 [] [(100, 19)] rfl (by kernel_rfl) rfl (gd0 rfl) rfl Tryz.func89 rfl rfl (wire_Number_ok _) (aQ rfl <| aN) rN rfl (fun _ _ => flat_val) fun r7 n8 => hCallF 10 [] [(100, 34)] rfl (by kernel_rfl) rfl (gd0 rfl) rfl Tryz.func89 rfl rfl (wire_Number_ok _) (aQ rfl <| aN) rN rfl (fun _ _ => flat_val) fun r9 n10 => hFrz 3 [15, 5, 17] rfl (fS rfl <| fS rfl <| fS rfl <| fN) <| hFrz 19 [22] rfl (fS rfl <| fN) <| hFrz 34 [27] rfl (fS rfl <| fN) <| Zo 11 rfl rfl rfl (lit (R := (sliceR u8R)) ([r5.1, r7, r9] : List (List UInt8)) 37 (pP rfl rfl <| pP rfl rfl <| pP rfl rfl <| pN) rfl tu126 ti103 rfl rfl) (fun _ => rfl) fun v11 => hFrz 37 [28] rfl (fS rfl <| fN) <| hCallF 12 [] [(100, 40)] rfl (by kernel_rfl) rfl (gd0 rfl) rfl Tryz.func88 rfl rfl (slices_Concat_byte_byte_ok _) (aQ rfl <| aN) rN rfl (fun _ _ => flat_val) fun r12 n13 => hTakeF 13 rfl (by kernel_rfl) (by kernel_rfl) (by kernel_rfl) (gd0 rfl) rfl rfl flat_val (asg rfl) <| hTk 14 rfl rfl (asg rfl) <| hDone (by kernel_rfl) <| eThen <| gRet <| eRet [(n13 0)] [40] rfl (eE rfl <| eE rfl <| eN) (Zi rfl <| rN)
def digest_Pieces_1 (a0 : List UInt8) : Option (Bool) :=
 some (decide (10000 < (a0.length : Int))) >>= fun y1 =>
 some y1
theorem digest_Pieces_1_ok (a0 : List UInt8) : Spec Tryz.prog 118 [.rd (sliceR u8R) a0] [] (digest_Pieces_1 a0) (fun r nv => ⟨[.rd boolR r], []⟩) := by
 refine spec 6 Tryz.func118 rfl rfl rfl fun H w => ?_
 refine gSR <| Za rfl <| Zn <| gSR <| Zm rfl <| Zq (len' rfl .rd rfl tu103) <| Zq (I.gtr rfl rfl) <| Za rfl <| lName 2 rfl fun y1 => Zn <| gRet <| eRet [] [] rfl (eE rfl <| eN) (rN)
def digest_Start  : Option (api_Mill) :=
 some (⟨(#v[1779033703, 3144134277, 1013904242, 2773480762, 1359893119, 2600822924, 528734635, 1541459225] : Vector UInt32 8), [], 0⟩ : api_Mill)
theorem digest_Start_ok  : Spec Tryz.prog 119 [] [] (digest_Start) (fun r nv => ⟨[.rd R_api_Mill r], []⟩) := by
 refine spec 3 Tryz.func119 rfl rfl rfl fun H w => ?_
 refine gSR <| Eb rfl (allc 1 ti155 (ZrE.rd (R := (arrR 8 u32R)) (x := (Vector.replicate 8 0)) zr141 (ZrE.nilS (ZrE.rd (R := i64R) (x := 0) (Zr.num rfl) ZrE.nil rfl)) rfl)) fun v1 => Zn <| gSR <| Zq (litA (R := u32R) [1779033703, 3144134277, 1013904242, 2773480762, 1359893119, 2600822924, 528734635, 1541459225] (#v[1779033703, 3144134277, 1013904242, 2773480762, 1359893119, 2600822924, 528734635, 1541459225] : Vector UInt32 8) (pP rfl rfl <| pP rfl rfl <| pP rfl rfl <| pP rfl rfl <| pP rfl rfl <| pP rfl rfl <| pP rfl rfl <| pP rfl rfl <| pN) rfl tu141 ti141 rfl ti56) <| Zq (bldE [(0, 8), (8, 1), (9, 1)] Tryz.underlying155 ti155 (ZrE.rd (R := (arrR 8 u32R)) (x := (Vector.replicate 8 0)) zr141 (ZrE.nilS (ZrE.rd (R := i64R) (x := 0) (Zr.num rfl) ZrE.nil rfl)) rfl) rfl (BldE.cons rfl rfl fills_rd (Swap.cast (Swap.here fills_rd) rfl) <| BldE.done rfl)) <| Es (stoG 1 rfl rfl (fillsL.cast (fillsL.cons fills_rd (fillsL.cons fills_val (fillsL.cons fills_rd fillsL.nil))) rfl) rfl (onesL.cons ones_rd (onesL.cons ones_val (onesL.cons ones_rd onesL.nil))) (fillsL.cast (fillsL.cons fills_rd (fillsL.cons fills_val (fillsL.cons fills_rd fillsL.nil))) rfl) ti155) <| Zn <| gRet <| ePnl u8R [.rd (arrR 8 u32R) (#v[1779033703, 3144134277, 1013904242, 2773480762, 1359893119, 2600822924, 528734635, 1541459225] : Vector UInt32 8), .rd (sliceR u8R) [], .rd i64R 0] 1 [.rd (arrR 8 u32R) (#v[1779033703, 3144134277, 1013904242, 2773480762, 1359893119, 2600822924, 528734635, 1541459225] : Vector UInt32 8)] [.rd i64R 0] rfl rfl rfl <| eJoi (R := R_api_Mill) (⟨(#v[1779033703, 3144134277, 1013904242, 2773480762, 1359893119, 2600822924, 528734635, 1541459225] : Vector UInt32 8), [], 0⟩ : api_Mill) 1 rfl (Sp.via (Sp.prod (Sp.prod (Sp.prod Sp.unit)))) <| eRet [] [] rfl (eC 1 rfl rfl ty155 <| eN) (rN)
def math_bits_RotateLeft32 (a0 : UInt32) (a1 : Int) : Option (UInt32) :=
 some ((UInt64.ofInt a1) &&& 31) >>= fun y1 =>
 some ((shl32 a0 y1.toNat) ||| (shr32 a0 ((32 - y1).toNat))) >>= fun y2 =>
 some y2
theorem math_bits_RotateLeft32_ok (a0 : UInt32) (a1 : Int) : Spec Tryz.prog 167 [.rd u32R a0, .rd i64R a1] [] (math_bits_RotateLeft32 a0 a1) (fun r nv => ⟨[.rd u32R r], []⟩) := by
 refine spec 17 Tryz.func167 rfl rfl rfl fun H w => ?_
 refine gSR <| Za rfl <| Zn <| gSR <| Zm rfl <| Zq (I.toU rfl tu3 Tryz.underlying101) <| Zq (U.and rfl rfl) <| Za rfl <| lName 5 rfl fun y1 => Zn <| gSR <| Zm rfl <| Zm rfl <| Zq (W.shl rfl rfl (Int.natCast_nonneg _)) <| Zm rfl <| Zm rfl <| Zq (U.sub rfl rfl) <| Zq (W.shr rfl rfl (Int.natCast_nonneg _)) <| Zq (W.or rfl rfl) <| Za rfl <| lName 4 rfl fun y2 => Zn <| gRet <| eRet [] [] rfl (eE rfl <| eN) (rN)
def digest_schedule_L0 (x3 : List UInt8) (s5 : (Vector UInt32 64) × Int) : Option (Sum ((Vector UInt32 64)) ((Vector UInt32 64) × Int)) :=
 if decide (s5.2 < (x3.length : Int)) then
  idx x3 s5.2 >>= fun x7 =>
  vidx s5.1 (w64 (Int.tdiv s5.2 4)) >>= fun x9 =>
  vidx s5.1 (w64 (Int.tdiv s5.2 4)) >>= fun x11 =>
  some (.inr (vset s5.1 (w64 (Int.tdiv s5.2 4)) ((shl32 x9 8) ||| x7.toUInt32), w64 (s5.2 + 1)))
 else
  some (.inl s5.1)
def digest_schedule_L2 (s14 : (Vector UInt32 64) × Int) : Option (Sum ((Vector UInt32 64)) ((Vector UInt32 64) × Int)) :=
 if decide (s14.2 < 64) then
  vidx s14.1 (w64 (s14.2 - 15)) >>= fun x16 =>
  vidx s14.1 (w64 (s14.2 - 2)) >>= fun x18 =>
  math_bits_RotateLeft32 x16 (-7) >>= fun r20 =>
  math_bits_RotateLeft32 x16 (-18) >>= fun r22 =>
  some ((r20 ^^^ r22) ^^^ (shr32 x16 3)) >>= fun y24 =>
  math_bits_RotateLeft32 x18 (-17) >>= fun r25 =>
  math_bits_RotateLeft32 x18 (-19) >>= fun r27 =>
  some ((r25 ^^^ r27) ^^^ (shr32 x18 10)) >>= fun y29 =>
  vidx s14.1 (w64 (s14.2 - 16)) >>= fun x30 =>
  vidx s14.1 (w64 (s14.2 - 7)) >>= fun x32 =>
  vidx s14.1 s14.2 >>= fun x34 =>
  some (w64 (s14.2 + 1)) >>= fun y36 =>
  some (.inr (vset s14.1 s14.2 (((x30 + x32) + y24) + y29), y36))
 else
  some (.inl s14.1)
def digest_schedule (a0 : List UInt8) : Option ((Vector UInt32 64)) :=
 (cut a0 0 64 >>= fun x3 =>
 iter (digest_schedule_L0 x3) ((Vector.replicate 64 0), 0)) >>= fun s2 =>
 (iter (digest_schedule_L2) (s2, 16)) >>= fun s13 =>
 some s13
theorem digest_schedule_ok (a0 : List UInt8) : Spec Tryz.prog 161 [.rd (sliceR u8R) a0] [] (digest_schedule a0) (fun r nv => ⟨[.rd (arrR 64 u32R) r], []⟩) := by
 refine spec 74 Tryz.func161 rfl rfl rfl fun H w => ?_
 refine gSR <| Eb rfl (allc 1 ti194 (.zr (R := (arrR 64 u32R)) (x := (Vector.replicate 64 0)) zr194)) fun v1 => Zn <| gMid (fun (s2 : (Vector UInt32 64)) aa ww => Sta (ctx 74 H [] w) [(2, .val (ptrTo v1 0))] [(1, some (v1, .box 194 [.rd (arrR 64 u32R) s2]))] aa ww) ?_ (fun s2 => ?_)
 ·
  refine gSR <| Zm rfl <| lBind fun x3 h4 => Zq (cut' rfl .no (.to rfl) h4 tu103 ti5) <| Zq (len' rfl .rd rfl tu103) <| Zm rfl <| Zn <| gLoop (fun (s5 : (Vector UInt32 64) × Int) aa ww => Sta (ctx 74 H [] w) [(2, .val (ptrTo v1 0)), (11, .rd (sliceR u8R) x3), (12, .rd i64R (x3.length : Int)), (13, .rd i64R s5.2)] [(1, some (v1, .box 194 [.rd (arrR 64 u32R) s5.1]))] aa ww) (fun aa ww h => h.sub [1] (Zs rfl rfl rfl rfl <| sN) (Zi rfl <| rN)) (fun s5 => ?_)
  refine gSR <| Zq (I.lss rfl rfl) <| Zn <| gSeq <| gIf rfl rfl (fun h6 => ?_) (fun h6 => ?_)
  ·
   refine Zt <| gSeq <| gBlk <| gSR <| Zm rfl <| lBind fun x7 h8 => Zq (ixR rfl rfl h8 tu103 ti5 rfl) <| Zq (ldR rfl ty5) <| Za rfl <| Za rfl <| Zn <| gReg <| Zm rfl <| Zq (I.quo rfl rfl (by decide)) <| Zm rfl <| Zq (I.quo rfl rfl (by decide)) <| lBind fun x9 h10 => Zq (ixB 1 rfl rfl rfl h10 Tryz.underlying194 ti56) <| Zq (ld 1 rfl rfl ((Foc.here).part (.el h10)) ty56 rfl) <| Zq (W.shl rfl rfl (Int.natCast_nonneg _)) <| Zm rfl <| Zq (B.toW rfl tu5 tu56) <| Zq (W.or rfl rfl) <| lBind fun x11 h12 => Zq (ixB 1 rfl rfl rfl h12 Tryz.underlying194 ti56) <| Es (sto 1 rfl rfl ((Foc.here).part (.el h12)) rfl ti56) <| gNil <| eBlk <| eThen <| gReg <| Zq (I.add rfl rfl) <| Zm rfl <| gNil <| eNext (fun aa ww h => h.sub [1] (Zs rfl rfl rfl rfl <| sN) (Zi rfl <| rN))
  ·
   refine gExit <| eTexit <| eLeave <| eMid (fun aa ww h => h.sub [1] (sS rfl <| sN) (Zi rfl <| rN))
 ·
  refine gMid (fun (s13 : (Vector UInt32 64)) aa ww => Sta (ctx 74 H [] w) [(2, .val (ptrTo v1 0))] [(1, some (v1, .box 194 [.rd (arrR 64 u32R) s13]))] aa ww) ?_ (fun s13 => ?_)
  ·
   refine gSR <| Za rfl <| Zn <| gLoop (fun (s14 : (Vector UInt32 64) × Int) aa ww => Sta (ctx 74 H [] w) [(2, .val (ptrTo v1 0)), (5, .rd i64R s14.2)] [(1, some (v1, .box 194 [.rd (arrR 64 u32R) s14.1]))] aa ww) (fun aa ww h => h.sub [1] (sS rfl <| sS rfl <| sN) (Zi rfl <| rN)) (fun s14 => ?_)
   refine gSeq <| gSR <| Zm rfl <| Zq (I.lss rfl rfl) <| Zn <| gIf rfl rfl (fun h15 => ?_) (fun h15 => ?_)
   ·
    refine Zt <| gSeq <| gBlk <| gSeq <| gRegQ mixed (by kernel_rfl) <| Rq rfl (mv rfl) <| Rq rfl (I.sub rfl rfl) <| qBind fun x16 h17 => Rq rfl (ixB 1 rfl rfl rfl h17 Tryz.underlying194 ti56) <| Rq rfl (ld 1 rfl rfl ((Foc.here).part (.el h17)) ty56 rfl) <| Rq rfl (mv rfl) <| Rq rfl (I.sub rfl rfl) <| qBind fun x18 h19 => Rq rfl (ixB 1 rfl rfl rfl h19 Tryz.underlying194 ti56) <| Rq rfl (ld 1 rfl rfl ((Foc.here).part (.el h19)) ty56 rfl) <| Rq rfl (asg rfl) <| Rq rfl (asg rfl) <| qNil <| eThen <| gSR <| Zm rfl <| call [] [] rfl Tryz.func167 rfl rfl (math_bits_RotateLeft32_ok _ _) (aQ rfl <| aQ rfl <| aN) rN fun r20 n21 => Zm rfl <| call [] [] rfl Tryz.func167 rfl rfl (math_bits_RotateLeft32_ok _ _) (aQ rfl <| aQ rfl <| aN) rN fun r22 n23 => Zq (W.xor rfl rfl) <| Zm rfl <| Zq (W.shr rfl rfl (Int.natCast_nonneg _)) <| Zq (W.xor rfl rfl) <| Za rfl <| lName 8 rfl fun y24 => Zn <| gSR <| Zm rfl <| call [] [] rfl Tryz.func167 rfl rfl (math_bits_RotateLeft32_ok _ _) (aQ rfl <| aQ rfl <| aN) rN fun r25 n26 => Zm rfl <| call [] [] rfl Tryz.func167 rfl rfl (math_bits_RotateLeft32_ok _ _) (aQ rfl <| aQ rfl <| aN) rN fun r27 n28 => Zq (W.xor rfl rfl) <| Zm rfl <| Zq (W.shr rfl rfl (Int.natCast_nonneg _)) <| Zq (W.xor rfl rfl) <| Za rfl <| lName 9 rfl fun y29 => Zn <| gRegH [1] mixed rfl rfl <| hTk 0 rfl rfl (mv rfl) <| hTk 1 rfl rfl (mv rfl) <| hTk 2 rfl rfl (I.sub rfl rfl) <| hBind fun x30 h31 => hTk 3 rfl rfl (ixB 1 rfl rfl rfl h31 Tryz.underlying194 ti56) <| hTk 5 rfl rfl (mv rfl) <| hTk 6 rfl rfl (I.sub rfl rfl) <| hBind fun x32 h33 => hTk 7 rfl rfl (ixB 1 rfl rfl rfl h33 Tryz.underlying194 ti56) <| hTk 10 rfl rfl (mv rfl) <| hTk 12 rfl rfl (mv rfl) <| hAlt [4, 8] (by kernel_rfl) rfl ⟨?_, ?_, trivial⟩
    ·
     refine oRun 4 rfl (gd0 rfl) rfl rfl flat_num (ld 1 rfl rfl ((Foc.here).part (.el h31)) ty56 rfl) <| hRun 8 rfl (by kernel_rfl) (gd0 rfl) rfl rfl flat_num (ld 1 rfl rfl ((Foc.here).part (.el h33)) ty56 rfl) <| hTk 9 rfl rfl (W.add rfl rfl) <| hTk 11 rfl rfl (W.add rfl rfl) <| hTk 13 rfl rfl (W.add rfl rfl) <| hBind fun x34 h35 => hTk 14 rfl rfl (ixB 1 rfl rfl rfl h35 Tryz.underlying194 ti56) <| hDoS 15 rfl (by kernel_rfl) (gd0 rfl) rfl rfl rfl rfl (sto 1 rfl rfl ((Foc.here).part (.el h35)) rfl ti56) <| hDone (by kernel_rfl) <| eBlk <| eThen <| gReg <| Zm rfl <| Zq (I.add rfl rfl) <| Za rfl <| lName 5 rfl fun y36 => gNil <| eNext (fun aa ww h => h.sub [1] (sS rfl <| sS rfl <| sN) (Zi rfl <| rN))
    ·
     refine oRun 8 rfl (gd0 rfl) rfl rfl flat_num (ld 1 rfl rfl ((Foc.here).part (.el h33)) ty56 rfl) <| hRun 4 rfl (by kernel_rfl) (gd0 rfl) rfl rfl flat_num (ld 1 rfl rfl ((Foc.here).part (.el h31)) ty56 rfl) <| hTk 9 rfl rfl (W.add rfl rfl) <| hTk 11 rfl rfl (W.add rfl rfl) <| hTk 13 rfl rfl (W.add rfl rfl) <| hBind fun x37 h38 => hTk 14 rfl rfl (ixB 1 rfl rfl rfl h38 Tryz.underlying194 ti56) <| hDoS 15 rfl (by kernel_rfl) (gd0 rfl) rfl rfl rfl rfl (sto 1 rfl rfl ((Foc.here).part (.el h38)) rfl ti56) <| hDone (by kernel_rfl) <| eBlk <| eThen <| gReg <| Zm rfl <| Zq (I.add rfl rfl) <| Za rfl <| lName 5 rfl fun y39 => gNil <| eNext (fun aa ww h => h.sub [1] (sS rfl <| sS rfl <| sN) (Zi rfl <| rN))
   ·
    refine gExit <| eTexit <| eLeave <| eMid (fun aa ww h => h.sub [1] (sS rfl <| sN) (Zi rfl <| rN))
  ·
   refine gSR <| Zq (ld 1 rfl rfl Foc.here ty194 rfl) <| Es (sto 1 rfl rfl Foc.here rfl ti194) <| Zn <| gRet <| eRet [] [] rfl (eC 1 rfl rfl ty194 <| eN) (rN)
def digest_mix (a0 : UInt32) (a1 : Int) (a2 : Int) (a3 : Int) : Option (UInt32) :=
 math_bits_RotateLeft32 a0 (w64 (0 - a1)) >>= fun r1 =>
 math_bits_RotateLeft32 a0 (w64 (0 - a2)) >>= fun r3 =>
 math_bits_RotateLeft32 a0 (w64 (0 - a3)) >>= fun r5 =>
 some ((r1 ^^^ r3) ^^^ r5) >>= fun y7 =>
 some y7
theorem digest_mix_ok (a0 : UInt32) (a1 : Int) (a2 : Int) (a3 : Int) : Spec Tryz.prog 162 [.rd u32R a0, .rd i64R a1, .rd i64R a2, .rd i64R a3] [] (digest_mix a0 a1 a2 a3) (fun r nv => ⟨[.rd u32R r], []⟩) := by
 refine spec 23 Tryz.func162 rfl rfl rfl fun H w => ?_
 refine gSR <| Za rfl <| Zn <| gSR <| Zm rfl <| Zm rfl <| Zq (I.neg rfl) <| call [] [] rfl Tryz.func167 rfl rfl (math_bits_RotateLeft32_ok _ _) (aQ rfl <| aQ rfl <| aN) rN fun r1 n2 => Zm rfl <| Zm rfl <| Zq (I.neg rfl) <| call [] [] rfl Tryz.func167 rfl rfl (math_bits_RotateLeft32_ok _ _) (aQ rfl <| aQ rfl <| aN) rN fun r3 n4 => Zq (W.xor rfl rfl) <| Zm rfl <| Zm rfl <| Zq (I.neg rfl) <| call [] [] rfl Tryz.func167 rfl rfl (math_bits_RotateLeft32_ok _ _) (aQ rfl <| aQ rfl <| aN) rN fun r5 n6 => Zq (W.xor rfl rfl) <| Za rfl <| lName 8 rfl fun y7 => Zn <| gRet <| eRet [] [] rfl (eE rfl <| eN) (rN)
def slices_Clone_byte_byte (a0 : List UInt8) : Option ((List UInt8)) :=
 app 1 ([] : List UInt8) a0 >>= fun x3 =>
 some x3
theorem slices_Clone_byte_byte_ok (a0 : List UInt8) : Spec Tryz.prog 145 [.rd (sliceR u8R) a0] [] (slices_Clone_byte_byte a0) (fun r nv => ⟨[.val (nv 0)], [(100, some (nv 0, .list u8R 5 r))]⟩) := by
 refine spec 8 Tryz.func145 rfl rfl rfl fun H w => ?_
 refine gSR <| Za rfl <| Zn <| gSeq <| gSR <| Zm rfl <| lNilE rfl rfl .rd rfl tu103 (fun h1 => ?_) ?_
 ·
  subst h1
  refine Zn <| gTrue rfl <| gSR <| Za rfl <| Zn <| gRet <| eTret <| eNew u8R 5 1 <| eRet [(.slice none 0 0)] [1] rfl (eE rfl <| eN) (Zi rfl <| rN)
 ·
  refine Zn <| gFalse rfl <| Zt <| gSR <| Ef rfl (lit (R := u8R) (([] : List UInt8) : List UInt8) 2 (pN) rfl tu103 ti5 rfl rfl) fun v2 => Zm rfl <| lBind fun x3 h4 => Ef rfl (apn 2 rfl rfl rfl .rd h4 tu103 ti5 rfl rfl rfl) fun v5 => Za rfl <| Zn <| gRet <| eRet [v5] [2] rfl (eE rfl <| eN) (Zi rfl <| rN)
def digest_grind_L0 (r1 : (Vector UInt32 64)) (s21 : UInt32 × UInt32 × UInt32 × UInt32 × UInt32 × UInt32 × UInt32 × UInt32 × Int) : Option (Sum (UInt32 × UInt32 × UInt32 × UInt32 × UInt32 × UInt32 × UInt32 × UInt32) (UInt32 × UInt32 × UInt32 × UInt32 × UInt32 × UInt32 × UInt32 × UInt32 × Int)) :=
 if decide (s21.2.2.2.2.2.2.2.2 < 64) then
  vidx gtab1 s21.2.2.2.2.2.2.2.2 >>= fun x23 =>
  vidx r1 s21.2.2.2.2.2.2.2.2 >>= fun x25 =>
  digest_mix s21.2.2.2.2.1 6 11 25 >>= fun r27 =>
  some ((((s21.2.2.2.2.2.2.2.1 + r27) + ((s21.2.2.2.2.1 &&& s21.2.2.2.2.2.1) ^^^ ((~~~s21.2.2.2.2.1) &&& s21.2.2.2.2.2.2.1))) + x23) + x25) >>= fun y29 =>
  digest_mix s21.1 2 13 22 >>= fun r30 =>
  some (r30 + (((s21.1 &&& s21.2.1) ^^^ (s21.1 &&& s21.2.2.1)) ^^^ (s21.2.1 &&& s21.2.2.1))) >>= fun y32 =>
  some (s21.2.2.2.1 + y29) >>= fun y33 =>
  some (.inr (y29 + y32, s21.1, s21.2.1, s21.2.2.1, y33, s21.2.2.2.2.1, s21.2.2.2.2.2.1, s21.2.2.2.2.2.2.1, w64 (s21.2.2.2.2.2.2.2.2 + 1)))
 else
  some (.inl (s21.1, s21.2.1, s21.2.2.1, s21.2.2.2.1, s21.2.2.2.2.1, s21.2.2.2.2.2.1, s21.2.2.2.2.2.2.1, s21.2.2.2.2.2.2.2.1))
def digest_grind_L2 (s20 : UInt32 × UInt32 × UInt32 × UInt32 × UInt32 × UInt32 × UInt32 × UInt32) (s34 : (Vector UInt32 8) × Int) : Option (Sum ((Vector UInt32 8)) ((Vector UInt32 8) × Int)) :=
 if decide (s34.2 < 8) then
  vidx (#v[s20.1, s20.2.1, s20.2.2.1, s20.2.2.2.1, s20.2.2.2.2.1, s20.2.2.2.2.2.1, s20.2.2.2.2.2.2.1, s20.2.2.2.2.2.2.2] : Vector UInt32 8) s34.2 >>= fun x36 =>
  vidx s34.1 s34.2 >>= fun x38 =>
  vidx s34.1 s34.2 >>= fun x40 =>
  some (.inr (vset s34.1 s34.2 (x38 + x36), w64 (s34.2 + 1)))
 else
  some (.inl s34.1)
def digest_grind (c0 : Vector UInt32 8) (a1 : List UInt8) : Option ((Vector UInt32 8)) :=
 digest_schedule a1 >>= fun r1 =>
 vidx c0 0 >>= fun x4 =>
 vidx c0 1 >>= fun x6 =>
 vidx c0 2 >>= fun x8 =>
 vidx c0 3 >>= fun x10 =>
 vidx c0 4 >>= fun x12 =>
 vidx c0 5 >>= fun x14 =>
 vidx c0 6 >>= fun x16 =>
 vidx c0 7 >>= fun x18 =>
 (iter (digest_grind_L0 r1) (x4, x6, x8, x10, x12, x14, x16, x18, 0)) >>= fun s20 =>
 iter (digest_grind_L2 s20) (c0, 0)
theorem digest_grind_ok (ph0 : Value) (kh0 : Nat) (uh0 : (Vector UInt32 8) → Cont) (hh0 : ∀ y, Foc (uh0 y) kh0 (arrR 8 u32R) y uh0) (c0 : Vector UInt32 8) (a1 : List UInt8) : Spec Tryz.prog 144 [.val (ptrTo ph0 kh0), .rd (sliceR u8R) a1] [(1, some (ph0, uh0 c0)), (1001, some ((.bool true), .glob 1 (arrR 64 u32R) gtab1))] (digest_grind c0 a1) (fun r nv => ⟨[], [(1, some (ph0, uh0 r)), (1001, some (.bool true, .glob 1 (arrR 64 u32R) gtab1))]⟩) := by
 refine spec 126 Tryz.func144 rfl rfl rfl fun H w => ?_
 refine gSR <| Zm rfl <| call [] [] rfl Tryz.func161 rfl rfl (digest_schedule_ok _) (aQ rfl <| aN) rN fun r1 n2 => Eb rfl (allc 2 ti194 (.zr (R := (arrR 64 u32R)) (x := (Vector.replicate 64 0)) zr194)) fun v3 => Es (sto 2 rfl rfl Foc.here rfl ti194) <| Zn <| gSeq <| gRegQ mixed (by kernel_rfl) <| Rq rfl (mv rfl) <| Rq rfl (nckP 1 rfl rfl (hh0 _)) <| qBind fun x4 h5 => Rq rfl (ixH 1 rfl rfl (hh0 _) rfl h5 tu141 ti56) <| Rq rfl (ld 1 rfl rfl ((hh0 _).part (.el h5)) ty56 rfl) <| Rq rfl (mv rfl) <| Rq rfl (nckP 1 rfl rfl (hh0 _)) <| qBind fun x6 h7 => Rq rfl (ixH 1 rfl rfl (hh0 _) rfl h7 tu141 ti56) <| Rq rfl (ld 1 rfl rfl ((hh0 _).part (.el h7)) ty56 rfl) <| Rq rfl (mv rfl) <| Rq rfl (nckP 1 rfl rfl (hh0 _)) <| qBind fun x8 h9 => Rq rfl (ixH 1 rfl rfl (hh0 _) rfl h9 tu141 ti56) <| Rq rfl (ld 1 rfl rfl ((hh0 _).part (.el h9)) ty56 rfl) <| Rq rfl (mv rfl) <| Rq rfl (nckP 1 rfl rfl (hh0 _)) <| qBind fun x10 h11 => Rq rfl (ixH 1 rfl rfl (hh0 _) rfl h11 tu141 ti56) <| Rq rfl (ld 1 rfl rfl ((hh0 _).part (.el h11)) ty56 rfl) <| Rq rfl (mv rfl) <| Rq rfl (nckP 1 rfl rfl (hh0 _)) <| qBind fun x12 h13 => Rq rfl (ixH 1 rfl rfl (hh0 _) rfl h13 tu141 ti56) <| Rq rfl (ld 1 rfl rfl ((hh0 _).part (.el h13)) ty56 rfl) <| Rq rfl (mv rfl) <| Rq rfl (nckP 1 rfl rfl (hh0 _)) <| qBind fun x14 h15 => Rq rfl (ixH 1 rfl rfl (hh0 _) rfl h15 tu141 ti56) <| Rq rfl (ld 1 rfl rfl ((hh0 _).part (.el h15)) ty56 rfl) <| Rq rfl (mv rfl) <| Rq rfl (nckP 1 rfl rfl (hh0 _)) <| qBind fun x16 h17 => Rq rfl (ixH 1 rfl rfl (hh0 _) rfl h17 tu141 ti56) <| Rq rfl (ld 1 rfl rfl ((hh0 _).part (.el h17)) ty56 rfl) <| Rq rfl (mv rfl) <| Rq rfl (nckP 1 rfl rfl (hh0 _)) <| qBind fun x18 h19 => Rq rfl (ixH 1 rfl rfl (hh0 _) rfl h19 tu141 ti56) <| Rq rfl (ld 1 rfl rfl ((hh0 _).part (.el h19)) ty56 rfl) <| Rq rfl (asg rfl) <| Rq rfl (asg rfl) <| Rq rfl (asg rfl) <| Rq rfl (asg rfl) <| Rq rfl (asg rfl) <| Rq rfl (asg rfl) <| Rq rfl (asg rfl) <| Rq rfl (asg rfl) <| qNil <| eThen <| gMid (fun (s20 : UInt32 × UInt32 × UInt32 × UInt32 × UInt32 × UInt32 × UInt32 × UInt32) aa ww => Sta (ctx 126 H [(1, some (ph0, uh0 c0)), (1001, some ((.bool true), .glob 1 (arrR 64 u32R) gtab1))] w) [(0, .val (ptrTo ph0 kh0)), (5, .rd u32R s20.1), (6, .rd u32R s20.2.1), (7, .rd u32R s20.2.2.1), (8, .rd u32R s20.2.2.2.1), (9, .rd u32R s20.2.2.2.2.1), (10, .rd u32R s20.2.2.2.2.2.1), (11, .rd u32R s20.2.2.2.2.2.2.1), (12, .rd u32R s20.2.2.2.2.2.2.2)] [(1, some (ph0, uh0 c0)), (1001, some ((.bool true), .glob 1 (arrR 64 u32R) gtab1))] aa ww) ?_ (fun s20 => ?_)
 ·
  refine gSR <| Zm rfl <| Zn <| gLoop (fun (s21 : UInt32 × UInt32 × UInt32 × UInt32 × UInt32 × UInt32 × UInt32 × UInt32 × Int) aa ww => Sta (ctx 126 H [(1, some (ph0, uh0 c0)), (1001, some ((.bool true), .glob 1 (arrR 64 u32R) gtab1))] w) [(0, .val (ptrTo ph0 kh0)), (4, .val (ptrTo v3 0)), (5, .rd u32R s21.1), (6, .rd u32R s21.2.1), (7, .rd u32R s21.2.2.1), (8, .rd u32R s21.2.2.2.1), (9, .rd u32R s21.2.2.2.2.1), (10, .rd u32R s21.2.2.2.2.2.1), (11, .rd u32R s21.2.2.2.2.2.2.1), (12, .rd u32R s21.2.2.2.2.2.2.2.1), (52, .rd i64R s21.2.2.2.2.2.2.2.2)] [(1, some (ph0, uh0 c0)), (2, some (v3, .box 194 [.rd (arrR 64 u32R) r1])), (1001, some ((.bool true), .glob 1 (arrR 64 u32R) gtab1))] aa ww) (fun aa ww h => h.sub [1, 2, 1001] (Zs rfl rfl rfl rfl <| Zs rfl rfl rfl rfl <| sS rfl <| sS rfl <| sS rfl <| sN) (Zi rfl <| Zi rfl <| Zi rfl <| rN)) (fun s21 => ?_)
  refine gSR <| Zq (I.lss rfl rfl) <| Zn <| gSeq <| gIf rfl rfl (fun h22 => ?_) (fun h22 => ?_)
  ·
   refine Zt <| gSeq <| gBlk <| gSR <| Zm rfl <| Za rfl <| Zn <| gSeq <| gRegH [] mixed rfl rfl <| hTk 0 rfl rfl (mv rfl) <| hTk 1 rfl rfl (mv rfl) <| hTk 4 rfl rfl (mv rfl) <| hTk 5 rfl rfl (mv rfl) <| hTk 6 rfl rfl (W.and rfl rfl) <| hTk 7 rfl rfl (mv rfl) <| hTk 8 rfl rfl (W.cpl rfl) <| hTk 9 rfl rfl (mv rfl) <| hTk 10 rfl rfl (W.and rfl rfl) <| hTk 11 rfl rfl (W.xor rfl rfl) <| hTk 13 rfl rfl (mv rfl) <| hBind fun x23 h24 => hTk 14 rfl rfl (ixG 1001 rfl rfl h24 Tryz.underlying194 ti56) <| hTk 15 rfl rfl (ldR rfl ty56) <| hTk 17 rfl rfl (mv rfl) <| hBind fun x25 h26 => hTk 18 rfl rfl (ixB 2 rfl rfl rfl h26 Tryz.underlying194 ti56) <| hTk 19 rfl rfl (ld 2 rfl rfl ((Foc.here).part (.el h26)) ty56 rfl) <| hCallF 2 [] [] rfl (by kernel_rfl) rfl (gd0 rfl) rfl Tryz.func162 rfl rfl (digest_mix_ok _ _ _ _) (aQ rfl <| aQ rfl <| aQ rfl <| aQ rfl <| aN) rN rfl (fun _ _ => flat_num) fun r27 n28 => hTk 3 rfl rfl (W.add rfl rfl) <| hTk 12 rfl rfl (W.add rfl rfl) <| hTk 16 rfl rfl (W.add rfl rfl) <| hTk 20 rfl rfl (W.add rfl rfl) <| hTk 21 rfl rfl (asg rfl) <| hName 14 rfl rfl fun y29 => hDone (by kernel_rfl) <| eThen <| gSR <| Zm rfl <| call [] [] rfl Tryz.func162 rfl rfl (digest_mix_ok _ _ _ _) (aQ rfl <| aQ rfl <| aQ rfl <| aQ rfl <| aN) rN fun r30 n31 => Zm rfl <| Zm rfl <| Zq (W.and rfl rfl) <| Zm rfl <| Zm rfl <| Zq (W.and rfl rfl) <| Zq (W.xor rfl rfl) <| Zm rfl <| Zm rfl <| Zq (W.and rfl rfl) <| Zq (W.xor rfl rfl) <| Zq (W.add rfl rfl) <| Za rfl <| lName 15 rfl fun y32 => Zn <| gReg <| Zm rfl <| Zm rfl <| Zq (W.add rfl rfl) <| Zm rfl <| Zm rfl <| Zm rfl <| Zm rfl <| Zm rfl <| Zq (W.add rfl rfl) <| Zm rfl <| Zm rfl <| Zm rfl <| Za rfl <| Za rfl <| Za rfl <| Za rfl <| Za rfl <| lName 9 rfl fun y33 => Za rfl <| Za rfl <| Za rfl <| gNil <| eBlk <| eThen <| gReg <| Zq (I.add rfl rfl) <| Zm rfl <| gNil <| eNext (fun aa ww h => h.sub [1, 2, 1001] (Zs rfl rfl rfl rfl <| Zs rfl rfl rfl rfl <| sS rfl <| sS rfl <| sS rfl <| sN) (Zi rfl <| Zi rfl <| Zi rfl <| rN))
  ·
   refine gExit <| eTexit <| eLeave <| eMid (fun aa ww h => h.sub [1, 1001] (Zs rfl rfl rfl rfl <| Zs rfl rfl rfl rfl <| sS rfl <| sN) (Zi rfl <| Zi rfl <| rN))
 ·
  refine gSR <| Zm rfl <| Zm rfl <| Zm rfl <| Zm rfl <| Zm rfl <| Zm rfl <| Zm rfl <| Zm rfl <| Zq (litA (R := u32R) [s20.1, s20.2.1, s20.2.2.1, s20.2.2.2.1, s20.2.2.2.2.1, s20.2.2.2.2.2.1, s20.2.2.2.2.2.2.1, s20.2.2.2.2.2.2.2] (#v[s20.1, s20.2.1, s20.2.2.1, s20.2.2.2.1, s20.2.2.2.2.1, s20.2.2.2.2.2.1, s20.2.2.2.2.2.2.1, s20.2.2.2.2.2.2.2] : Vector UInt32 8) (pP rfl rfl <| pP rfl rfl <| pP rfl rfl <| pP rfl rfl <| pP rfl rfl <| pP rfl rfl <| pP rfl rfl <| pP rfl rfl <| pN) rfl tu141 ti141 rfl ti56) <| Zm rfl <| Zn <| gLoop (fun (s34 : (Vector UInt32 8) × Int) aa ww => Sta (ctx 126 H [(1, some (ph0, uh0 c0)), (1001, some ((.bool true), .glob 1 (arrR 64 u32R) gtab1))] w) [(0, .val (ptrTo ph0 kh0)), (111, .rd (arrR 8 u32R) (#v[s20.1, s20.2.1, s20.2.2.1, s20.2.2.2.1, s20.2.2.2.2.1, s20.2.2.2.2.2.1, s20.2.2.2.2.2.2.1, s20.2.2.2.2.2.2.2] : Vector UInt32 8)), (112, .rd i64R s34.2)] [(1, some (ph0, uh0 s34.1)), (1001, some ((.bool true), .glob 1 (arrR 64 u32R) gtab1))] aa ww) (fun aa ww h => h.sub [1, 1001] (sS rfl <| sS rfl <| sS rfl <| sN) (Zi rfl <| Zi rfl <| rN)) (fun s34 => ?_)
  refine gSR <| Zq (I.lss rfl rfl) <| Zn <| gSeq <| gIf rfl rfl (fun h35 => ?_) (fun h35 => ?_)
  ·
   refine Zt <| gSeq <| gBlk <| gSR <| Zm rfl <| lBind fun x36 h37 => Zq (idxV rfl rfl h37 tu141 ti56 ty56) <| Za rfl <| Za rfl <| Zn <| gRegH [1] mixed rfl rfl <| hTk 0 rfl rfl (mv rfl) <| hTk 1 rfl rfl (mv rfl) <| hTk 2 rfl rfl (nckP 1 rfl rfl (hh0 _)) <| hBind fun x38 h39 => hTk 3 rfl rfl (ixH 1 rfl rfl (hh0 _) rfl h39 tu141 ti56) <| hTk 5 rfl rfl (mv rfl) <| hTk 7 rfl rfl (nckP 1 rfl rfl (hh0 _)) <| hRun 4 rfl (by kernel_rfl) (gd0 rfl) rfl rfl flat_num (ld 1 rfl rfl ((hh0 _).part (.el h39)) ty56 rfl) <| hTk 6 rfl rfl (W.add rfl rfl) <| hBind fun x40 h41 => hTk 8 rfl rfl (ixH 1 rfl rfl (hh0 _) rfl h41 tu141 ti56) <| hDoS 9 rfl (by kernel_rfl) (gd0 rfl) rfl rfl rfl rfl (sto 1 rfl rfl ((hh0 _).part (.el h41)) rfl ti56) <| hDone (by kernel_rfl) <| eBlk <| eThen <| gReg <| Zq (I.add rfl rfl) <| Zm rfl <| gNil <| eNext (fun aa ww h => h.sub [1, 1001] (sS rfl <| sS rfl <| sS rfl <| sN) (Zi rfl <| Zi rfl <| rN))
  ·
   refine gExit <| eTexit <| eLeave <| eRet [] [1, 1001] rfl (eN) (Zi rfl <| Zi rfl <| rN)
def digest_feed_L0 (s7 : api_Mill × (List UInt8)) : Option (Sum (api_Mill × (List UInt8)) (api_Mill × (List UInt8))) :=
 if decide (64 ≤ (s7.2.length : Int)) then
  digest_grind s7.1.Words s7.2 >>= fun r10 =>
  cut s7.2 64 (s7.2.length : Int) >>= fun x12 =>
  some (.inr ({ s7.1 with Words := r10 }, x12))
 else
  some (.inl (s7.1, s7.2))
def digest_feed (a0 : api_Mill) (a1 : List UInt8) : Option (api_Mill) :=
 slices_Concat_byte_byte [a0.Rest, a1] >>= fun r4 =>
 (iter (digest_feed_L0) (a0, r4)) >>= fun s6 =>
 slices_Clone_byte_byte s6.2 >>= fun r14 =>
 some (⟨({ s6.1 with N := w64 (s6.1.N + (a1.length : Int)) }).Words, r14, ({ s6.1 with N := w64 (s6.1.N + (a1.length : Int)) }).N⟩ : api_Mill)
theorem digest_feed_ok (a0 : api_Mill) (a1 : List UInt8) : Spec Tryz.prog 120 [.rd R_api_Mill a0, .rd (sliceR u8R) a1] [(1001, some ((.bool true), .glob 1 (arrR 64 u32R) gtab1))] (digest_feed a0 a1) (fun r nv => ⟨[.rd R_api_Mill r], [(1001, some (.bool true, .glob 1 (arrR 64 u32R) gtab1))]⟩) := by
 refine spec 29 Tryz.func120 rfl rfl rfl fun H w => ?_
 refine gSR <| Eb rfl (bx 1 rfl) fun v1 => Eb rfl (allc 2 ti155 (ZrE.rd (R := (arrR 8 u32R)) (x := (Vector.replicate 8 0)) zr141 (ZrE.nilS (ZrE.rd (R := i64R) (x := 0) (Zr.num rfl) ZrE.nil rfl)) rfl)) fun v2 => Zn <| gSR <| Zq (faB 1 rfl rfl Tryz.underlying155 rfl (by exact ti103)) <| Zq (ld 1 rfl rfl ((Foc.here).part (pt_api_Mill_Rest _)) ty103 rfl) <| Zm rfl <| Ef rfl (lit (R := (sliceR u8R)) ([a0.Rest, a1] : List (List UInt8)) 3 (pP rfl rfl <| pP rfl rfl <| pN) rfl tu126 ti103 rfl rfl) fun v3 => lFrz 3 [9] rfl (fS rfl <| fN) <| call [] [(100, 4)] rfl Tryz.func88 rfl rfl (slices_Concat_byte_byte_ok _) (aQ rfl <| aN) rN fun r4 n5 => Za rfl <| Zn <| gMid (fun (s6 : api_Mill × (List UInt8)) aa ww => Sta (ctx 29 H [(1001, some ((.bool true), .glob 1 (arrR 64 u32R) gtab1))] w) [(1, .rd (sliceR u8R) a1), (2, .val (ptrTo v1 0)), (4, .val (ptrTo v2 0)), (5, .rd (sliceR u8R) s6.2)] [(1, some (v1, .box 155 [.rd R_api_Mill s6.1])), (2, some (v2, .box 155 [.rd (arrR 8 u32R) (Vector.replicate 8 0), .val (.slice none 0 0), .rd i64R 0])), (1001, some ((.bool true), .glob 1 (arrR 64 u32R) gtab1))] aa ww) ?_ (fun s6 => ?_)
 ·
  refine gFrz 4 [10, 5] rfl (fS rfl <| fS rfl <| fN) <| gLoop (fun (s7 : api_Mill × (List UInt8)) aa ww => Sta (ctx 29 H [(1001, some ((.bool true), .glob 1 (arrR 64 u32R) gtab1))] w) [(1, .rd (sliceR u8R) a1), (2, .val (ptrTo v1 0)), (4, .val (ptrTo v2 0)), (5, .rd (sliceR u8R) s7.2)] [(1, some (v1, .box 155 [.rd R_api_Mill s7.1])), (2, some (v2, .box 155 [.rd (arrR 8 u32R) (Vector.replicate 8 0), .val (.slice none 0 0), .rd i64R 0])), (1001, some ((.bool true), .glob 1 (arrR 64 u32R) gtab1))] aa ww) (fun aa ww h => h.sub [1, 2, 1001] (Zs rfl rfl rfl rfl <| sN) (Zi rfl <| Zi rfl <| Zi rfl <| rN)) (fun s7 => ?_)
  refine gSeq <| gSR <| Zm rfl <| Zq (len' rfl .rd rfl tu103) <| Zq (I.geq rfl rfl) <| Zn <| gIf rfl rfl (fun h8 => ?_) (fun h8 => ?_)
  ·
   refine Zt <| gBlk <| gSR <| Zq (faB 1 rfl rfl Tryz.underlying155 rfl (by exact ti141)) <| Zm rfl <| call [1, 1001] [(1, 1)] rfl Tryz.func144 rfl rfl (digest_grind_ok _ _ (fun y9 => .box 155 [.rd R_api_Mill ({ s7.1 with Words := y9 })]) (fun _ => ((Foc.here).part (pt_api_Mill_Words _))) _ _) (aQ rfl <| aQ rfl <| aN) (Zi rfl <| Zi rfl <| rN) fun r10 n11 => Zn <| gReg <| Zm rfl <| lBind fun x12 h13 => Zq (cut' rfl (.to rfl) .no h13 tu103 ti5) <| Za rfl <| gNil <| eBlk <| eNext (fun aa ww h => h.sub [1, 2, 1001] (Zs rfl rfl rfl rfl <| sN) (Zi rfl <| Zi rfl <| Zi rfl <| rN))
  ·
   refine gExit <| eTexit <| eLeave <| eMid (fun aa ww h => h.sub [1, 2, 1001] (Zs rfl rfl rfl rfl <| sN) (Zi rfl <| Zi rfl <| Zi rfl <| rN))
 ·
  refine gSeq <| gRegH [1, 1020] mixed rfl rfl <| hTk 0 rfl rfl (faB 1 rfl rfl Tryz.underlying155 rfl (by exact ti3)) <| hTk 2 rfl rfl (mv rfl) <| hTk 3 rfl rfl (len' rfl .rd rfl tu103) <| hTk 5 rfl rfl (mv rfl) <| hAlt [1, 6] (by kernel_rfl) rfl ⟨?_, ?_, trivial⟩
  ·
   refine oRun 1 rfl (gd0 rfl) rfl rfl flat_num (ld 1 rfl rfl ((Foc.here).part (pt_api_Mill_N _)) ty3 rfl) <| hTk 4 rfl rfl (I.add rfl rfl) <| hCallF 6 [] [(100, 1020)] rfl (by kernel_rfl) rfl (gd0 rfl) rfl Tryz.func145 rfl rfl (slices_Clone_byte_byte_ok _) (aQ rfl <| aN) rN rfl (fun _ _ => flat_val) fun r14 n15 => hTk 7 rfl rfl (faB 1 rfl rfl Tryz.underlying155 rfl (by exact ti3)) <| hDoS 8 rfl (by kernel_rfl) (gd0 rfl) rfl rfl rfl rfl (sto 1 rfl rfl ((Foc.here).part (pt_api_Mill_N _)) rfl ti3) <| hTakeF 9 rfl (by kernel_rfl) (by kernel_rfl) (by kernel_rfl) (gd0 rfl) rfl rfl flat_val (faB 1 rfl rfl Tryz.underlying155 rfl (by exact ti103)) <| hSpl (R := R_api_Mill) 1 rfl (Sp.via (Sp.prod (Sp.prod (Sp.prod Sp.unit)))) <| hDoS 10 rfl (by kernel_rfl) (gd0 rfl) rfl rfl rfl rfl (stoE 1 rfl rfl (Swap.cast (Swap.next fills_rd (Swap.here fills_rd)) rfl) rfl ones_val fills_val ti103) <| hDone (by kernel_rfl) <| eThen <| gSR <| lPow [.rd (arrR 8 u32R) (({ s6.1 with N := w64 (s6.1.N + (a1.length : Int)) }).Words), .rd (sliceR u8R) r14, .rd i64R (({ s6.1 with N := w64 (s6.1.N + (a1.length : Int)) }).N)] 1 1020 [.rd (arrR 8 u32R) (({ s6.1 with N := w64 (s6.1.N + (a1.length : Int)) }).Words)] [.rd i64R (({ s6.1 with N := w64 (s6.1.N + (a1.length : Int)) }).N)] rfl rfl rfl rfl rfl <| lJoi (R := R_api_Mill) (⟨({ s6.1 with N := w64 (s6.1.N + (a1.length : Int)) }).Words, r14, ({ s6.1 with N := w64 (s6.1.N + (a1.length : Int)) }).N⟩ : api_Mill) 1 rfl (Sp.via (Sp.prod (Sp.prod (Sp.prod Sp.unit)))) <| Zq (ld 1 rfl rfl Foc.here ty155 rfl) <| lPnl u8R [.rd (arrR 8 u32R) (Vector.replicate 8 0), .rd (sliceR u8R) [], .rd i64R 0] 2 [.rd (arrR 8 u32R) (Vector.replicate 8 0)] [.rd i64R 0] rfl rfl rfl <| lJoi (R := R_api_Mill) (⟨(Vector.replicate 8 0), [], 0⟩ : api_Mill) 2 rfl (Sp.via (Sp.prod (Sp.prod (Sp.prod Sp.unit)))) <| Es (sto 2 rfl rfl Foc.here rfl ti155) <| Zn <| gRet <| eRet [] [1001] rfl (eC 2 rfl rfl ty155 <| eN) (Zi rfl <| rN)
  ·
   refine oCallF 6 [] [(100, 1020)] rfl rfl (gd0 rfl) rfl Tryz.func145 rfl rfl (slices_Clone_byte_byte_ok _) (aQ rfl <| aN) rN rfl (fun _ _ => flat_val) fun r16 n17 => hRun 1 rfl (by kernel_rfl) (gd0 rfl) rfl rfl flat_num (ld 1 rfl rfl ((Foc.here).part (pt_api_Mill_N _)) ty3 rfl) <| hTk 4 rfl rfl (I.add rfl rfl) <| hTk 7 rfl rfl (faB 1 rfl rfl Tryz.underlying155 rfl (by exact ti3)) <| hDoS 8 rfl (by kernel_rfl) (gd0 rfl) rfl rfl rfl rfl (sto 1 rfl rfl ((Foc.here).part (pt_api_Mill_N _)) rfl ti3) <| hTakeF 9 rfl (by kernel_rfl) (by kernel_rfl) (by kernel_rfl) (gd0 rfl) rfl rfl flat_val (faB 1 rfl rfl Tryz.underlying155 rfl (by exact ti103)) <| hSpl (R := R_api_Mill) 1 rfl (Sp.via (Sp.prod (Sp.prod (Sp.prod Sp.unit)))) <| hDoS 10 rfl (by kernel_rfl) (gd0 rfl) rfl rfl rfl rfl (stoE 1 rfl rfl (Swap.cast (Swap.next fills_rd (Swap.here fills_rd)) rfl) rfl ones_val fills_val ti103) <| hDone (by kernel_rfl) <| eThen <| gSR <| lPow [.rd (arrR 8 u32R) (({ s6.1 with N := w64 (s6.1.N + (a1.length : Int)) }).Words), .rd (sliceR u8R) r16, .rd i64R (({ s6.1 with N := w64 (s6.1.N + (a1.length : Int)) }).N)] 1 1020 [.rd (arrR 8 u32R) (({ s6.1 with N := w64 (s6.1.N + (a1.length : Int)) }).Words)] [.rd i64R (({ s6.1 with N := w64 (s6.1.N + (a1.length : Int)) }).N)] rfl rfl rfl rfl rfl <| lJoi (R := R_api_Mill) (⟨({ s6.1 with N := w64 (s6.1.N + (a1.length : Int)) }).Words, r16, ({ s6.1 with N := w64 (s6.1.N + (a1.length : Int)) }).N⟩ : api_Mill) 1 rfl (Sp.via (Sp.prod (Sp.prod (Sp.prod Sp.unit)))) <| Zq (ld 1 rfl rfl Foc.here ty155 rfl) <| lPnl u8R [.rd (arrR 8 u32R) (Vector.replicate 8 0), .rd (sliceR u8R) [], .rd i64R 0] 2 [.rd (arrR 8 u32R) (Vector.replicate 8 0)] [.rd i64R 0] rfl rfl rfl <| lJoi (R := R_api_Mill) (⟨(Vector.replicate 8 0), [], 0⟩ : api_Mill) 2 rfl (Sp.via (Sp.prod (Sp.prod (Sp.prod Sp.unit)))) <| Es (sto 2 rfl rfl Foc.here rfl ti155) <| Zn <| gRet <| eRet [] [1001] rfl (eC 2 rfl rfl ty155 <| eN) (Zi rfl <| rN)
def digest_end_L0 (y3 : UInt64) (s9 : (List UInt8) × Int) : Option (Sum ((List UInt8)) ((List UInt8) × Int)) :=
 if decide (0 ≤ s9.2) then
  chk (0 ≤ s9.2) >>= fun u12 =>
  app 1 s9.1 [(shr64 y3 ((s9.2 : Int).toNat)).toUInt8] >>= fun x15 =>
  some (w64 (s9.2 - 8)) >>= fun y18 =>
  some (.inr (x15, y18))
 else
  some (.inl s9.1)
def digest_end_L2 (r21 : api_Mill) (s23 : (Vector UInt8 32) × Int) : Option (Sum ((Vector UInt8 32)) ((Vector UInt8 32) × Int)) :=
 if decide (s23.2 < 8) then
  vidx r21.Words s23.2 >>= fun x25 =>
  vidx s23.1 (w64 (4 * s23.2)) >>= fun x27 =>
  vidx (vset s23.1 (w64 (4 * s23.2)) ((shr32 x25 24).toUInt8)) (w64 ((w64 (4 * s23.2)) + 1)) >>= fun x29 =>
  vidx (vset (vset s23.1 (w64 (4 * s23.2)) ((shr32 x25 24).toUInt8)) (w64 ((w64 (4 * s23.2)) + 1)) ((shr32 x25 16).toUInt8)) (w64 ((w64 (4 * s23.2)) + 2)) >>= fun x31 =>
  vidx (vset (vset (vset s23.1 (w64 (4 * s23.2)) ((shr32 x25 24).toUInt8)) (w64 ((w64 (4 * s23.2)) + 1)) ((shr32 x25 16).toUInt8)) (w64 ((w64 (4 * s23.2)) + 2)) ((shr32 x25 8).toUInt8)) (w64 ((w64 (4 * s23.2)) + 3)) >>= fun x33 =>
  some (.inr (vset (vset (vset (vset s23.1 (w64 (4 * s23.2)) ((shr32 x25 24).toUInt8)) (w64 ((w64 (4 * s23.2)) + 1)) ((shr32 x25 16).toUInt8)) (w64 ((w64 (4 * s23.2)) + 2)) ((shr32 x25 8).toUInt8)) (w64 ((w64 (4 * s23.2)) + 3)) x25.toUInt8, w64 (s23.2 + 1)))
 else
  some (.inl s23.1)
def digest_end (a0 : api_Mill) : Option ((Vector UInt8 32)) :=
 some ((UInt64.ofInt a0.N) * 8) >>= fun y3 =>
 appz 1 [128] 0 (Int.tmod (w64 (119 - (Int.tmod a0.N 64))) 64) >>= fun x5 =>
 (iter (digest_end_L0 y3) (x5, 56)) >>= fun s8 =>
 (digest_feed a0 s8 >>= fun r21 =>
 iter (digest_end_L2 r21) ((Vector.replicate 32 0), 0)) >>= fun s20 =>
 some s20
end
section
open Go Go.RowKit
set_option maxRecDepth 100000
theorem digest_end_ok (a0 : api_Mill) : Spec Tryz.prog 121 [.rd R_api_Mill a0] [(1001, some ((.bool true), .glob 1 (arrR 64 u32R) gtab1))] (digest_end a0) (fun r nv => ⟨[.rd (arrR 32 u8R) r], [(1001, some (.bool true, .glob 1 (arrR 64 u32R) gtab1))]⟩) := by
 refine spec 66 Tryz.func121 rfl rfl rfl fun H w => ?_
 refine gSR <| Eb rfl (bx 1 rfl) fun v1 => Eb rfl (allc 2 ti27 (.zr (R := (arrR 32 u8R)) (x := (Vector.replicate 32 0)) zr26)) fun v2 => Zn <| gSR <| Zq (faB 1 rfl rfl Tryz.underlying155 rfl (by exact ti3)) <| Zq (ld 1 rfl rfl ((Foc.here).part (pt_api_Mill_N _)) ty3 rfl) <| Zq (I.toU rfl tu3 tu57) <| Zq (U.mul rfl rfl) <| Za rfl <| lName 3 rfl fun y3 => Zn <| gSR <| Ef rfl (lit (R := u8R) ([128] : List UInt8) 3 (pP rfl rfl <| pN) rfl tu103 ti5 rfl rfl) fun v4 => Zq (faB 1 rfl rfl Tryz.underlying155 rfl (by exact ti3)) <| Zq (ld 1 rfl rfl ((Foc.here).part (pt_api_Mill_N _)) ty3 rfl) <| Zq (I.rem rfl rfl (by decide)) <| Zq (I.sub rfl rfl) <| Zq (I.rem rfl rfl (by decide)) <| lBind fun x5 h6 => Ef rfl (apZO 3 rfl rfl rfl h6 tu103 tu3 ti5 (Zr.num rfl) rfl) fun v7 => Za rfl <| Zn <| gMid (fun (s8 : (List UInt8)) aa ww => ∃ nv : Nat → Value, Sta (ctx 66 H [(1001, some ((.bool true), .glob 1 (arrR 64 u32R) gtab1))] w) [(1, .val (ptrTo v1 0)), (2, .val (ptrTo v2 0)), (4, .val (nv 0))] [(1, some (v1, .box 155 [.rd R_api_Mill a0])), (2, some (v2, .box 27 [.rd (arrR 32 u8R) (Vector.replicate 32 0)])), (3, some ((nv 0), .list u8R 5 s8)), (1001, some ((.bool true), .glob 1 (arrR 64 u32R) gtab1))] aa ww) ?_ (fun s8 => ?_)
 ·
  refine gSR <| Za rfl <| Zn <| gLoop (fun (s9 : (List UInt8) × Int) aa ww => ∃ nv : Nat → Value, Sta (ctx 66 H [(1001, some ((.bool true), .glob 1 (arrR 64 u32R) gtab1))] w) [(1, .val (ptrTo v1 0)), (2, .val (ptrTo v2 0)), (3, .rd u64R y3), (4, .val (nv 0)), (5, .rd i64R s9.2)] [(1, some (v1, .box 155 [.rd R_api_Mill a0])), (2, some (v2, .box 27 [.rd (arrR 32 u8R) (Vector.replicate 32 0)])), (3, some ((nv 0), .list u8R 5 s9.1)), (1001, some ((.bool true), .glob 1 (arrR 64 u32R) gtab1))] aa ww) (fun aa ww h => ⟨nvl [v7], h.sub [1, 2, 3, 1001] (Zs rfl rfl rfl rfl <| sS rfl <| sN) (Zi rfl <| Zi rfl <| Zi rfl <| Zi rfl <| rN)⟩) (fun s9 => ?_)
  refine gEx fun n10 => gSeq <| gSR <| Zm rfl <| Zq (I.geq rfl rfl) <| Zn <| gIf rfl rfl (fun h11 => ?_) (fun h11 => ?_)
  ·
   refine Zt <| gSeq <| gBlk <| gReg <| Zm rfl <| Zm rfl <| Zm rfl <| lBind fun u12 h13 => Zq (U.shr rfl rfl (chk_some h13)) <| Zq (U.toB rfl tu57 tu5) <| Ef rfl (lit (R := u8R) ([(shr64 y3 ((s9.2 : Int).toNat)).toUInt8] : List UInt8) 1002 (pP rfl rfl <| pN) rfl tu103 ti5 rfl rfl) fun v14 => lBind fun x15 h16 => Ef rfl (apn 3 rfl rfl rfl (.own 1002 rfl) h16 tu103 ti5 rfl rfl rfl) fun v17 => Za rfl <| gNil <| eBlk <| eThen <| gReg <| Zm rfl <| Zq (I.sub rfl rfl) <| Za rfl <| lName 5 rfl fun y18 => gNil <| eNext (fun aa ww h => ⟨nvl [v17], h.sub [1, 2, 3, 1001] (Zs rfl rfl rfl rfl <| sS rfl <| sN) (Zi rfl <| Zi rfl <| Zi rfl <| Zi rfl <| rN)⟩)
  ·
   refine gExit <| eTexit <| eLeave <| eMid (fun aa ww h => ⟨nvl [(n10 0)], h.sub [1, 2, 3, 1001] (sS rfl <| sS rfl <| sS rfl <| sN) (Zi rfl <| Zi rfl <| Zi rfl <| Zi rfl <| rN)⟩)
 ·
  refine gEx fun n19 => gMid (fun (s20 : (Vector UInt8 32)) aa ww => Sta (ctx 66 H [(1001, some ((.bool true), .glob 1 (arrR 64 u32R) gtab1))] w) [(2, .val (ptrTo v2 0))] [(2, some (v2, .box 27 [.rd (arrR 32 u8R) s20])), (1001, some ((.bool true), .glob 1 (arrR 64 u32R) gtab1))] aa ww) ?_ (fun s20 => ?_)
  ·
   refine gSR <| Zq (ld 1 rfl rfl Foc.here ty155 rfl) <| Zm rfl <| lFrz 3 [4, 31] rfl (fS rfl <| fS rfl <| fN) <| call [1001] [] rfl Tryz.func120 rfl rfl (digest_feed_ok _ _) (aQ rfl <| aQ rfl <| aN) (Zi rfl <| rN) fun r21 n22 => Zq (fldV rfl (pt_api_Mill_Words _) rfl Tryz.underlying155 rfl ty141) <| Zm rfl <| Zn <| gLoop (fun (s23 : (Vector UInt8 32) × Int) aa ww => Sta (ctx 66 H [(1001, some ((.bool true), .glob 1 (arrR 64 u32R) gtab1))] w) [(2, .val (ptrTo v2 0)), (33, .rd (arrR 8 u32R) r21.Words), (34, .rd i64R s23.2)] [(2, some (v2, .box 27 [.rd (arrR 32 u8R) s23.1])), (1001, some ((.bool true), .glob 1 (arrR 64 u32R) gtab1))] aa ww) (fun aa ww h => h.sub [2, 1001] (sS rfl <| sS rfl <| sS rfl <| sN) (Zi rfl <| Zi rfl <| rN)) (fun s23 => ?_)
   refine gSR <| Zq (I.lss rfl rfl) <| Zn <| gSeq <| gIf rfl rfl (fun h24 => ?_) (fun h24 => ?_)
   ·
    refine Zt <| gSeq <| gBlk <| gSR <| Zm rfl <| lBind fun x25 h26 => Zq (idxV rfl rfl h26 tu141 ti56 ty56) <| Za rfl <| Za rfl <| Zn <| gReg <| Zm rfl <| Zq (I.mul rfl rfl) <| Zm rfl <| Zq (I.mul rfl rfl) <| Zq (I.add rfl rfl) <| Zm rfl <| Zq (I.mul rfl rfl) <| Zq (I.add rfl rfl) <| Zm rfl <| Zq (I.mul rfl rfl) <| Zq (I.add rfl rfl) <| Zm rfl <| Zq (W.shr rfl rfl (Int.natCast_nonneg _)) <| Zq (W.toB rfl tu56 tu5) <| Zm rfl <| Zq (W.shr rfl rfl (Int.natCast_nonneg _)) <| Zq (W.toB rfl tu56 tu5) <| Zm rfl <| Zq (W.shr rfl rfl (Int.natCast_nonneg _)) <| Zq (W.toB rfl tu56 tu5) <| Zm rfl <| Zq (W.toB rfl tu56 tu5) <| lBind fun x27 h28 => Zq (ixB 2 rfl rfl rfl h28 tu27 ti5) <| Es (sto 2 rfl rfl ((Foc.here).part (.el h28)) rfl ti5) <| lBind fun x29 h30 => Zq (ixB 2 rfl rfl rfl h30 tu27 ti5) <| Es (sto 2 rfl rfl ((Foc.here).part (.el h30)) rfl ti5) <| lBind fun x31 h32 => Zq (ixB 2 rfl rfl rfl h32 tu27 ti5) <| Es (sto 2 rfl rfl ((Foc.here).part (.el h32)) rfl ti5) <| lBind fun x33 h34 => Zq (ixB 2 rfl rfl rfl h34 tu27 ti5) <| Es (sto 2 rfl rfl ((Foc.here).part (.el h34)) rfl ti5) <| gNil <| eBlk <| eThen <| gReg <| Zq (I.add rfl rfl) <| Zm rfl <| gNil <| eNext (fun aa ww h => h.sub [2, 1001] (sS rfl <| sS rfl <| sS rfl <| sN) (Zi rfl <| Zi rfl <| rN))
   ·
    refine gExit <| eTexit <| eLeave <| eMid (fun aa ww h => h.sub [2, 1001] (sS rfl <| sN) (Zi rfl <| Zi rfl <| rN))
  ·
   refine gSR <| Zq (ld 2 rfl rfl Foc.here ty27 rfl) <| Es (sto 2 rfl rfl Foc.here rfl ti27) <| Zn <| gRet <| eRet [] [1001] rfl (eC 2 rfl rfl ty27 <| eN) (Zi rfl <| rN)
def slices_IndexFunc_byte_byte_digest_Pieces_1_L0 (a0 : List (List UInt8)) (s2 : Int) : Option (Sum (Sum Int Unit) Int) :=
 if decide (s2 < (a0.length : Int)) then
  idx a0 s2 >>= fun x4 =>
  digest_Pieces_1 x4 >>= fun r6 =>
  if r6 then
   some (.inl (.inl s2))
  else
   some (.inr (w64 (s2 + 1)))
 else
  some (.inl (.inr ()))
def slices_IndexFunc_byte_byte_digest_Pieces_1 (a0 : List (List UInt8)) : Option (Int) :=
 orRet (iter (slices_IndexFunc_byte_byte_digest_Pieces_1_L0 a0) 0) fun s1 =>
 some (-1)
theorem slices_IndexFunc_byte_byte_digest_Pieces_1_ok (a0 : List (List UInt8)) : Spec Tryz.prog 143 [.rd (sliceR (sliceR u8R)) a0, .val (.func (.func 118) #[] #[])] [] (slices_IndexFunc_byte_byte_digest_Pieces_1 a0) (fun r nv => ⟨[.rd i64R r], []⟩) := by
 refine spec 19 Tryz.func143 rfl rfl rfl fun H w => ?_
 refine gSR <| Za rfl <| Zn <| gMidR (fun (s1 : Unit) aa ww => Sta (ctx 19 H [] w) [] [] aa ww) ?_ (fun s1 => ?_)
 ·
  refine gSR <| Zm rfl <| Zq (len' rfl .rd rfl tu126) <| Zm rfl <| Zn <| gLoop (fun (s2 : Int) aa ww => Sta (ctx 19 H [] w) [(0, .rd (sliceR (sliceR u8R)) a0), (1, .val (.func (.func 118) #[] #[])), (7, .rd i64R (a0.length : Int)), (8, .rd i64R s2)] [] aa ww) (fun aa ww h => h.sub [] (Zs rfl rfl rfl rfl <| sN) (rN)) (fun s2 => ?_)
  refine gSR <| Zq (I.lss rfl rfl) <| Zn <| gSeq <| gIf rfl rfl (fun h3 => ?_) (fun h3 => ?_)
  ·
   refine Zt <| gSeq <| gBlk <| gSR <| Zm rfl <| Za rfl <| Zn <| gSR <| Zm rfl <| Zm rfl <| Zm rfl <| lBind fun x4 h5 => Zq (ixR rfl rfl h5 tu126 ti103 rfl) <| Zq (ldR rfl ty103) <| callv [] [] (gd0 rfl) rfl rfl Tryz.func118 rfl rfl (digest_Pieces_1_ok _) (aQ rfl <| aN) (cN) rN fun r6 n7 => Zn <| gIf rfl rfl (fun h8 => ?_) (fun h8 => ?_)
   ·
    refine gSR <| Zm rfl <| Za rfl <| Zn <| gRet <| eBret <| eTret <| eLret <| eMret <| eRet [] [] rfl (eE rfl <| eN) (rN)
   ·
    refine gSkip <| eBlk <| eThen <| gReg <| Zq (I.add rfl rfl) <| Zm rfl <| gNil <| eNext (fun aa ww h => h.sub [] (Zs rfl rfl rfl rfl <| sN) (rN))
  ·
   refine gExit <| eTexit <| eLeave <| eMidR (fun aa ww h => h.sub [] (sN) (rN))
 ·
  refine gSR <| Za rfl <| Zn <| gRet <| eRet [] [] rfl (eE rfl <| eN) (rN)
def slices_ContainsFunc_byte_byte_digest_Pieces_1 (a0 : List (List UInt8)) : Option (Bool) :=
 slices_IndexFunc_byte_byte_digest_Pieces_1 a0 >>= fun r1 =>
 some (decide (0 ≤ r1)) >>= fun y3 =>
 some y3
theorem slices_ContainsFunc_byte_byte_digest_Pieces_1_ok (a0 : List (List UInt8)) : Spec Tryz.prog 117 [.rd (sliceR (sliceR u8R)) a0, .val (.func (.func 118) #[] #[])] [] (slices_ContainsFunc_byte_byte_digest_Pieces_1 a0) (fun r nv => ⟨[.rd boolR r], []⟩) := by
 refine spec 9 Tryz.func117 rfl rfl rfl fun H w => ?_
 refine gSR <| Za rfl <| Zn <| gSR <| Zm rfl <| Zm rfl <| call [] [] rfl Tryz.func143 rfl rfl (slices_IndexFunc_byte_byte_digest_Pieces_1_ok _) (aQ rfl <| aQ rfl <| aN) rN fun r1 n2 => Zq (I.geq rfl rfl) <| Za rfl <| lName 4 rfl fun y3 => Zn <| gRet <| eRet [] [] rfl (eE rfl <| eN) (rN)
def digest_Pieces_L0 (a0 : List (List UInt8)) (s11 : api_Mill × Int) : Option (Sum api_Mill (api_Mill × Int)) :=
 if decide (s11.2 < (a0.length : Int)) then
  idx a0 s11.2 >>= fun x13 =>
  digest_feed s11.1 x13 >>= fun r15 =>
  some (.inr (r15, w64 (s11.2 + 1)))
 else
  some (.inl s11.1)
def digest_Pieces (a0 : List (List UInt8)) : Option ((Vector UInt8 32) × Int) :=
 (if decide (20 < (a0.length : Int)) then
  some true
 else
  slices_ContainsFunc_byte_byte_digest_Pieces_1 a0 >>= fun r4 =>
  some r4) >>= fun s2 =>
 if s2 then
  some ((Vector.replicate 32 0), 4)
 else
  digest_Start >>= fun r7 =>
  (iter (digest_Pieces_L0 a0) (r7, 0)) >>= fun s10 =>
  digest_end s10 >>= fun r17 =>
  some (r17, 0)
theorem digest_Pieces_ok (a0 : List (List UInt8)) : Spec Tryz.prog 90 [.rd (sliceR (sliceR u8R)) a0] [(1001, some ((.bool true), .glob 1 (arrR 64 u32R) gtab1))] (digest_Pieces a0) (fun r nv => ⟨[.rd (arrR 32 u8R) r.1, .rd i64R r.2], [(1001, some (.bool true, .glob 1 (arrR 64 u32R) gtab1))]⟩) := by
 refine spec 28 Tryz.func90 rfl rfl rfl fun H w => ?_
 refine gSR <| Eb rfl (allc 1 ti27 (.zr (R := (arrR 32 u8R)) (x := (Vector.replicate 32 0)) zr26)) fun v1 => Za rfl <| Zn <| gSeq <| gMid (fun (s2 : Bool) aa ww => Sta (ctx 28 H [(1001, some ((.bool true), .glob 1 (arrR 64 u32R) gtab1))] w) [(0, .rd (sliceR (sliceR u8R)) a0), (2, .val (ptrTo v1 0)), (13, .rd boolR s2)] [(1, some (v1, .box 27 [.rd (arrR 32 u8R) (Vector.replicate 32 0)])), (1001, some ((.bool true), .glob 1 (arrR 64 u32R) gtab1))] aa ww) ?_ (fun s2 => ?_)
 ·
  refine gReg <| Zm rfl <| Zq (len' rfl .rd rfl tu126) <| Zq (I.gtr rfl rfl) <| Zm rfl <| lSplit 10 rfl (fun h3 => ?_) (fun h3 => ?_)
  ·
   refine lKn 9 rfl h3 <| Zk rfl <| Zk rfl <| Zq (pkT rfl rfl) <| gNil <| eMid (fun aa ww h => h.sub [1, 1001] (sS rfl <| sS rfl <| sS rfl <| sN) (Zi rfl <| Zi rfl <| rN))
  ·
   refine lKn 9 rfl h3 <| lRun (gd rfl rfl rfl rfl) rfl rfl (mv rfl) <| callg [] [] (gd rfl rfl rfl rfl) rfl Tryz.func117 rfl rfl (slices_ContainsFunc_byte_byte_digest_Pieces_1_ok _) (aQ rfl <| aQ rfl <| aN) rN fun r4 n5 => Zq (pkF rfl rfl) <| gNil <| eMid (fun aa ww h => h.sub [1, 1001] (sS rfl <| sS rfl <| sS rfl <| sN) (Zi rfl <| Zi rfl <| rN))
 ·
  refine gIf rfl rfl (fun h6 => ?_) (fun h6 => ?_)
  ·
   refine gSR <| Zq (bldG (x' := ((Vector.replicate 32 0) : Vector UInt8 32)) tu27 ti27 zr26 ti5 (Bld.done rfl)) <| Es (sto 1 rfl rfl Foc.here rfl ti27) <| Za rfl <| Zn <| gRet <| eTret <| eRet [] [1001] rfl (eC 1 rfl rfl ty27 <| eE rfl <| eN) (Zi rfl <| rN)
  ·
   refine Zt <| gSR <| call [] [] rfl Tryz.func119 rfl rfl (digest_Start_ok) (aN) rN fun r7 n8 => Eb rfl (allc 1002 ti155 (ZrE.rd (R := (arrR 8 u32R)) (x := (Vector.replicate 8 0)) zr141 (ZrE.nilS (ZrE.rd (R := i64R) (x := 0) (Zr.num rfl) ZrE.nil rfl)) rfl)) fun v9 => lPnl u8R [.rd (arrR 8 u32R) (Vector.replicate 8 0), .rd (sliceR u8R) [], .rd i64R 0] 1002 [.rd (arrR 8 u32R) (Vector.replicate 8 0)] [.rd i64R 0] rfl rfl rfl <| lJoi (R := R_api_Mill) (⟨(Vector.replicate 8 0), [], 0⟩ : api_Mill) 1002 rfl (Sp.via (Sp.prod (Sp.prod (Sp.prod Sp.unit)))) <| Es (sto 1002 rfl rfl Foc.here rfl ti155) <| Zn <| gMid (fun (s10 : api_Mill) aa ww => Sta (ctx 28 H [(1001, some ((.bool true), .glob 1 (arrR 64 u32R) gtab1))] w) [(2, .val (ptrTo v1 0)), (4, .val (ptrTo v9 0))] [(1, some (v1, .box 27 [.rd (arrR 32 u8R) (Vector.replicate 32 0)])), (1002, some (v9, .box 155 [.rd R_api_Mill s10])), (1001, some ((.bool true), .glob 1 (arrR 64 u32R) gtab1))] aa ww) ?_ (fun s10 => ?_)
   ·
    refine gSR <| Zm rfl <| Zq (len' rfl .rd rfl tu126) <| Zm rfl <| Zn <| gLoop (fun (s11 : api_Mill × Int) aa ww => Sta (ctx 28 H [(1001, some ((.bool true), .glob 1 (arrR 64 u32R) gtab1))] w) [(2, .val (ptrTo v1 0)), (4, .val (ptrTo v9 0)), (16, .rd (sliceR (sliceR u8R)) a0), (17, .rd i64R (a0.length : Int)), (18, .rd i64R s11.2)] [(1, some (v1, .box 27 [.rd (arrR 32 u8R) (Vector.replicate 32 0)])), (1002, some (v9, .box 155 [.rd R_api_Mill s11.1])), (1001, some ((.bool true), .glob 1 (arrR 64 u32R) gtab1))] aa ww) (fun aa ww h => h.sub [1, 1002, 1001] (Zs rfl rfl rfl rfl <| sS rfl <| sN) (Zi rfl <| Zi rfl <| Zi rfl <| rN)) (fun s11 => ?_)
    refine gSR <| Zq (I.lss rfl rfl) <| Zn <| gSeq <| gIf rfl rfl (fun h12 => ?_) (fun h12 => ?_)
    ·
     refine Zt <| gSeq <| gBlk <| gSR <| lBind fun x13 h14 => Zq (ixR rfl rfl h14 tu126 ti103 rfl) <| Zq (ldR rfl ty103) <| Za rfl <| Zn <| gReg <| Zq (ld 1002 rfl rfl Foc.here ty155 rfl) <| Zm rfl <| call [1001] [] rfl Tryz.func120 rfl rfl (digest_feed_ok _ _) (aQ rfl <| aQ rfl <| aN) (Zi rfl <| rN) fun r15 n16 => Es (sto 1002 rfl rfl Foc.here rfl ti155) <| gNil <| eBlk <| eThen <| gReg <| Zq (I.add rfl rfl) <| Zm rfl <| gNil <| eNext (fun aa ww h => h.sub [1, 1002, 1001] (Zs rfl rfl rfl rfl <| sS rfl <| sN) (Zi rfl <| Zi rfl <| Zi rfl <| rN))
    ·
     refine gExit <| eTexit <| eLeave <| eMid (fun aa ww h => h.sub [1, 1002, 1001] (sS rfl <| sS rfl <| sN) (Zi rfl <| Zi rfl <| Zi rfl <| rN))
   ·
    refine gSR <| Zq (ld 1002 rfl rfl Foc.here ty155 rfl) <| call [1001] [] rfl Tryz.func121 rfl rfl (digest_end_ok _) (aQ rfl <| aN) (Zi rfl <| rN) fun r17 n18 => Es (sto 1 rfl rfl Foc.here rfl ti27) <| Za rfl <| Zn <| gRet <| eRet [] [1001] rfl (eC 1 rfl rfl ty27 <| eE rfl <| eN) (Zi rfl <| rN)
def digest_Sum (a0 : List UInt8) : Option ((Vector UInt8 32) × Int) :=
 digest_Pieces [a0] >>= fun r3 =>
 some (r3.1, r3.2)
theorem digest_Sum_ok (a0 : List UInt8) : Spec Tryz.prog 67 [.rd (sliceR u8R) a0] [(1001, some ((.bool true), .glob 1 (arrR 64 u32R) gtab1))] (digest_Sum a0) (fun r nv => ⟨[.rd (arrR 32 u8R) r.1, .rd i64R r.2], [(1001, some (.bool true, .glob 1 (arrR 64 u32R) gtab1))]⟩) := by
 refine spec 9 Tryz.func67 rfl rfl rfl fun H w => ?_
 refine gSR <| Eb rfl (allc 1 ti27 (.zr (R := (arrR 32 u8R)) (x := (Vector.replicate 32 0)) zr26)) fun v1 => Za rfl <| Zn <| gSR <| Zm rfl <| Ef rfl (lit (R := (sliceR u8R)) ([a0] : List (List UInt8)) 2 (pP rfl rfl <| pN) rfl tu126 ti103 rfl rfl) fun v2 => lFrz 2 [5] rfl (fS rfl <| fN) <| call [1001] [] rfl Tryz.func90 rfl rfl (digest_Pieces_ok _) (aQ rfl <| aN) (Zi rfl <| rN) fun r3 n4 => Zq (ext rfl rfl) <| Zq (ext rfl rfl) <| Es (sto 1 rfl rfl Foc.here rfl ti27) <| Za rfl <| Zn <| gRet <| eRet [] [1001] rfl (eC 1 rfl rfl ty27 <| eE rfl <| eN) (Zi rfl <| rN)
def op_ID (a0 : api_Op) : Option ((Vector UInt8 32) × Int) :=
 op_Encode a0 >>= fun r3 =>
 if r3.2 != 0 then
  some ((Vector.replicate 32 0), r3.2)
 else
  digest_Sum r3.1 >>= fun r6 =>
  some (r6.1, r6.2)
theorem op_ID_ok (a0 : api_Op) : Spec Tryz.prog 54 [.rd R_api_Op a0] [(1001, some ((.bool true), .glob 1 (arrR 64 u32R) gtab1))] (op_ID a0) (fun r nv => ⟨[.rd (arrR 32 u8R) r.1, .rd i64R r.2], [(1001, some (.bool true, .glob 1 (arrR 64 u32R) gtab1))]⟩) := by
 refine spec 19 Tryz.func54 rfl rfl rfl fun H w => ?_
 refine gSR <| Eb rfl (bx 1 rfl) fun v1 => Eb rfl (allc 2 ti27 (.zr (R := (arrR 32 u8R)) (x := (Vector.replicate 32 0)) zr26)) fun v2 => Za rfl <| Zn <| gSR <| Zq (ld 1 rfl rfl Foc.here ty65 rfl) <| call [] [(100, 3)] rfl Tryz.func66 rfl rfl (op_Encode_ok _) (aQ rfl <| aN) rN fun r3 n4 => Zm rfl <| Zq (ext rfl rfl) <| Zq (ext rfl rfl) <| Za rfl <| Za rfl <| Zn <| gSeq <| gSR <| Zm rfl <| Zq (I.neq rfl rfl) <| Zn <| gIf rfl rfl (fun h5 => ?_) (fun h5 => ?_)
 ·
  refine gSR <| Zq (bldG (x' := ((Vector.replicate 32 0) : Vector UInt8 32)) tu27 ti27 zr26 ti5 (Bld.done rfl)) <| Zm rfl <| Es (sto 2 rfl rfl Foc.here rfl ti27) <| Za rfl <| Zn <| gRet <| eTret <| eRet [] [1001] rfl (eC 2 rfl rfl ty27 <| eE rfl <| eN) (Zi rfl <| rN)
 ·
  refine Zt <| gSR <| Zm rfl <| lFrz 3 [9, 4, 15] rfl (fS rfl <| fS rfl <| fS rfl <| fN) <| call [1001] [] rfl Tryz.func67 rfl rfl (digest_Sum_ok _) (aQ rfl <| aN) (Zi rfl <| rN) fun r6 n7 => Zq (ext rfl rfl) <| Zq (ext rfl rfl) <| Es (sto 2 rfl rfl Foc.here rfl ti27) <| Za rfl <| Zn <| gRet <| eRet [] [1001] rfl (eC 2 rfl rfl ty27 <| eE rfl <| eN) (Zi rfl <| rN)
def group_all_L0 (a0 : List UInt32) (s2 : Int) : Option (Sum (Sum Bool Unit) Int) :=
 if decide (s2 < (a0.length : Int)) then
  idx a0 s2 >>= fun x4 =>
  group_Is x4 >>= fun r6 =>
  if !r6 then
   some (.inl (.inl false))
  else
   some (.inr (w64 (s2 + 1)))
 else
  some (.inl (.inr ()))
def group_all (a0 : List UInt32) : Option (Bool) :=
 orRet (iter (group_all_L0 a0) 0) fun s1 =>
 some true
theorem group_all_ok (a0 : List UInt32) : Spec Tryz.prog 127 [.rd (sliceR u32R) a0] [] (group_all a0) (fun r nv => ⟨[.rd boolR r], []⟩) := by
 refine spec 15 Tryz.func127 rfl rfl rfl fun H w => ?_
 refine gSR <| Za rfl <| Zn <| gMidR (fun (s1 : Unit) aa ww => Sta (ctx 15 H [] w) [] [] aa ww) ?_ (fun s1 => ?_)
 ·
  refine gSR <| Zm rfl <| Zq (len' rfl .rd rfl tu188) <| Zm rfl <| Zn <| gLoop (fun (s2 : Int) aa ww => Sta (ctx 15 H [] w) [(5, .rd (sliceR u32R) a0), (6, .rd i64R (a0.length : Int)), (7, .rd i64R s2)] [] aa ww) (fun aa ww h => h.sub [] (sS rfl <| sS rfl <| sS rfl <| sN) (rN)) (fun s2 => ?_)
  refine gSR <| Zq (I.lss rfl rfl) <| Zn <| gSeq <| gIf rfl rfl (fun h3 => ?_) (fun h3 => ?_)
  ·
   refine Zt <| gSeq <| gBlk <| gSR <| lBind fun x4 h5 => Zq (ixR rfl rfl h5 tu188 ti56 rfl) <| Zq (ldR rfl ty56) <| Za rfl <| Zn <| gSR <| Zm rfl <| call [] [] rfl Tryz.func92 rfl rfl (group_Is_ok _) (aQ rfl <| aN) rN fun r6 n7 => Zq (not' rfl) <| Zn <| gIf rfl rfl (fun h8 => ?_) (fun h8 => ?_)
   ·
    refine gSR <| Za rfl <| Zn <| gRet <| eBret <| eTret <| eLret <| eMret <| eRet [] [] rfl (eE rfl <| eN) (rN)
   ·
    refine gSkip <| eBlk <| eThen <| gReg <| Zq (I.add rfl rfl) <| Zm rfl <| gNil <| eNext (fun aa ww h => h.sub [] (sS rfl <| sS rfl <| sS rfl <| sN) (rN))
  ·
   refine gExit <| eTexit <| eLeave <| eMidR (fun aa ww h => h.sub [] (sN) (rN))
 ·
  refine gSR <| Za rfl <| Zn <| gRet <| eRet [] [] rfl (eE rfl <| eN) (rN)
def group_Pow (a0 : UInt32) (a1 : UInt64) : Option (UInt32 × Int) :=
 group_all [a0] >>= fun r2 =>
 if !r2 then
  some (0, 2)
 else
  group_pow a0 a1 >>= fun r5 =>
  some (r5, 0)
theorem group_Pow_ok (a0 : UInt32) (a1 : UInt64) : Spec Tryz.prog 97 [.rd u32R a0, .rd u64R a1] [] (group_Pow a0 a1) (fun r nv => ⟨[.rd u32R r.1, .rd i64R r.2], []⟩) := by
 refine spec 13 Tryz.func97 rfl rfl rfl fun H w => ?_
 refine gSR <| Za rfl <| Za rfl <| Zn <| gSeq <| gSR <| Zm rfl <| Ef rfl (lit (R := u32R) ([a0] : List UInt32) 1 (pP rfl rfl <| pN) rfl tu188 ti56 rfl rfl) fun v1 => lFrz 1 [7] rfl (fS rfl <| fN) <| call [] [] rfl Tryz.func127 rfl rfl (group_all_ok _) (aQ rfl <| aN) rN fun r2 n3 => Zq (not' rfl) <| Zn <| gIf rfl rfl (fun h4 => ?_) (fun h4 => ?_)
 ·
  refine gSR <| Za rfl <| Za rfl <| Zn <| gRet <| eTret <| eRet [] [] rfl (eE rfl <| eE rfl <| eN) (rN)
 ·
  refine Zt <| gSR <| Zm rfl <| Zm rfl <| call [] [] rfl Tryz.func122 rfl rfl (group_pow_ok _ _) (aQ rfl <| aQ rfl <| aN) rN fun r5 n6 => Za rfl <| Za rfl <| Zn <| gRet <| eRet [] [] rfl (eE rfl <| eE rfl <| eN) (rN)
def group_Base (a0 : UInt64) : Option (UInt32) :=
 group_pow 4 a0 >>= fun r1 =>
 some r1
theorem group_Base_ok (a0 : UInt64) : Spec Tryz.prog 99 [.rd u64R a0] [] (group_Base a0) (fun r nv => ⟨[.rd u32R r], []⟩) := by
 refine spec 5 Tryz.func99 rfl rfl rfl fun H w => ?_
 refine gSR <| Za rfl <| Zn <| gSR <| Zm rfl <| call [] [] rfl Tryz.func122 rfl rfl (group_pow_ok _ _) (aQ rfl <| aQ rfl <| aN) rN fun r1 n2 => Za rfl <| Zn <| gRet <| eRet [] [] rfl (eE rfl <| eN) (rN)
def group_Mul (a0 : UInt32) (a1 : UInt32) : Option (UInt32 × Int) :=
 group_all [a0, a1] >>= fun r2 =>
 if !r2 then
  some (0, 2)
 else
  group_mul 1000000007 [a0, a1] >>= fun r6 =>
  some (r6, 0)
theorem group_Mul_ok (a0 : UInt32) (a1 : UInt32) : Spec Tryz.prog 98 [.rd u32R a0, .rd u32R a1] [] (group_Mul a0 a1) (fun r nv => ⟨[.rd u32R r.1, .rd i64R r.2], []⟩) := by
 refine spec 15 Tryz.func98 rfl rfl rfl fun H w => ?_
 refine gSR <| Za rfl <| Za rfl <| Zn <| gSeq <| gSR <| Zm rfl <| Zm rfl <| Ef rfl (lit (R := u32R) ([a0, a1] : List UInt32) 1 (pP rfl rfl <| pP rfl rfl <| pN) rfl tu188 ti56 rfl rfl) fun v1 => lFrz 1 [8] rfl (fS rfl <| fN) <| call [] [] rfl Tryz.func127 rfl rfl (group_all_ok _) (aQ rfl <| aN) rN fun r2 n3 => Zq (not' rfl) <| Zn <| gIf rfl rfl (fun h4 => ?_) (fun h4 => ?_)
 ·
  refine gSR <| Za rfl <| Za rfl <| Zn <| gRet <| eTret <| eRet [] [] rfl (eE rfl <| eE rfl <| eN) (rN)
 ·
  refine Zt <| gSR <| Zm rfl <| Zm rfl <| Ef rfl (lit (R := u32R) ([a0, a1] : List UInt32) 2 (pP rfl rfl <| pP rfl rfl <| pN) rfl tu188 ti56 rfl rfl) fun v5 => lFrz 2 [13] rfl (fS rfl <| fN) <| call [] [] rfl Tryz.func128 rfl rfl (group_mul_ok _ _) (aQ rfl <| aQ rfl <| aN) rN fun r6 n7 => Za rfl <| Za rfl <| Zn <| gRet <| eRet [] [] rfl (eE rfl <| eE rfl <| eN) (rN)
def sign_hash_L0 (a2 : List UInt32) (s4 : (List UInt8) × Int) : Option (Sum ((List UInt8)) ((List UInt8) × Int)) :=
 if decide (s4.2 < (a2.length : Int)) then
  idx a2 s4.2 >>= fun x7 =>
  app 1 s4.1 [(shr32 x7 24).toUInt8, (shr32 x7 16).toUInt8, (shr32 x7 8).toUInt8, x7.toUInt8] >>= fun x10 =>
  some (.inr (x10, w64 (s4.2 + 1)))
 else
  some (.inl s4.1)
def sign_hash_L2 (r15 : (Vector UInt8 32) × Int) (s19 : UInt64 × Int) : Option (Sum UInt64 (UInt64 × Int)) :=
 if decide (s19.2 < (((r15.1.toList.drop 0).take 8).length : Int)) then
  idx ((r15.1.toList.drop 0).take 8) s19.2 >>= fun x21 =>
  some ((shl64 s19.1 8) ||| x21.toUInt64) >>= fun y23 =>
  some (.inr (y23, w64 (s19.2 + 1)))
 else
  some (.inl s19.1)
def sign_hash (a0 : UInt8) (a1 : List UInt8) (a2 : List UInt32) : Option (UInt64 × Int) :=
 if decide (9991 < (a1.length : Int)) then
  some (0, 4)
 else
  (iter (sign_hash_L0 a2) ([a0], 0)) >>= fun s3 =>
  digest_Pieces [s3, a1] >>= fun r15 =>
  (iter (sign_hash_L2 r15) (0, 0)) >>= fun s18 =>
  some (s18, r15.2)
theorem sign_hash_ok (a0 : UInt8) (a1 : List UInt8) (a2 : List UInt32) : Spec Tryz.prog 129 [.rd u8R a0, .rd (sliceR u8R) a1, .rd (sliceR u32R) a2] [(1001, some ((.bool true), .glob 1 (arrR 64 u32R) gtab1))] (sign_hash a0 a1 a2) (fun r nv => ⟨[.rd u64R r.1, .rd i64R r.2], [(1001, some (.bool true, .glob 1 (arrR 64 u32R) gtab1))]⟩) := by
 refine spec 63 Tryz.func129 rfl rfl rfl fun H w => ?_
 refine gSR <| Za rfl <| Za rfl <| Zn <| gSeq <| gSR <| Zm rfl <| Zq (len' rfl .rd rfl tu103) <| Zq (I.gtr rfl rfl) <| Zn <| gIf rfl rfl (fun h1 => ?_) (fun h1 => ?_)
 ·
  refine gSR <| Za rfl <| Za rfl <| Zn <| gRet <| eTret <| eRet [] [1001] rfl (eE rfl <| eE rfl <| eN) (Zi rfl <| rN)
 ·
  refine Zt <| gSR <| Zm rfl <| Ef rfl (lit (R := u8R) ([a0] : List UInt8) 1 (pP rfl rfl <| pN) rfl tu103 ti5 rfl rfl) fun v2 => Za rfl <| Zn <| gMid (fun (s3 : (List UInt8)) aa ww => ∃ nv : Nat → Value, Sta (ctx 63 H [(1001, some ((.bool true), .glob 1 (arrR 64 u32R) gtab1))] w) [(1, .rd (sliceR u8R) a1), (8, .val (nv 0))] [(1, some ((nv 0), .list u8R 5 s3)), (1001, some ((.bool true), .glob 1 (arrR 64 u32R) gtab1))] aa ww) ?_ (fun s3 => ?_)
  ·
   refine gSR <| Zm rfl <| Zq (len' rfl .rd rfl tu188) <| Zm rfl <| Zn <| gLoop (fun (s4 : (List UInt8) × Int) aa ww => ∃ nv : Nat → Value, Sta (ctx 63 H [(1001, some ((.bool true), .glob 1 (arrR 64 u32R) gtab1))] w) [(1, .rd (sliceR u8R) a1), (8, .val (nv 0)), (21, .rd (sliceR u32R) a2), (22, .rd i64R (a2.length : Int)), (23, .rd i64R s4.2)] [(1, some ((nv 0), .list u8R 5 s4.1)), (1001, some ((.bool true), .glob 1 (arrR 64 u32R) gtab1))] aa ww) (fun aa ww h => ⟨nvl [v2], h.sub [1, 1001] (Zs rfl rfl rfl rfl <| sS rfl <| sN) (Zi rfl <| Zi rfl <| rN)⟩) (fun s4 => ?_)
   refine gEx fun n5 => gSR <| Zq (I.lss rfl rfl) <| Zn <| gSeq <| gIf rfl rfl (fun h6 => ?_) (fun h6 => ?_)
   ·
    refine Zt <| gSeq <| gBlk <| gSR <| lBind fun x7 h8 => Zq (ixR rfl rfl h8 tu188 ti56 rfl) <| Zq (ldR rfl ty56) <| Za rfl <| Zn <| gReg <| Zm rfl <| Zm rfl <| Zq (W.shr rfl rfl (Int.natCast_nonneg _)) <| Zq (W.toB rfl tu56 tu5) <| Zm rfl <| Zq (W.shr rfl rfl (Int.natCast_nonneg _)) <| Zq (W.toB rfl tu56 tu5) <| Zm rfl <| Zq (W.shr rfl rfl (Int.natCast_nonneg _)) <| Zq (W.toB rfl tu56 tu5) <| Zm rfl <| Zq (W.toB rfl tu56 tu5) <| Ef rfl (lit (R := u8R) ([(shr32 x7 24).toUInt8, (shr32 x7 16).toUInt8, (shr32 x7 8).toUInt8, x7.toUInt8] : List UInt8) 1002 (pP rfl rfl <| pP rfl rfl <| pP rfl rfl <| pP rfl rfl <| pN) rfl tu103 ti5 rfl rfl) fun v9 => lBind fun x10 h11 => Ef rfl (apn 1 rfl rfl rfl (.own 1002 rfl) h11 tu103 ti5 rfl rfl rfl) fun v12 => Za rfl <| gNil <| eBlk <| eThen <| gReg <| Zq (I.add rfl rfl) <| Zm rfl <| gNil <| eNext (fun aa ww h => ⟨nvl [v12], h.sub [1, 1001] (Zs rfl rfl rfl rfl <| sS rfl <| sN) (Zi rfl <| Zi rfl <| rN)⟩)
   ·
    refine gExit <| eTexit <| eLeave <| eMid (fun aa ww h => ⟨nvl [(n5 0)], h.sub [1, 1001] (sS rfl <| sS rfl <| sN) (Zi rfl <| Zi rfl <| rN)⟩)
  ·
   refine gEx fun n13 => gSR <| Zm rfl <| Zm rfl <| lFrz 1 [8, 43] rfl (fS rfl <| fS rfl <| fN) <| Ef rfl (lit (R := (sliceR u8R)) ([s3, a1] : List (List UInt8)) 1003 (pP rfl rfl <| pP rfl rfl <| pN) rfl tu126 ti103 rfl rfl) fun v14 => lFrz 1003 [45] rfl (fS rfl <| fN) <| call [1001] [] rfl Tryz.func90 rfl rfl (digest_Pieces_ok _) (aQ rfl <| aN) (Zi rfl <| rN) fun r15 n16 => Zm rfl <| Zq (ext rfl rfl) <| Zq (ext rfl rfl) <| Eb rfl (allc 1004 ti27 (.zr (R := (arrR 32 u8R)) (x := (Vector.replicate 32 0)) zr26)) fun v17 => Es (sto 1004 rfl rfl Foc.here rfl ti27) <| Za rfl <| Zn <| gSR <| Za rfl <| Zn <| gMid (fun (s18 : UInt64) aa ww => Sta (ctx 63 H [(1001, some ((.bool true), .glob 1 (arrR 64 u32R) gtab1))] w) [(12, .rd i64R r15.2), (13, .rd u64R s18)] [(1001, some ((.bool true), .glob 1 (arrR 64 u32R) gtab1))] aa ww) ?_ (fun s18 => ?_)
   ·
    refine gSR <| lFrzB 1004 11 rfl rfl <| Zq (cutVp (i := 0) (j := 8) rfl .no (.to rfl) tu27 ti5 (by decide) rfl rfl rfl) <| Zq (len' rfl .rd rfl tu103) <| Zm rfl <| Zn <| gLoop (fun (s19 : UInt64 × Int) aa ww => Sta (ctx 63 H [(1001, some ((.bool true), .glob 1 (arrR 64 u32R) gtab1))] w) [(12, .rd i64R r15.2), (13, .rd u64R s19.1), (49, .rd (sliceR u8R) ((r15.1.toList.drop 0).take 8)), (50, .rd i64R (((r15.1.toList.drop 0).take 8).length : Int)), (51, .rd i64R s19.2)] [(1001, some ((.bool true), .glob 1 (arrR 64 u32R) gtab1))] aa ww) (fun aa ww h => h.sub [1001] (Zs rfl rfl rfl rfl <| sS rfl <| sN) (Zi rfl <| rN)) (fun s19 => ?_)
    refine gSR <| Zq (I.lss rfl rfl) <| Zn <| gSeq <| gIf rfl rfl (fun h20 => ?_) (fun h20 => ?_)
    ·
     refine Zt <| gSeq <| gBlk <| gSR <| lBind fun x21 h22 => Zq (ixR rfl rfl h22 tu103 ti5 rfl) <| Zq (ldR rfl ty5) <| Za rfl <| Zn <| gReg <| Zm rfl <| Zq (U.shl rfl rfl (Int.natCast_nonneg _)) <| Zm rfl <| Zq (B.toU rfl tu5 tu57) <| Zq (U.or rfl rfl) <| Za rfl <| lName 13 rfl fun y23 => gNil <| eBlk <| eThen <| gReg <| Zq (I.add rfl rfl) <| Zm rfl <| gNil <| eNext (fun aa ww h => h.sub [1001] (Zs rfl rfl rfl rfl <| sS rfl <| sN) (Zi rfl <| rN))
    ·
     refine gExit <| eTexit <| eLeave <| eMid (fun aa ww h => h.sub [1001] (sS rfl <| sS rfl <| sN) (Zi rfl <| rN))
   ·
    refine gSR <| Zm rfl <| Zm rfl <| Za rfl <| Za rfl <| Zn <| gRet <| eRet [] [1001] rfl (eE rfl <| eE rfl <| eN) (Zi rfl <| rN)
def sign_Challenge (a0 : UInt32) (a1 : UInt32) (a2 : List UInt8) : Option (UInt32 × Int) :=
 sign_hash 99 a2 [a0, a1] >>= fun r2 =>
 if r2.2 != 0 then
  some (0, r2.2)
 else
  some ((r2.1 % 500000003).toUInt32) >>= fun y5 =>
  some (y5, 0)
theorem sign_Challenge_ok (a0 : UInt32) (a1 : UInt32) (a2 : List UInt8) : Spec Tryz.prog 100 [.rd u32R a0, .rd u32R a1, .rd (sliceR u8R) a2] [(1001, some ((.bool true), .glob 1 (arrR 64 u32R) gtab1))] (sign_Challenge a0 a1 a2) (fun r nv => ⟨[.rd u32R r.1, .rd i64R r.2], [(1001, some (.bool true, .glob 1 (arrR 64 u32R) gtab1))]⟩) := by
 refine spec 24 Tryz.func100 rfl rfl rfl fun H w => ?_
 refine gSR <| Za rfl <| Za rfl <| Zn <| gSR <| Zm rfl <| Zm rfl <| Zm rfl <| Ef rfl (lit (R := u32R) ([a0, a1] : List UInt32) 1 (pP rfl rfl <| pP rfl rfl <| pN) rfl tu188 ti56 rfl rfl) fun v1 => lFrz 1 [14] rfl (fS rfl <| fN) <| call [1001] [] rfl Tryz.func129 rfl rfl (sign_hash_ok _ _ _) (aQ rfl <| aQ rfl <| aQ rfl <| aN) (Zi rfl <| rN) fun r2 n3 => Zm rfl <| Zq (ext rfl rfl) <| Zq (ext rfl rfl) <| Za rfl <| Za rfl <| Zn <| gSeq <| gSR <| Zm rfl <| Zq (I.neq rfl rfl) <| Zn <| gIf rfl rfl (fun h4 => ?_) (fun h4 => ?_)
 ·
  refine gSR <| Zm rfl <| Za rfl <| Za rfl <| Zn <| gRet <| eTret <| eRet [] [1001] rfl (eE rfl <| eE rfl <| eN) (Zi rfl <| rN)
 ·
  refine Zt <| gSR <| Zm rfl <| Zq (U.rem rfl rfl (by decide)) <| Zq (U.toW rfl tu57 tu56) <| Za rfl <| lName 6 rfl fun y5 => Za rfl <| Zn <| gRet <| eRet [] [1001] rfl (eE rfl <| eE rfl <| eN) (Zi rfl <| rN)
def sign_Verify (a0 : UInt32) (a1 : List UInt8) (a2 : api_Sig) : Option (Int) :=
 group_Is a0 >>= fun r2 =>
 if !r2 then
  some 2
 else
  if decide (9991 < (a1.length : Int)) then
   some 4
  else
   if decide (500000003 ≤ (max a2.E a2.S)) then
    some 22
   else
    group_Pow a0 (500000003 - a2.E.toUInt64) >>= fun r7 =>
    group_Base a2.S.toUInt64 >>= fun r9 =>
    group_Mul r9 r7.1 >>= fun r11 =>
    sign_Challenge r11.1 a0 a1 >>= fun r13 =>
    if r13.2 != 0 then
     some 22
    else
     if r13.1 != a2.E then
      some 22
     else
      some 0
theorem sign_Verify_ok (a0 : UInt32) (a1 : List UInt8) (a2 : api_Sig) : Spec Tryz.prog 70 [.rd u32R a0, .rd (sliceR u8R) a1, .rd R_api_Sig a2] [(1001, some ((.bool true), .glob 1 (arrR 64 u32R) gtab1))] (sign_Verify a0 a1 a2) (fun r nv => ⟨[.rd i64R r], [(1001, some (.bool true, .glob 1 (arrR 64 u32R) gtab1))]⟩) := by
 refine spec 58 Tryz.func70 rfl rfl rfl fun H w => ?_
 refine gSR <| Eb rfl (bx 1 rfl) fun v1 => Za rfl <| Zn <| gSeq <| gSR <| Zm rfl <| call [] [] rfl Tryz.func92 rfl rfl (group_Is_ok _) (aQ rfl <| aN) rN fun r2 n3 => Zq (not' rfl) <| Zn <| gIf rfl rfl (fun h4 => ?_) (fun h4 => ?_)
 ·
  refine gSR <| Za rfl <| Zn <| gRet <| eTret <| eRet [] [1001] rfl (eE rfl <| eN) (Zi rfl <| rN)
 ·
  refine Zt <| gSeq <| gSR <| Zm rfl <| Zq (len' rfl .rd rfl tu103) <| Zq (I.gtr rfl rfl) <| Zn <| gIf rfl rfl (fun h5 => ?_) (fun h5 => ?_)
  ·
   refine gSR <| Za rfl <| Zn <| gRet <| eTret <| eRet [] [1001] rfl (eE rfl <| eN) (Zi rfl <| rN)
  ·
   refine Zt <| gSeq <| gSR <| Zq (faB 1 rfl rfl Tryz.underlying63 rfl (by exact ti56)) <| Zq (ld 1 rfl rfl ((Foc.here).part (pt_api_Sig_E _)) ty56 rfl) <| Zq (faB 1 rfl rfl Tryz.underlying63 rfl (by exact ti56)) <| Zq (ld 1 rfl rfl ((Foc.here).part (pt_api_Sig_S _)) ty56 rfl) <| Zq (W.max rfl rfl) <| Zq (W.geq rfl rfl) <| Zn <| gIf rfl rfl (fun h6 => ?_) (fun h6 => ?_)
   ·
    refine gSR <| Za rfl <| Zn <| gRet <| eTret <| eRet [] [1001] rfl (eE rfl <| eN) (Zi rfl <| rN)
   ·
    refine Zt <| gSR <| Zm rfl <| Zq (faB 1 rfl rfl Tryz.underlying63 rfl (by exact ti56)) <| Zq (ld 1 rfl rfl ((Foc.here).part (pt_api_Sig_E _)) ty56 rfl) <| Zq (W.toU rfl tu56 tu57) <| Zq (U.sub rfl rfl) <| call [] [] rfl Tryz.func97 rfl rfl (group_Pow_ok _ _) (aQ rfl <| aQ rfl <| aN) rN fun r7 n8 => Zm rfl <| Zq (ext rfl rfl) <| Zq (ext rfl rfl) <| Za rfl <| Za rfl <| Zn <| gSR <| Zq (faB 1 rfl rfl Tryz.underlying63 rfl (by exact ti56)) <| Zq (ld 1 rfl rfl ((Foc.here).part (pt_api_Sig_S _)) ty56 rfl) <| Zq (W.toU rfl tu56 tu57) <| call [] [] rfl Tryz.func99 rfl rfl (group_Base_ok _) (aQ rfl <| aN) rN fun r9 n10 => Zm rfl <| call [] [] rfl Tryz.func98 rfl rfl (group_Mul_ok _ _) (aQ rfl <| aQ rfl <| aN) rN fun r11 n12 => Zm rfl <| Zq (ext rfl rfl) <| Zq (ext rfl rfl) <| Za rfl <| Za rfl <| Zn <| gSeq <| gSR <| Zm rfl <| Zm rfl <| Zm rfl <| call [1001] [] rfl Tryz.func100 rfl rfl (sign_Challenge_ok _ _ _) (aQ rfl <| aQ rfl <| aQ rfl <| aN) (Zi rfl <| rN) fun r13 n14 => Zm rfl <| Zq (ext rfl rfl) <| Zq (ext rfl rfl) <| Za rfl <| Za rfl <| Zn <| gSR <| Zm rfl <| Zq (I.neq rfl rfl) <| Zm rfl <| lSplit 52 rfl (fun h15 => ?_) (fun h15 => ?_)
    ·
     refine lKn 51 rfl h15 <| Zk rfl <| Zk rfl <| Zk rfl <| Zk rfl <| Zq (pkT rfl rfl) <| Zn <| gTrue rfl <| gSR <| Za rfl <| Zn <| gRet <| eTret <| eRet [] [1001] rfl (eE rfl <| eN) (Zi rfl <| rN)
    ·
     refine lKn 51 rfl h15 <| lRun (gd rfl rfl rfl rfl) rfl rfl (mv rfl) <| lRun (gd rfl rfl rfl rfl) rfl rfl (faB 1 rfl rfl Tryz.underlying63 rfl (by exact ti56)) <| lRun (gd rfl rfl rfl rfl) rfl rfl (ld 1 rfl rfl ((Foc.here).part (pt_api_Sig_E _)) ty56 rfl) <| lRun (gd rfl rfl rfl rfl) rfl rfl (W.neq rfl rfl) <| Zq (pkF rfl rfl) <| Zn <| gIf rfl rfl (fun h16 => ?_) (fun h16 => ?_)
     ·
      refine gKn 56 rfl h16 <| gSR <| Za rfl <| Zn <| gRet <| eTret <| eRet [] [1001] rfl (eE rfl <| eN) (Zi rfl <| rN)
     ·
      refine gKn 56 rfl h16 <| Zt <| gSR <| Za rfl <| Zn <| gRet <| eRet [] [1001] rfl (eE rfl <| eN) (Zi rfl <| rN)
def op_Verify (a0 : api_Op) : Option (Int) :=
 op_Check a0 >>= fun r2 =>
 if r2 != 0 then
  some r2
 else
  op_Message a0 >>= fun r5 =>
  sign_Verify a0.Author r5.1 a0.Sig >>= fun r7 =>
  some r7
theorem op_Verify_ok (a0 : api_Op) : Spec Tryz.prog 55 [.rd R_api_Op a0] [(1001, some ((.bool true), .glob 1 (arrR 64 u32R) gtab1))] (op_Verify a0) (fun r nv => ⟨[.rd i64R r], [(1001, some (.bool true, .glob 1 (arrR 64 u32R) gtab1))]⟩) := by
 refine spec 22 Tryz.func55 rfl rfl rfl fun H w => ?_
 refine gSR <| Eb rfl (bx 1 rfl) fun v1 => Za rfl <| Zn <| gSeq <| gSR <| Zq (ld 1 rfl rfl Foc.here ty65 rfl) <| call [] [] rfl Tryz.func68 rfl rfl (op_Check_ok _) (aQ rfl <| aN) rN fun r2 n3 => Za rfl <| Zn <| gSR <| Zm rfl <| Zq (I.neq rfl rfl) <| Zn <| gIf rfl rfl (fun h4 => ?_) (fun h4 => ?_)
 ·
  refine gSR <| Zm rfl <| Za rfl <| Zn <| gRet <| eTret <| eRet [] [1001] rfl (eE rfl <| eN) (Zi rfl <| rN)
 ·
  refine Zt <| gSR <| Zq (ld 1 rfl rfl Foc.here ty65 rfl) <| call [] [(100, 2)] rfl Tryz.func69 rfl rfl (op_Message_ok _) (aQ rfl <| aN) rN fun r5 n6 => Zm rfl <| Zq (ext rfl rfl) <| Zq (ext rfl rfl) <| Za rfl <| Za rfl <| Zn <| gSR <| Zq (faB 1 rfl rfl Tryz.underlying65 rfl (by exact ti56)) <| Zq (ld 1 rfl rfl ((Foc.here).part (pt_api_Op_Author _)) ty56 rfl) <| Zm rfl <| Zq (faB 1 rfl rfl Tryz.underlying65 rfl (by exact ti63)) <| Zq (ld 1 rfl rfl ((Foc.here).part (pt_api_Op_Sig _)) ty63 rfl) <| lFrz 2 [14, 4, 18] rfl (fS rfl <| fS rfl <| fS rfl <| fN) <| call [1001] [] rfl Tryz.func70 rfl rfl (sign_Verify_ok _ _ _) (aQ rfl <| aQ rfl <| aQ rfl <| aN) (Zi rfl <| rN) fun r7 n8 => Za rfl <| Zn <| gRet <| eRet [] [1001] rfl (eE rfl <| eN) (Zi rfl <| rN)
def braidref04_Number_L0 (s4 : UInt64 × (List UInt8)) : Option (Sum ((List UInt8)) (UInt64 × (List UInt8))) :=
 if decide (0 < s4.1) then
  app 1 s4.2 [(s4.1 % 256).toUInt8] >>= fun x8 =>
  some (.inr (s4.1 / 256, x8))
 else
  some (.inl s4.2)
def braidref04_Number_L2 (s3 : (List UInt8)) (s15 : (List UInt8) × Int) : Option (Sum ((List UInt8)) ((List UInt8) × Int)) :=
 if decide (0 ≤ s15.2) then
  idx s3 s15.2 >>= fun x18 =>
  app 1 s15.1 [x18] >>= fun x21 =>
  some (w64 (s15.2 - 1)) >>= fun y24 =>
  some (.inr (x21, y24))
 else
  some (.inl s15.1)
def braidref04_Number (a0 : UInt64) : Option ((List UInt8)) :=
 if decide (a0 ≤ 247) then
  some [a0.toUInt8]
 else
  (iter (braidref04_Number_L0) (a0, [])) >>= fun s3 =>
  (some (w64 ((s3.length : Int) - 1)) >>= fun y14 =>
  iter (braidref04_Number_L2 s3) ([UInt8.ofInt (w64 (247 + (s3.length : Int)))], y14)) >>= fun s13 =>
  some s13
theorem braidref04_Number_ok (a0 : UInt64) : Spec Tryz.prog 110 [.rd u64R a0] [] (braidref04_Number a0) (fun r nv => ⟨[.val (nv 0)], [(100, some (nv 0, .list u8R 5 r))]⟩) := by
 refine spec 41 Tryz.func110 rfl rfl rfl fun H w => ?_
 refine gSR <| Za rfl <| Zn <| gSeq <| gSR <| Zm rfl <| Zq (U.leq rfl rfl) <| Zn <| gIf rfl rfl (fun h1 => ?_) (fun h1 => ?_)
 ·
  refine gSR <| Zm rfl <| Zq (U.toB rfl tu57 tu5) <| Ef rfl (lit (R := u8R) ([a0.toUInt8] : List UInt8) 1 (pP rfl rfl <| pN) rfl tu103 ti5 rfl rfl) fun v2 => Za rfl <| Zn <| gRet <| eTret <| eRet [v2] [1] rfl (eE rfl <| eN) (Zi rfl <| rN)
 ·
  refine Zt <| gSR <| Za rfl <| Zn <| gMid (fun (s3 : (List UInt8)) aa ww => ∃ nv : Nat → Value, Sta (ctx 41 H [] w) [(3, .val (nv 0))] [(3, some ((nv 0), .list u8R 5 s3))] aa ww) ?_ (fun s3 => ?_)
  ·
   refine gNew u8R 5 6 <| gLoop (fun (s4 : UInt64 × (List UInt8)) aa ww => ∃ nv : Nat → Value, Sta (ctx 41 H [] w) [(0, .rd u64R s4.1), (3, .val (nv 0))] [(5, some ((nv 0), .list u8R 5 s4.2))] aa ww) (fun aa ww h => ⟨nvl [(.slice none 0 0)], h.sub [6] (sS rfl <| sS rfl <| sN) (Zi rfl <| rN)⟩) (fun s4 => ?_)
   refine gEx fun n5 => gSeq <| gSR <| Zm rfl <| Zq (U.gtr rfl rfl) <| Zn <| gIf rfl rfl (fun h6 => ?_) (fun h6 => ?_)
   ·
    refine Zt <| gBlk <| gSR <| Zm rfl <| Zm rfl <| Zq (U.rem rfl rfl (by decide)) <| Zq (U.toB rfl tu57 tu5) <| Ef rfl (lit (R := u8R) ([(s4.1 % 256).toUInt8] : List UInt8) 7 (pP rfl rfl <| pN) rfl tu103 ti5 rfl rfl) fun v7 => lBind fun x8 h9 => Ef rfl (apn 5 rfl rfl rfl (.own 7 rfl) h9 tu103 ti5 rfl rfl rfl) fun v10 => Za rfl <| Zn <| gReg <| Zm rfl <| Zq (U.quo rfl rfl (by decide)) <| Za rfl <| gNil <| eBlk <| eNext (fun aa ww h => ⟨nvl [v10], h.sub [5] (sS rfl <| sS rfl <| sN) (Zi rfl <| rN)⟩)
   ·
    refine gExit <| eTexit <| eLeave <| eMid (fun aa ww h => ⟨nvl [(n5 0)], h.sub [5] (sS rfl <| sN) (Zi rfl <| rN)⟩)
  ·
   refine gEx fun n11 => gSR <| Zm rfl <| Zq (len' rfl (.own 3 rfl) rfl tu103) <| Zq (I.add rfl rfl) <| Zq (I.toB rfl tu3 tu5) <| Ef rfl (lit (R := u8R) ([UInt8.ofInt (w64 (247 + (s3.length : Int)))] : List UInt8) 8 (pP rfl rfl <| pN) rfl tu103 ti5 rfl rfl) fun v12 => Za rfl <| Zn <| gMid (fun (s13 : (List UInt8)) aa ww => ∃ nv : Nat → Value, Sta (ctx 41 H [] w) [(4, .val (nv 0))] [(8, some ((nv 0), .list u8R 5 s13))] aa ww) ?_ (fun s13 => ?_)
   ·
    refine gSR <| Zm rfl <| Zq (len' rfl (.own 3 rfl) rfl tu103) <| Zq (I.sub rfl rfl) <| Za rfl <| lName 5 rfl fun y14 => Zn <| gLoop (fun (s15 : (List UInt8) × Int) aa ww => ∃ nv : Nat → Value, Sta (ctx 41 H [] w) [(3, .val (n11 0)), (4, .val (nv 0)), (5, .rd i64R s15.2)] [(3, some ((n11 0), .list u8R 5 s3)), (8, some ((nv 0), .list u8R 5 s15.1))] aa ww) (fun aa ww h => ⟨nvl [v12], h.sub [3, 8] (sS rfl <| sS rfl <| sS rfl <| sN) (Zi rfl <| Zi rfl <| rN)⟩) (fun s15 => ?_)
    refine gEx fun n16 => gSeq <| gSR <| Zm rfl <| Zq (I.geq rfl rfl) <| Zn <| gIf rfl rfl (fun h17 => ?_) (fun h17 => ?_)
    ·
     refine Zt <| gSeq <| gBlk <| gReg <| Zm rfl <| Zm rfl <| Zm rfl <| lBind fun x18 h19 => Zq (ixO 3 rfl rfl rfl h19 tu103 ti5) <| Zq (ld 3 rfl rfl (Foc.el h19) ty5 rfl) <| Ef rfl (lit (R := u8R) ([x18] : List UInt8) 9 (pP rfl rfl <| pN) rfl tu103 ti5 rfl rfl) fun v20 => lBind fun x21 h22 => Ef rfl (apn 8 rfl rfl rfl (.own 9 rfl) h22 tu103 ti5 rfl rfl rfl) fun v23 => Za rfl <| gNil <| eBlk <| eThen <| gReg <| Zm rfl <| Zq (I.sub rfl rfl) <| Za rfl <| lName 5 rfl fun y24 => gNil <| eNext (fun aa ww h => ⟨nvl [v23], h.sub [3, 8] (sS rfl <| sS rfl <| sS rfl <| sN) (Zi rfl <| Zi rfl <| rN)⟩)
    ·
     refine gExit <| eTexit <| eLeave <| eMid (fun aa ww h => ⟨nvl [(n16 0)], h.sub [8] (sS rfl <| sN) (Zi rfl <| rN)⟩)
   ·
    refine gEx fun n25 => gSR <| Zm rfl <| Za rfl <| Zn <| gRet <| eRet [(n25 0)] [8] rfl (eE rfl <| eN) (Zi rfl <| rN)
def braidref04_List_L0 (a0 : List (Vector UInt8 32)) (s4 : (List UInt8) × Int) : Option (Sum ((List UInt8)) ((List UInt8) × Int)) :=
 if decide (s4.2 < (a0.length : Int)) then
  idx a0 s4.2 >>= fun x7 =>
  app 1 s4.1 x7.toList >>= fun x9 =>
  some (w64 (s4.2 + 1)) >>= fun y12 =>
  some (.inr (x9, y12))
 else
  some (.inl s4.1)
def braidref04_List (a0 : List (Vector UInt8 32)) : Option ((List UInt8)) :=
 braidref04_Number (UInt64.ofInt (a0.length : Int)) >>= fun r1 =>
 (iter (braidref04_List_L0 a0) (r1, 0)) >>= fun s3 =>
 some s3
theorem braidref04_List_ok (a0 : List (Vector UInt8 32)) : Spec Tryz.prog 138 [.rd (sliceR (arrR 32 u8R)) a0] [] (braidref04_List a0) (fun r nv => ⟨[.val (nv 0)], [(100, some (nv 0, .list u8R 5 r))]⟩) := by
 refine spec 22 Tryz.func138 rfl rfl rfl fun H w => ?_
 refine gSR <| Za rfl <| Zn <| gSR <| Zm rfl <| Zq (len' rfl .rd rfl tu22) <| Zq (I.toU rfl tu3 tu57) <| call [] [(100, 1)] rfl Tryz.func110 rfl rfl (braidref04_Number_ok _) (aQ rfl <| aN) rN fun r1 n2 => Za rfl <| Zn <| gMid (fun (s3 : (List UInt8)) aa ww => ∃ nv : Nat → Value, Sta (ctx 22 H [] w) [(3, .val (nv 0))] [(1, some ((nv 0), .list u8R 5 s3))] aa ww) ?_ (fun s3 => ?_)
 ·
  refine gSR <| Za rfl <| Zn <| gLoop (fun (s4 : (List UInt8) × Int) aa ww => ∃ nv : Nat → Value, Sta (ctx 22 H [] w) [(0, .rd (sliceR (arrR 32 u8R)) a0), (3, .val (nv 0)), (4, .rd i64R s4.2)] [(1, some ((nv 0), .list u8R 5 s4.1))] aa ww) (fun aa ww h => ⟨nvl [(n2 0)], h.sub [1] (sS rfl <| sS rfl <| sS rfl <| sN) (Zi rfl <| rN)⟩) (fun s4 => ?_)
  refine gEx fun n5 => gSeq <| gSR <| Zm rfl <| Zm rfl <| Zq (len' rfl .rd rfl tu22) <| Zq (I.lss rfl rfl) <| Zn <| gIf rfl rfl (fun h6 => ?_) (fun h6 => ?_)
  ·
   refine Zt <| gSeq <| gBlk <| gReg <| Zm rfl <| Zm rfl <| Zm rfl <| lBind fun x7 h8 => Zq (ixR rfl rfl h8 tu22 ti27 rfl) <| Zq (cutV rfl tu27 ti5 rfl rfl rfl) <| lBind fun x9 h10 => Ef rfl (apn 1 rfl rfl rfl .rd h10 tu103 ti5 rfl rfl rfl) fun v11 => Za rfl <| gNil <| eBlk <| eThen <| gReg <| Zm rfl <| Zq (I.add rfl rfl) <| Za rfl <| lName 4 rfl fun y12 => gNil <| eNext (fun aa ww h => ⟨nvl [v11], h.sub [1] (sS rfl <| sS rfl <| sS rfl <| sN) (Zi rfl <| rN)⟩)
  ·
   refine gExit <| eTexit <| eLeave <| eMid (fun aa ww h => ⟨nvl [(n5 0)], h.sub [1] (sS rfl <| sN) (Zi rfl <| rN)⟩)
 ·
  refine gEx fun n13 => gSR <| Zm rfl <| Za rfl <| Zn <| gRet <| eRet [(n13 0)] [1] rfl (eE rfl <| eN) (Zi rfl <| rN)
def braidref04_Text (a0 : List UInt8) : Option ((List UInt8)) :=
 braidref04_Number (UInt64.ofInt (a0.length : Int)) >>= fun r1 =>
 app 1 r1 a0 >>= fun x3 =>
 some x3
theorem braidref04_Text_ok (a0 : List UInt8) : Spec Tryz.prog 139 [.rd (sliceR u8R) a0] [] (braidref04_Text a0) (fun r nv => ⟨[.val (nv 0)], [(100, some (nv 0, .list u8R 5 r))]⟩) := by
 refine spec 9 Tryz.func139 rfl rfl rfl fun H w => ?_
 refine gSR <| Za rfl <| Zn <| gSR <| Zm rfl <| Zq (len' rfl .rd rfl tu103) <| Zq (I.toU rfl tu3 tu57) <| call [] [(100, 1)] rfl Tryz.func110 rfl rfl (braidref04_Number_ok _) (aQ rfl <| aN) rN fun r1 n2 => Zm rfl <| lBind fun x3 h4 => Ef rfl (apn 1 rfl rfl rfl .rd h4 tu103 ti5 rfl rfl rfl) fun v5 => Za rfl <| Zn <| gRet <| eRet [v5] [1] rfl (eE rfl <| eN) (Zi rfl <| rN)
def braidref04_Signed (a0 : Int) : Option ((List UInt8)) :=
 if decide (0 ≤ a0) then
  braidref04_Number (2 * (UInt64.ofInt a0)) >>= fun r2 =>
  some r2
 else
  braidref04_Number ((2 * (UInt64.ofInt (w64 (0 - (w64 (a0 + 1)))))) + 1) >>= fun r4 =>
  some r4
theorem braidref04_Signed_ok (a0 : Int) : Spec Tryz.prog 158 [.rd i64R a0] [] (braidref04_Signed a0) (fun r nv => ⟨[.val (nv 0)], [(100, some (nv 0, .list u8R 5 r))]⟩) := by
 refine spec 16 Tryz.func158 rfl rfl rfl fun H w => ?_
 refine gSR <| Za rfl <| Zn <| gSeq <| gSR <| Zm rfl <| Zq (I.geq rfl rfl) <| Zn <| gIf rfl rfl (fun h1 => ?_) (fun h1 => ?_)
 ·
  refine gSR <| Zm rfl <| Zq (I.toU rfl Tryz.underlying2 tu57) <| Zq (U.mul rfl rfl) <| call [] [(100, 1)] rfl Tryz.func110 rfl rfl (braidref04_Number_ok _) (aQ rfl <| aN) rN fun r2 n3 => Za rfl <| Zn <| gRet <| eTret <| eRet [(n3 0)] [1] rfl (eE rfl <| eN) (Zi rfl <| rN)
 ·
  refine Zt <| gSR <| Zm rfl <| Zq (I.add rfl rfl) <| Zq (I.neg rfl) <| Zq (I.toU rfl Tryz.underlying2 tu57) <| Zq (U.mul rfl rfl) <| Zq (U.add rfl rfl) <| call [] [(100, 2)] rfl Tryz.func110 rfl rfl (braidref04_Number_ok _) (aQ rfl <| aN) rN fun r4 n5 => Za rfl <| Zn <| gRet <| eRet [(n5 0)] [2] rfl (eE rfl <| eN) (Zi rfl <| rN)
def braidref05_Bytes_L1 (a0 : api_Value) (s11 : (List UInt8) × Int) : Option (Sum ((List UInt8)) ((List UInt8) × Int)) :=
 if decide (0 ≤ s11.2) then
  chk (0 ≤ w64 (8 * s11.2)) >>= fun u14 =>
  app 1 s11.1 [(shr64 a0.Bits ((w64 (8 * s11.2) : Int).toNat)).toUInt8] >>= fun x17 =>
  some (w64 (s11.2 - 1)) >>= fun y20 =>
  some (.inr (x17, y20))
 else
  some (.inl s11.1)
def braidref05_Bytes (a0 : api_Value) : Option ((List UInt8)) :=
 if a0.Kind == 1 then
  braidref04_Signed a0.Num >>= fun r4 =>
  app 1 [a0.Kind] r4 >>= fun x6 =>
  some x6
 else
  if a0.Kind == 2 then
   (iter (braidref05_Bytes_L1 a0) ([a0.Kind], 7)) >>= fun s10 =>
   some s10
  else
   chk (a0.Text.length ≤ 281474976710656) >>= fun u22 =>
   braidref04_Text a0.Text >>= fun r24 =>
   app 1 [a0.Kind] r24 >>= fun x26 =>
   some x26
theorem braidref05_Bytes_ok (a0 : api_Value) : Spec Tryz.prog 140 [.rd R_api_Value a0] [] (braidref05_Bytes a0) (fun r nv => ⟨[.val (nv 0)], [(100, some (nv 0, .list u8R 5 r))]⟩) := by
 refine spec 39 Tryz.func140 rfl rfl rfl fun H w => ?_
 refine gSR <| Eb rfl (bx 1 rfl) fun v1 => Za rfl <| Zn <| gSR <| Zq (faB 1 rfl rfl Tryz.underlying59 rfl (by exact ti5)) <| Zq (ld 1 rfl rfl ((Foc.here).part (pt_api_Value_Kind _)) ty5 rfl) <| Ef rfl (lit (R := u8R) ([a0.Kind] : List UInt8) 2 (pP rfl rfl <| pN) rfl tu103 ti5 rfl rfl) fun v2 => Za rfl <| Zn <| gSeq <| gSR <| Zq (faB 1 rfl rfl Tryz.underlying59 rfl (by exact ti5)) <| Zq (ld 1 rfl rfl ((Foc.here).part (pt_api_Value_Kind _)) ty5 rfl) <| Zn <| gBlk <| gSR <| Zq (B.eql rfl rfl) <| Za rfl <| Zn <| gIf rfl rfl (fun h3 => ?_) (fun h3 => ?_)
 ·
  refine gKn 11 rfl h3 <| gSR <| Zm rfl <| Zq (faB 1 rfl rfl Tryz.underlying59 rfl (by exact ti2)) <| Zq (ld 1 rfl rfl ((Foc.here).part (pt_api_Value_Num _)) ty2 rfl) <| call [] [(100, 3)] rfl Tryz.func158 rfl rfl (braidref04_Signed_ok _) (aQ rfl <| aN) rN fun r4 n5 => lBind fun x6 h7 => Ef rfl (apn 2 rfl rfl rfl (.own 3 rfl) h7 tu103 ti5 rfl rfl rfl) fun v8 => Za rfl <| Zn <| gRet <| eBret <| eTret <| eRet [v8] [2] rfl (eE rfl <| eN) (Zi rfl <| rN)
 ·
  refine gKn 11 rfl h3 <| gSR <| Zq (B.eql rfl rfl) <| Za rfl <| Zn <| gIf rfl rfl (fun h9 => ?_) (fun h9 => ?_)
  ·
   refine gKn 18 rfl h9 <| gMid (fun (s10 : (List UInt8)) aa ww => ∃ nv : Nat → Value, Sta (ctx 39 H [] w) [(3, .val (nv 0))] [(2, some ((nv 0), .list u8R 5 s10))] aa ww) ?_ (fun s10 => ?_)
   ·
    refine gSR <| Za rfl <| Zn <| gLoop (fun (s11 : (List UInt8) × Int) aa ww => ∃ nv : Nat → Value, Sta (ctx 39 H [] w) [(1, .val (ptrTo v1 0)), (3, .val (nv 0)), (4, .rd i64R s11.2)] [(1, some (v1, .box 59 [.rd R_api_Value a0])), (2, some ((nv 0), .list u8R 5 s11.1))] aa ww) (fun aa ww h => ⟨nvl [v2], h.sub [1, 2] (sS rfl <| sS rfl <| sS rfl <| sN) (Zi rfl <| Zi rfl <| rN)⟩) (fun s11 => ?_)
    refine gEx fun n12 => gSeq <| gSR <| Zm rfl <| Zq (I.geq rfl rfl) <| Zn <| gIf rfl rfl (fun h13 => ?_) (fun h13 => ?_)
    ·
     refine Zt <| gSeq <| gBlk <| gReg <| Zm rfl <| Zq (faB 1 rfl rfl Tryz.underlying59 rfl (by exact ti57)) <| Zq (ld 1 rfl rfl ((Foc.here).part (pt_api_Value_Bits _)) ty57 rfl) <| Zm rfl <| Zq (I.mul rfl rfl) <| lBind fun u14 h15 => Zq (U.shr rfl rfl (chk_some h15)) <| Zq (U.toB rfl tu57 tu5) <| Ef rfl (lit (R := u8R) ([(shr64 a0.Bits ((w64 (8 * s11.2) : Int).toNat)).toUInt8] : List UInt8) 4 (pP rfl rfl <| pN) rfl tu103 ti5 rfl rfl) fun v16 => lBind fun x17 h18 => Ef rfl (apn 2 rfl rfl rfl (.own 4 rfl) h18 tu103 ti5 rfl rfl rfl) fun v19 => Za rfl <| gNil <| eBlk <| eThen <| gReg <| Zm rfl <| Zq (I.sub rfl rfl) <| Za rfl <| lName 4 rfl fun y20 => gNil <| eNext (fun aa ww h => ⟨nvl [v19], h.sub [1, 2] (sS rfl <| sS rfl <| sS rfl <| sN) (Zi rfl <| Zi rfl <| rN)⟩)
    ·
     refine gExit <| eTexit <| eLeave <| eMid (fun aa ww h => ⟨nvl [(n12 0)], h.sub [2] (sS rfl <| sN) (Zi rfl <| rN)⟩)
   ·
    refine gEx fun n21 => gSR <| Zm rfl <| Za rfl <| Zn <| gRet <| eBret <| eTret <| eRet [(n21 0)] [2] rfl (eE rfl <| eN) (Zi rfl <| rN)
  ·
   refine gKn 18 rfl h9 <| gSkip <| eBlk <| eThen <| gSR <| Zm rfl <| Zq (faB 1 rfl rfl Tryz.underlying59 rfl (by exact ti9)) <| Zq (ld 1 rfl rfl ((Foc.here).part (pt_api_Value_Text _)) ty9 rfl) <| lBind fun u22 h23 => lCvSB rfl rfl h23 tu9 tu103 tu5 <| call [] [(100, 5)] rfl Tryz.func139 rfl rfl (braidref04_Text_ok _) (aQ rfl <| aN) rN fun r24 n25 => lBind fun x26 h27 => Ef rfl (apn 2 rfl rfl rfl (.own 5 rfl) h27 tu103 ti5 rfl rfl rfl) fun v28 => Za rfl <| Zn <| gRet <| eRet [v28] [2] rfl (eE rfl <| eN) (Zi rfl <| rN)
def braidref06_text (a0 : api_Op) : Option ((List UInt8)) :=
 braidref04_Number a0.Author.toUInt64 >>= fun r3 =>
 app 1 [111] r3 >>= fun x5 =>
 braidref04_List a0.Preds >>= fun r8 =>
 app 1 x5 r8 >>= fun x10 =>
 braidref04_Number a0.Stamp >>= fun r13 =>
 app 1 x10 r13 >>= fun x15 =>
 app 1 x15 [a0.Act.Kind] >>= fun x19 =>
 (if a0.Act.Kind != 1 then
  chk (a0.Act.Key.length ≤ 281474976710656) >>= fun u24 =>
  braidref04_Text a0.Act.Key >>= fun r26 =>
  app 1 x19 r26 >>= fun x28 =>
  some x28
 else
  some x19) >>= fun s22 =>
 if a0.Act.Kind == 4 then
  braidref05_Bytes a0.Act.Value >>= fun r33 =>
  app 1 s22 r33 >>= fun x35 =>
  some x35
 else
  some s22
theorem braidref06_text_ok (a0 : api_Op) : Spec Tryz.prog 105 [.rd R_api_Op a0] [] (braidref06_text a0) (fun r nv => ⟨[.val (nv 0)], [(100, some (nv 0, .list u8R 5 r))]⟩) := by
 refine spec 47 Tryz.func105 rfl rfl rfl fun H w => ?_
 refine gSR <| Eb rfl (bx 1 rfl) fun v1 => Za rfl <| Zn <| gSR <| Ef rfl (lit (R := u8R) ([111] : List UInt8) 2 (pP rfl rfl <| pN) rfl tu103 ti5 rfl rfl) fun v2 => Zq (faB 1 rfl rfl Tryz.underlying65 rfl (by exact ti56)) <| Zq (ld 1 rfl rfl ((Foc.here).part (pt_api_Op_Author _)) ty56 rfl) <| Zq (W.toU rfl tu56 tu57) <| call [] [(100, 3)] rfl Tryz.func110 rfl rfl (braidref04_Number_ok _) (aQ rfl <| aN) rN fun r3 n4 => lBind fun x5 h6 => Ef rfl (apn 2 rfl rfl rfl (.own 3 rfl) h6 tu103 ti5 rfl rfl rfl) fun v7 => Za rfl <| Zn <| gSeq <| gRegH [2, 13, 25] mixed rfl rfl <| hTk 0 rfl rfl (mv rfl) <| hTk 1 rfl rfl (faB 1 rfl rfl Tryz.underlying65 rfl (by exact ti22)) <| hTk 2 rfl rfl (ld 1 rfl rfl ((Foc.here).part (pt_api_Op_Preds _)) ty22 rfl) <| hTk 5 rfl rfl (faB 1 rfl rfl Tryz.underlying65 rfl (by exact ti57)) <| hTk 6 rfl rfl (ld 1 rfl rfl ((Foc.here).part (pt_api_Op_Stamp _)) ty57 rfl) <| hCallF 3 [] [(100, 13)] rfl (by kernel_rfl) rfl (gd0 rfl) rfl Tryz.func138 rfl rfl (braidref04_List_ok _) (aQ rfl <| aN) rN rfl (fun _ _ => flat_val) fun r8 n9 => hBind fun x10 h11 => Zo 4 rfl rfl rfl (apn 2 rfl rfl rfl (.own 13 rfl) h11 tu103 ti5 rfl rfl rfl) (fun _ => rfl) fun v12 => hCallF 7 [] [(100, 25)] rfl (by kernel_rfl) rfl (gd0 rfl) rfl Tryz.func110 rfl rfl (braidref04_Number_ok _) (aQ rfl <| aN) rN rfl (fun _ _ => flat_val) fun r13 n14 => hBind fun x15 h16 => Zo 8 rfl rfl rfl (apn 2 rfl rfl rfl (.own 25 rfl) h16 tu103 ti5 rfl rfl rfl) (fun _ => rfl) fun v17 => hTakeF 9 rfl (by kernel_rfl) (by kernel_rfl) (by kernel_rfl) (gd0 rfl) rfl rfl flat_val (asg rfl) <| hDone (by kernel_rfl) <| eThen <| gSR <| Zm rfl <| Zq (faB 1 rfl rfl Tryz.underlying65 rfl (by exact ti61)) <| Zq (faB 1 rfl rfl Tryz.underlying61 rfl (by exact ti5)) <| Zq (ld 1 rfl rfl (((Foc.here).part (pt_api_Op_Act _)).part (pt_api_Act_Kind _)) ty5 rfl) <| Ef rfl (lit (R := u8R) ([a0.Act.Kind] : List UInt8) 37 (pP rfl rfl <| pN) rfl tu103 ti5 rfl rfl) fun v18 => lBind fun x19 h20 => Ef rfl (apn 2 rfl rfl rfl (.own 37 rfl) h20 tu103 ti5 rfl rfl rfl) fun v21 => Za rfl <| Zn <| gMid (fun (s22 : (List UInt8)) aa ww => ∃ nv : Nat → Value, Sta (ctx 47 H [] w) [(1, .val (ptrTo v1 0)), (3, .val (nv 0))] [(1, some (v1, .box 65 [.rd R_api_Op a0])), (2, some ((nv 0), .list u8R 5 s22))] aa ww) ?_ (fun s22 => ?_)
 ·
  refine gSR <| Zq (faB 1 rfl rfl Tryz.underlying65 rfl (by exact ti61)) <| Zq (faB 1 rfl rfl Tryz.underlying61 rfl (by exact ti5)) <| Zq (ld 1 rfl rfl (((Foc.here).part (pt_api_Op_Act _)).part (pt_api_Act_Kind _)) ty5 rfl) <| Zq (B.neq rfl rfl) <| Zn <| gIf rfl rfl (fun h23 => ?_) (fun h23 => ?_)
  ·
   refine gReg <| Zm rfl <| Zq (faB 1 rfl rfl Tryz.underlying65 rfl (by exact ti61)) <| Zq (faB 1 rfl rfl Tryz.underlying61 rfl (by exact ti9)) <| Zq (ld 1 rfl rfl (((Foc.here).part (pt_api_Op_Act _)).part (pt_api_Act_Key _)) ty9 rfl) <| lBind fun u24 h25 => lCvSB rfl rfl h25 tu9 tu103 tu5 <| call [] [(100, 38)] rfl Tryz.func139 rfl rfl (braidref04_Text_ok _) (aQ rfl <| aN) rN fun r26 n27 => lBind fun x28 h29 => Ef rfl (apn 2 rfl rfl rfl (.own 38 rfl) h29 tu103 ti5 rfl rfl rfl) fun v30 => Za rfl <| gNil <| eMid (fun aa ww h => ⟨nvl [v30], h.sub [1, 2] (sS rfl <| sS rfl <| sN) (Zi rfl <| Zi rfl <| rN)⟩)
  ·
   refine gSkip <| eMid (fun aa ww h => ⟨nvl [v21], h.sub [1, 2] (sS rfl <| sS rfl <| sN) (Zi rfl <| Zi rfl <| rN)⟩)
 ·
  refine gEx fun n31 => gSeq <| gSR <| Zq (faB 1 rfl rfl Tryz.underlying65 rfl (by exact ti61)) <| Zq (faB 1 rfl rfl Tryz.underlying61 rfl (by exact ti5)) <| Zq (ld 1 rfl rfl (((Foc.here).part (pt_api_Op_Act _)).part (pt_api_Act_Kind _)) ty5 rfl) <| Zq (B.eql rfl rfl) <| Zn <| gIf rfl rfl (fun h32 => ?_) (fun h32 => ?_)
  ·
   refine gReg <| Zm rfl <| Zq (faB 1 rfl rfl Tryz.underlying65 rfl (by exact ti61)) <| Zq (faB 1 rfl rfl Tryz.underlying61 rfl (by exact ti59)) <| Zq (ld 1 rfl rfl (((Foc.here).part (pt_api_Op_Act _)).part (pt_api_Act_Value _)) ty59 rfl) <| call [] [(100, 39)] rfl Tryz.func140 rfl rfl (braidref05_Bytes_ok _) (aQ rfl <| aN) rN fun r33 n34 => lBind fun x35 h36 => Ef rfl (apn 2 rfl rfl rfl (.own 39 rfl) h36 tu103 ti5 rfl rfl rfl) fun v37 => Za rfl <| Zn <| gSR <| Zm rfl <| Za rfl <| Zn <| gRet <| eRet [v37] [2] rfl (eE rfl <| eN) (Zi rfl <| rN)
  ·
   refine Zt <| gSR <| Zm rfl <| Za rfl <| Zn <| gRet <| eRet [(n31 0)] [2] rfl (eE rfl <| eN) (Zi rfl <| rN)
def braidref06_Bytes (a0 : api_Op) : Option ((List UInt8)) :=
 braidref06_text a0 >>= fun r2 =>
 braidref04_Number a0.Sig.E.toUInt64 >>= fun r4 =>
 app 1 r2 r4 >>= fun x6 =>
 braidref04_Number a0.Sig.S.toUInt64 >>= fun r9 =>
 app 1 x6 r9 >>= fun x11 =>
 some x11
theorem braidref06_Bytes_ok (a0 : api_Op) : Spec Tryz.prog 75 [.rd R_api_Op a0] [] (braidref06_Bytes a0) (fun r nv => ⟨[.val (nv 0)], [(100, some (nv 0, .list u8R 5 r))]⟩) := by
 refine spec 17 Tryz.func75 rfl rfl rfl fun H w => ?_
 refine gSR <| Eb rfl (bx 1 rfl) fun v1 => Za rfl <| Zn <| gSeq <| gRegH [5, 20, 38] mixed rfl rfl <| hTk 0 rfl rfl (ld 1 rfl rfl Foc.here ty65 rfl) <| hTk 2 rfl rfl (faB 1 rfl rfl Tryz.underlying65 rfl (by exact ti63)) <| hTk 3 rfl rfl (faB 1 rfl rfl Tryz.underlying63 rfl (by exact ti56)) <| hTk 4 rfl rfl (ld 1 rfl rfl (((Foc.here).part (pt_api_Op_Sig _)).part (pt_api_Sig_E _)) ty56 rfl) <| hTk 5 rfl rfl (W.toU rfl tu56 tu57) <| hTk 8 rfl rfl (faB 1 rfl rfl Tryz.underlying65 rfl (by exact ti63)) <| hTk 9 rfl rfl (faB 1 rfl rfl Tryz.underlying63 rfl (by exact ti56)) <| hTk 10 rfl rfl (ld 1 rfl rfl (((Foc.here).part (pt_api_Op_Sig _)).part (pt_api_Sig_S _)) ty56 rfl) <| hTk 11 rfl rfl (W.toU rfl tu56 tu57) <| hCallF 1 [] [(100, 5)] rfl (by kernel_rfl) rfl (gd0 rfl) rfl Tryz.func105 rfl rfl (braidref06_text_ok _) (aQ rfl <| aN) rN rfl (fun _ _ => flat_val) fun r2 n3 => hCallF 6 [] [(100, 20)] rfl (by kernel_rfl) rfl (gd0 rfl) rfl Tryz.func110 rfl rfl (braidref04_Number_ok _) (aQ rfl <| aN) rN rfl (fun _ _ => flat_val) fun r4 n5 => hBind fun x6 h7 => Zo 7 rfl rfl rfl (apn 5 rfl rfl rfl (.own 20 rfl) h7 tu103 ti5 rfl rfl rfl) (fun _ => rfl) fun v8 => hCallF 12 [] [(100, 38)] rfl (by kernel_rfl) rfl (gd0 rfl) rfl Tryz.func110 rfl rfl (braidref04_Number_ok _) (aQ rfl <| aN) rN rfl (fun _ _ => flat_val) fun r9 n10 => hBind fun x11 h12 => Zo 13 rfl rfl rfl (apn 5 rfl rfl rfl (.own 38 rfl) h12 tu103 ti5 rfl rfl rfl) (fun _ => rfl) fun v13 => hTakeF 14 rfl (by kernel_rfl) (by kernel_rfl) (by kernel_rfl) (gd0 rfl) rfl rfl flat_val (asg rfl) <| hDone (by kernel_rfl) <| eThen <| gRet <| eRet [v13] [5] rfl (eE rfl <| eN) (Zi rfl <| rN)
def braidref01_First  : Option ((Vector UInt32 8)) :=
 some (#v[1779033703, 3144134277, 1013904242, 2773480762, 1359893119, 2600822924, 528734635, 1541459225] : Vector UInt32 8)
theorem braidref01_First_ok  : Spec Tryz.prog 108 [] [] (braidref01_First) (fun r nv => ⟨[.rd (arrR 8 u32R) r], []⟩) := by
 refine spec 2 Tryz.func108 rfl rfl rfl fun H w => ?_
 refine gSR <| Eb rfl (allc 1 ti141 (.zr (R := (arrR 8 u32R)) (x := (Vector.replicate 8 0)) zr141)) fun v1 => Zn <| gSR <| Zq (litA (R := u32R) [1779033703, 3144134277, 1013904242, 2773480762, 1359893119, 2600822924, 528734635, 1541459225] (#v[1779033703, 3144134277, 1013904242, 2773480762, 1359893119, 2600822924, 528734635, 1541459225] : Vector UInt32 8) (pP rfl rfl <| pP rfl rfl <| pP rfl rfl <| pP rfl rfl <| pP rfl rfl <| pP rfl rfl <| pP rfl rfl <| pP rfl rfl <| pN) rfl tu141 ti141 rfl ti56) <| Es (sto 1 rfl rfl Foc.here rfl ti141) <| Zn <| gRet <| eRet [] [] rfl (eC 1 rfl rfl ty141 <| eN) (rN)
def braidref01_tail_L0 (a0 : Int) (s3 : (List UInt8)) : Option (Sum ((List UInt8)) ((List UInt8))) :=
 if (Int.tmod (w64 ((w64 (a0 + (s3.length : Int))) + 8)) 64) != 0 then
  app 1 s3 [0] >>= fun x7 =>
  some (.inr x7)
 else
  some (.inl s3)
def braidref01_tail_L2 (a0 : Int) (s12 : (List UInt8) × Int) : Option (Sum ((List UInt8)) ((List UInt8) × Int)) :=
 if decide (0 ≤ s12.2) then
  chk (0 ≤ w64 (8 * s12.2)) >>= fun u15 =>
  app 1 s12.1 [(shr64 (8 * (UInt64.ofInt a0)) ((w64 (8 * s12.2) : Int).toNat)).toUInt8] >>= fun x18 =>
  some (w64 (s12.2 - 1)) >>= fun y21 =>
  some (.inr (x18, y21))
 else
  some (.inl s12.1)
def braidref01_tail (a0 : Int) : Option ((List UInt8)) :=
 (iter (braidref01_tail_L0 a0) [128]) >>= fun s2 =>
 (iter (braidref01_tail_L2 a0) (s2, 7)) >>= fun s11 =>
 some s11
theorem braidref01_tail_ok (a0 : Int) : Spec Tryz.prog 109 [.rd i64R a0] [] (braidref01_tail a0) (fun r nv => ⟨[.val (nv 0)], [(100, some (nv 0, .list u8R 5 r))]⟩) := by
 refine spec 31 Tryz.func109 rfl rfl rfl fun H w => ?_
 refine gSR <| Za rfl <| Zn <| gSR <| Ef rfl (lit (R := u8R) ([128] : List UInt8) 1 (pP rfl rfl <| pN) rfl tu103 ti5 rfl rfl) fun v1 => Za rfl <| Zn <| gMid (fun (s2 : (List UInt8)) aa ww => ∃ nv : Nat → Value, Sta (ctx 31 H [] w) [(0, .rd i64R a0), (3, .val (nv 0))] [(1, some ((nv 0), .list u8R 5 s2))] aa ww) ?_ (fun s2 => ?_)
 ·
  refine gLoop (fun (s3 : (List UInt8)) aa ww => ∃ nv : Nat → Value, Sta (ctx 31 H [] w) [(0, .rd i64R a0), (3, .val (nv 0))] [(1, some ((nv 0), .list u8R 5 s3))] aa ww) (fun aa ww h => ⟨nvl [v1], h.sub [1] (sS rfl <| sS rfl <| sN) (Zi rfl <| rN)⟩) (fun s3 => ?_)
  refine gEx fun n4 => gSeq <| gSR <| Zm rfl <| Zm rfl <| Zq (len' rfl (.own 1 rfl) rfl tu103) <| Zq (I.add rfl rfl) <| Zq (I.add rfl rfl) <| Zq (I.rem rfl rfl (by decide)) <| Zq (I.neq rfl rfl) <| Zn <| gIf rfl rfl (fun h5 => ?_) (fun h5 => ?_)
  ·
   refine Zt <| gBlk <| gReg <| Zm rfl <| Ef rfl (lit (R := u8R) ([0] : List UInt8) 2 (pP rfl rfl <| pN) rfl tu103 ti5 rfl rfl) fun v6 => lBind fun x7 h8 => Ef rfl (apn 1 rfl rfl rfl (.own 2 rfl) h8 tu103 ti5 rfl rfl rfl) fun v9 => Za rfl <| gNil <| eBlk <| eNext (fun aa ww h => ⟨nvl [v9], h.sub [1] (sS rfl <| sS rfl <| sN) (Zi rfl <| rN)⟩)
  ·
   refine gExit <| eTexit <| eLeave <| eMid (fun aa ww h => ⟨nvl [(n4 0)], h.sub [1] (sS rfl <| sS rfl <| sN) (Zi rfl <| rN)⟩)
 ·
  refine gEx fun n10 => gMid (fun (s11 : (List UInt8)) aa ww => ∃ nv : Nat → Value, Sta (ctx 31 H [] w) [(3, .val (nv 0))] [(1, some ((nv 0), .list u8R 5 s11))] aa ww) ?_ (fun s11 => ?_)
  ·
   refine gSR <| Za rfl <| Zn <| gLoop (fun (s12 : (List UInt8) × Int) aa ww => ∃ nv : Nat → Value, Sta (ctx 31 H [] w) [(0, .rd i64R a0), (3, .val (nv 0)), (4, .rd i64R s12.2)] [(1, some ((nv 0), .list u8R 5 s12.1))] aa ww) (fun aa ww h => ⟨nvl [(n10 0)], h.sub [1] (sS rfl <| sS rfl <| sS rfl <| sN) (Zi rfl <| rN)⟩) (fun s12 => ?_)
   refine gEx fun n13 => gSeq <| gSR <| Zm rfl <| Zq (I.geq rfl rfl) <| Zn <| gIf rfl rfl (fun h14 => ?_) (fun h14 => ?_)
   ·
    refine Zt <| gSeq <| gBlk <| gReg <| Zm rfl <| Zm rfl <| Zq (I.toU rfl tu3 tu57) <| Zq (U.mul rfl rfl) <| Zm rfl <| Zq (I.mul rfl rfl) <| lBind fun u15 h16 => Zq (U.shr rfl rfl (chk_some h16)) <| Zq (U.toB rfl tu57 tu5) <| Ef rfl (lit (R := u8R) ([(shr64 (8 * (UInt64.ofInt a0)) ((w64 (8 * s12.2) : Int).toNat)).toUInt8] : List UInt8) 3 (pP rfl rfl <| pN) rfl tu103 ti5 rfl rfl) fun v17 => lBind fun x18 h19 => Ef rfl (apn 1 rfl rfl rfl (.own 3 rfl) h19 tu103 ti5 rfl rfl rfl) fun v20 => Za rfl <| gNil <| eBlk <| eThen <| gReg <| Zm rfl <| Zq (I.sub rfl rfl) <| Za rfl <| lName 4 rfl fun y21 => gNil <| eNext (fun aa ww h => ⟨nvl [v20], h.sub [1] (sS rfl <| sS rfl <| sS rfl <| sN) (Zi rfl <| rN)⟩)
   ·
    refine gExit <| eTexit <| eLeave <| eMid (fun aa ww h => ⟨nvl [(n13 0)], h.sub [1] (sS rfl <| sN) (Zi rfl <| rN)⟩)
  ·
   refine gEx fun n22 => gSR <| Zm rfl <| Za rfl <| Zn <| gRet <| eRet [(n22 0)] [1] rfl (eE rfl <| eN) (Zi rfl <| rN)
def braidref01_turn (a0 : UInt32) (a1 : Int) : Option (UInt32) :=
 chk (0 ≤ a1) >>= fun u1 =>
 chk (0 ≤ w64 (32 - a1)) >>= fun u3 =>
 some ((shr32 a0 ((a1 : Int).toNat)) ||| (shl32 a0 ((w64 (32 - a1) : Int).toNat))) >>= fun y5 =>
 some y5
theorem braidref01_turn_ok (a0 : UInt32) (a1 : Int) : Spec Tryz.prog 159 [.rd u32R a0, .rd i64R a1] [] (braidref01_turn a0 a1) (fun r nv => ⟨[.rd u32R r], []⟩) := by
 refine spec 13 Tryz.func159 rfl rfl rfl fun H w => ?_
 refine gSR <| Za rfl <| Zn <| gSeq <| gRegQ mixed (by kernel_rfl) <| Rq rfl (mv rfl) <| Rq rfl (mv rfl) <| qBind fun u1 h2 => Rq rfl (W.shr rfl rfl (chk_some h2)) <| Rq rfl (mv rfl) <| Rq rfl (mv rfl) <| Rq rfl (I.sub rfl rfl) <| qBind fun u3 h4 => Rq rfl (W.shl rfl rfl (chk_some h4)) <| Rq rfl (W.or rfl rfl) <| Rq rfl (asg rfl) <| qName 4 rfl fun y5 => qNil <| eThen <| gRet <| eRet [] [] rfl (eE rfl <| eN) (rN)
def braidref01_constants  : Option ((List UInt32)) :=
 some [1116352408, 1899447441, 3049323471, 3921009573, 961987163, 1508970993, 2453635748, 2870763221, 3624381080, 310598401, 607225278, 1426881987, 1925078388, 2162078206, 2614888103, 3248222580, 3835390401, 4022224774, 264347078, 604807628, 770255983, 1249150122, 1555081692, 1996064986, 2554220882, 2821834349, 2952996808, 3210313671, 3336571891, 3584528711, 113926993, 338241895, 666307205, 773529912, 1294757372, 1396182291, 1695183700, 1986661051, 2177026350, 2456956037, 2730485921, 2820302411, 3259730800, 3345764771, 3516065817, 3600352804, 4094571909, 275423344, 430227734, 506948616, 659060556, 883997877, 958139571, 1322822218, 1537002063, 1747873779, 1955562222, 2024104815, 2227730452, 2361852424, 2428436474, 2756734187, 3204031479, 3329325298]
theorem braidref01_constants_ok  : Spec Tryz.prog 160 [] [] (braidref01_constants) (fun r nv => ⟨[.val (nv 0)], [(100, some (nv 0, .list u32R 56 r))]⟩) := by
 refine spec 2 Tryz.func160 rfl rfl rfl fun H w => ?_
 refine gSR <| Za rfl <| Zn <| gSR <| Ef rfl (lit (R := u32R) ([1116352408, 1899447441, 3049323471, 3921009573, 961987163, 1508970993, 2453635748, 2870763221, 3624381080, 310598401, 607225278, 1426881987, 1925078388, 2162078206, 2614888103, 3248222580, 3835390401, 4022224774, 264347078, 604807628, 770255983, 1249150122, 1555081692, 1996064986, 2554220882, 2821834349, 2952996808, 3210313671, 3336571891, 3584528711, 113926993, 338241895, 666307205, 773529912, 1294757372, 1396182291, 1695183700, 1986661051, 2177026350, 2456956037, 2730485921, 2820302411, 3259730800, 3345764771, 3516065817, 3600352804, 4094571909, 275423344, 430227734, 506948616, 659060556, 883997877, 958139571, 1322822218, 1537002063, 1747873779, 1955562222, 2024104815, 2227730452, 2361852424, 2428436474, 2756734187, 3204031479, 3329325298] : List UInt32) 1 (pP rfl rfl <| pP rfl rfl <| pP rfl rfl <| pP rfl rfl <| pP rfl rfl <| pP rfl rfl <| pP rfl rfl <| pP rfl rfl <| pP rfl rfl <| pP rfl rfl <| pP rfl rfl <| pP rfl rfl <| pP rfl rfl <| pP rfl rfl <| pP rfl rfl <| pP rfl rfl <| pP rfl rfl <| pP rfl rfl <| pP rfl rfl <| pP rfl rfl <| pP rfl rfl <| pP rfl rfl <| pP rfl rfl <| pP rfl rfl <| pP rfl rfl <| pP rfl rfl <| pP rfl rfl <| pP rfl rfl <| pP rfl rfl <| pP rfl rfl <| pP rfl rfl <| pP rfl rfl <| pP rfl rfl <| pP rfl rfl <| pP rfl rfl <| pP rfl rfl <| pP rfl rfl <| pP rfl rfl <| pP rfl rfl <| pP rfl rfl <| pP rfl rfl <| pP rfl rfl <| pP rfl rfl <| pP rfl rfl <| pP rfl rfl <| pP rfl rfl <| pP rfl rfl <| pP rfl rfl <| pP rfl rfl <| pP rfl rfl <| pP rfl rfl <| pP rfl rfl <| pP rfl rfl <| pP rfl rfl <| pP rfl rfl <| pP rfl rfl <| pP rfl rfl <| pP rfl rfl <| pP rfl rfl <| pP rfl rfl <| pP rfl rfl <| pP rfl rfl <| pP rfl rfl <| pP rfl rfl <| pN) rfl tu188 ti56 rfl rfl) fun v1 => Za rfl <| Zn <| gRet <| eRet [v1] [1] rfl (eE rfl <| eN) (Zi rfl <| rN)
def braidref01_Ground_L0 (a1 : List UInt8) (s4 : (List UInt32) × Int) : Option (Sum ((List UInt32)) ((List UInt32) × Int)) :=
 if decide (s4.2 < 16) then
  idx a1 (w64 (4 * s4.2)) >>= fun x7 =>
  idx a1 (w64 ((w64 (4 * s4.2)) + 1)) >>= fun x9 =>
  idx a1 (w64 ((w64 (4 * s4.2)) + 2)) >>= fun x11 =>
  idx a1 (w64 ((w64 (4 * s4.2)) + 3)) >>= fun x13 =>
  app 4 s4.1 [(((((x7.toUInt32 * 256) + x9.toUInt32) * 256) + x11.toUInt32) * 256) + x13.toUInt32] >>= fun x16 =>
  some (w64 (s4.2 + 1)) >>= fun y19 =>
  some (.inr (x16, y19))
 else
  some (.inl s4.1)
def braidref01_Ground_L2 (s22 : (List UInt32) × Int) : Option (Sum ((List UInt32)) ((List UInt32) × Int)) :=
 if decide (s22.2 < 64) then
  idx s22.1 (w64 (s22.2 - 15)) >>= fun x25 =>
  idx s22.1 (w64 (s22.2 - 2)) >>= fun x27 =>
  idx s22.1 (w64 (s22.2 - 16)) >>= fun x29 =>
  idx s22.1 (w64 (s22.2 - 7)) >>= fun x31 =>
  braidref01_turn x25 7 >>= fun r33 =>
  braidref01_turn x25 18 >>= fun r35 =>
  braidref01_turn x27 17 >>= fun r37 =>
  braidref01_turn x27 19 >>= fun r39 =>
  app 4 s22.1 [((x29 + x31) + ((r33 ^^^ r35) ^^^ (shr32 x25 3))) + ((r37 ^^^ r39) ^^^ (shr32 x27 10))] >>= fun x42 =>
  some (w64 (s22.2 + 1)) >>= fun y45 =>
  some (.inr (x42, y45))
 else
  some (.inl s22.1)
def braidref01_Ground_L4 (s21 : (List UInt32)) (r312 : (List UInt32)) (s316 : (Vector UInt32 8) × Int) : Option (Sum ((Vector UInt32 8)) ((Vector UInt32 8) × Int)) :=
 if decide (s316.2 < 64) then
  vidx s316.1 0 >>= fun x318 =>
  vidx s316.1 1 >>= fun x320 =>
  vidx s316.1 2 >>= fun x322 =>
  vidx s316.1 4 >>= fun x324 =>
  vidx s316.1 5 >>= fun x326 =>
  vidx s316.1 6 >>= fun x328 =>
  vidx s316.1 7 >>= fun x330 =>
  idx r312 s316.2 >>= fun x332 =>
  idx s21 s316.2 >>= fun x334 =>
  braidref01_turn x324 6 >>= fun r336 =>
  braidref01_turn x324 11 >>= fun r338 =>
  braidref01_turn x324 25 >>= fun r340 =>
  some ((((x330 + ((r336 ^^^ r338) ^^^ r340)) + ((x324 &&& x326) ^^^ ((~~~x324) &&& x328))) + x332) + x334) >>= fun y342 =>
  braidref01_turn x318 2 >>= fun r343 =>
  braidref01_turn x318 13 >>= fun r345 =>
  braidref01_turn x318 22 >>= fun r347 =>
  some (((r343 ^^^ r345) ^^^ r347) + (((x318 &&& x320) ^^^ (x318 &&& x322)) ^^^ (x320 &&& x322))) >>= fun y349 =>
  vidx s316.1 3 >>= fun x350 =>
  some (w64 (s316.2 + 1)) >>= fun y352 =>
  some (.inr ((#v[y342 + y349, x318, x320, x322, x350 + y342, x324, x326, x328] : Vector UInt32 8), y352))
 else
  some (.inl s316.1)
def braidref01_Ground_L6 (s315 : (Vector UInt32 8)) (s354 : (Vector UInt32 8) × Int) : Option (Sum ((Vector UInt32 8)) ((Vector UInt32 8) × Int)) :=
 if decide (s354.2 < 8) then
  vidx s354.1 s354.2 >>= fun x356 =>
  vidx s315 s354.2 >>= fun x358 =>
  vidx s354.1 s354.2 >>= fun x360 =>
  some (w64 (s354.2 + 1)) >>= fun y362 =>
  some (.inr (vset s354.1 s354.2 (x356 + x358), y362))
 else
  some (.inl s354.1)
def braidref01_Ground (a0 : Vector UInt32 8) (a1 : List UInt8) : Option ((Vector UInt32 8)) :=
 (iter (braidref01_Ground_L0 a1) ([], 0)) >>= fun s3 =>
 (iter (braidref01_Ground_L2) (s3, 16)) >>= fun s21 =>
 braidref01_constants >>= fun r312 =>
 (iter (braidref01_Ground_L4 s21 r312) (a0, 0)) >>= fun s315 =>
 (iter (braidref01_Ground_L6 s315) (a0, 0)) >>= fun s353 =>
 some s353
end
section
open Go Go.RowKit
set_option maxRecDepth 100000
theorem braidref01_Ground_ok (a0 : Vector UInt32 8) (a1 : List UInt8) : Spec Tryz.prog 141 [.rd (arrR 8 u32R) a0, .rd (sliceR u8R) a1] [] (braidref01_Ground a0 a1) (fun r nv => ⟨[.rd (arrR 8 u32R) r], []⟩) := by
 refine spec 203 Tryz.func141 rfl rfl rfl fun H w => ?_
 refine gSR <| Eb rfl (bx 1 rfl) fun v1 => Eb rfl (allc 2 ti141 (.zr (R := (arrR 8 u32R)) (x := (Vector.replicate 8 0)) zr141)) fun v2 => Zn <| gSR <| Za rfl <| Zn <| gMid (fun (s3 : (List UInt32)) aa ww => ∃ nv : Nat → Value, Sta (ctx 203 H [] w) [(2, .val (ptrTo v1 0)), (4, .val (ptrTo v2 0)), (5, .val (nv 0))] [(1, some (v1, .box 141 [.rd (arrR 8 u32R) a0])), (2, some (v2, .box 141 [.rd (arrR 8 u32R) (Vector.replicate 8 0)])), (108, some ((nv 0), .list u32R 56 s3))] aa ww) ?_ (fun s3 => ?_)
 ·
  refine gSR <| Za rfl <| Zn <| gNew u32R 56 215 <| gLoop (fun (s4 : (List UInt32) × Int) aa ww => ∃ nv : Nat → Value, Sta (ctx 203 H [] w) [(1, .rd (sliceR u8R) a1), (2, .val (ptrTo v1 0)), (4, .val (ptrTo v2 0)), (5, .val (nv 0)), (6, .rd i64R s4.2)] [(1, some (v1, .box 141 [.rd (arrR 8 u32R) a0])), (2, some (v2, .box 141 [.rd (arrR 8 u32R) (Vector.replicate 8 0)])), (214, some ((nv 0), .list u32R 56 s4.1))] aa ww) (fun aa ww h => ⟨nvl [(.slice none 0 0)], h.sub [1, 2, 215] (Zs rfl rfl rfl rfl <| sS rfl <| sN) (Zi rfl <| Zi rfl <| Zi rfl <| rN)⟩) (fun s4 => ?_)
  refine gEx fun n5 => gSeq <| gSR <| Zm rfl <| Zq (I.lss rfl rfl) <| Zn <| gIf rfl rfl (fun h6 => ?_) (fun h6 => ?_)
  ·
   refine Zt <| gSeq <| gBlk <| gRegH [214, 318] mixed rfl rfl <| hTk 0 rfl rfl (mv rfl) <| hTk 1 rfl rfl (mv rfl) <| hTk 2 rfl rfl (mv rfl) <| hTk 3 rfl rfl (I.mul rfl rfl) <| hBind fun x7 h8 => hTk 4 rfl rfl (ixR rfl rfl h8 tu103 ti5 rfl) <| hTk 5 rfl rfl (ldR rfl ty5) <| hTk 6 rfl rfl (B.toW rfl tu5 tu56) <| hTk 7 rfl rfl (W.mul rfl rfl) <| hTk 8 rfl rfl (mv rfl) <| hTk 9 rfl rfl (mv rfl) <| hTk 10 rfl rfl (I.mul rfl rfl) <| hTk 11 rfl rfl (I.add rfl rfl) <| hBind fun x9 h10 => hTk 12 rfl rfl (ixR rfl rfl h10 tu103 ti5 rfl) <| hTk 13 rfl rfl (ldR rfl ty5) <| hTk 14 rfl rfl (B.toW rfl tu5 tu56) <| hTk 15 rfl rfl (W.add rfl rfl) <| hTk 16 rfl rfl (W.mul rfl rfl) <| hTk 17 rfl rfl (mv rfl) <| hTk 18 rfl rfl (mv rfl) <| hTk 19 rfl rfl (I.mul rfl rfl) <| hTk 20 rfl rfl (I.add rfl rfl) <| hBind fun x11 h12 => hTk 21 rfl rfl (ixR rfl rfl h12 tu103 ti5 rfl) <| hTk 22 rfl rfl (ldR rfl ty5) <| hTk 23 rfl rfl (B.toW rfl tu5 tu56) <| hTk 24 rfl rfl (W.add rfl rfl) <| hTk 25 rfl rfl (W.mul rfl rfl) <| hTk 26 rfl rfl (mv rfl) <| hTk 27 rfl rfl (mv rfl) <| hTk 28 rfl rfl (I.mul rfl rfl) <| hTk 29 rfl rfl (I.add rfl rfl) <| hBind fun x13 h14 => hTk 30 rfl rfl (ixR rfl rfl h14 tu103 ti5 rfl) <| hTk 31 rfl rfl (ldR rfl ty5) <| hTk 32 rfl rfl (B.toW rfl tu5 tu56) <| hTk 33 rfl rfl (W.add rfl rfl) <| Zo 34 rfl rfl rfl (lit (R := u32R) ([(((((x7.toUInt32 * 256) + x9.toUInt32) * 256) + x11.toUInt32) * 256) + x13.toUInt32] : List UInt32) 318 (pP rfl rfl <| pN) rfl tu188 ti56 rfl rfl) (fun _ => rfl) fun v15 => hBind fun x16 h17 => Zo 35 rfl rfl rfl (apn 214 rfl rfl rfl (.own 318 rfl) h17 tu188 ti56 rfl rfl rfl) (fun _ => rfl) fun v18 => hTakeF 36 rfl (by kernel_rfl) (by kernel_rfl) (by kernel_rfl) (gd0 rfl) rfl rfl flat_val (asg rfl) <| hDone (by kernel_rfl) <| eBlk <| eThen <| gReg <| Zm rfl <| Zq (I.add rfl rfl) <| Za rfl <| lName 6 rfl fun y19 => gNil <| eNext (fun aa ww h => ⟨nvl [v18], h.sub [1, 2, 214] (Zs rfl rfl rfl rfl <| sS rfl <| sN) (Zi rfl <| Zi rfl <| Zi rfl <| rN)⟩)
  ·
   refine gExit <| eTexit <| eLeave <| eMid (fun aa ww h => ⟨nvl [(n5 0)], h.sub [1, 2, 214] (sS rfl <| sS rfl <| sS rfl <| sN) (Zi rfl <| Zi rfl <| Zi rfl <| rN)⟩)
 ·
  refine gEx fun n20 => gMid (fun (s21 : (List UInt32)) aa ww => ∃ nv : Nat → Value, Sta (ctx 203 H [] w) [(2, .val (ptrTo v1 0)), (4, .val (ptrTo v2 0)), (5, .val (nv 0))] [(1, some (v1, .box 141 [.rd (arrR 8 u32R) a0])), (2, some (v2, .box 141 [.rd (arrR 8 u32R) (Vector.replicate 8 0)])), (108, some ((nv 0), .list u32R 56 s21))] aa ww) ?_ (fun s21 => ?_)
  ·
   refine gSR <| Za rfl <| Zn <| gLoop (fun (s22 : (List UInt32) × Int) aa ww => ∃ nv : Nat → Value, Sta (ctx 203 H [] w) [(2, .val (ptrTo v1 0)), (4, .val (ptrTo v2 0)), (5, .val (nv 0)), (7, .rd i64R s22.2)] [(1, some (v1, .box 141 [.rd (arrR 8 u32R) a0])), (2, some (v2, .box 141 [.rd (arrR 8 u32R) (Vector.replicate 8 0)])), (108, some ((nv 0), .list u32R 56 s22.1))] aa ww) (fun aa ww h => ⟨nvl [(n20 0)], h.sub [1, 2, 108] (Zs rfl rfl rfl rfl <| sN) (Zi rfl <| Zi rfl <| Zi rfl <| rN)⟩) (fun s22 => ?_)
   refine gEx fun n23 => gSeq <| gSR <| Zm rfl <| Zq (I.lss rfl rfl) <| Zn <| gIf rfl rfl (fun h24 => ?_) (fun h24 => ?_)
   ·
    refine Zt <| gSeq <| gBlk <| gSeq <| gRegQ mixed (by kernel_rfl) <| Rq rfl (mv rfl) <| Rq rfl (mv rfl) <| Rq rfl (I.sub rfl rfl) <| qBind fun x25 h26 => Rq rfl (ixO 108 rfl rfl rfl h26 tu188 ti56) <| Rq rfl (ld 108 rfl rfl (Foc.el h26) ty56 rfl) <| Rq rfl (mv rfl) <| Rq rfl (mv rfl) <| Rq rfl (I.sub rfl rfl) <| qBind fun x27 h28 => Rq rfl (ixO 108 rfl rfl rfl h28 tu188 ti56) <| Rq rfl (ld 108 rfl rfl (Foc.el h28) ty56 rfl) <| Rq rfl (asg rfl) <| Rq rfl (asg rfl) <| qNil <| eThen <| gRegH [108, 420] mixed rfl rfl <| hTk 0 rfl rfl (mv rfl) <| hTk 1 rfl rfl (mv rfl) <| hTk 2 rfl rfl (mv rfl) <| hTk 3 rfl rfl (I.sub rfl rfl) <| hBind fun x29 h30 => hTk 4 rfl rfl (ixO 108 rfl rfl rfl h30 tu188 ti56) <| hTk 6 rfl rfl (mv rfl) <| hTk 7 rfl rfl (mv rfl) <| hTk 8 rfl rfl (I.sub rfl rfl) <| hBind fun x31 h32 => hTk 9 rfl rfl (ixO 108 rfl rfl rfl h32 tu188 ti56) <| hTk 12 rfl rfl (mv rfl) <| hTk 14 rfl rfl (mv rfl) <| hTk 17 rfl rfl (mv rfl) <| hTk 18 rfl rfl (W.shr rfl rfl (Int.natCast_nonneg _)) <| hTk 21 rfl rfl (mv rfl) <| hTk 23 rfl rfl (mv rfl) <| hTk 26 rfl rfl (mv rfl) <| hTk 27 rfl rfl (W.shr rfl rfl (Int.natCast_nonneg _)) <| hAlt [5, 10, 13] (by kernel_rfl) rfl ⟨?_, ?_, ?_, trivial⟩
    ·
     refine oRun 5 rfl (gd0 rfl) rfl rfl flat_num (ld 108 rfl rfl (Foc.el h30) ty56 rfl) <| hAlt [10, 13] (by kernel_rfl) rfl ⟨?_, ?_, trivial⟩
     ·
      refine oRun 10 rfl (gd0 rfl) rfl rfl flat_num (ld 108 rfl rfl (Foc.el h32) ty56 rfl) <| hTk 11 rfl rfl (W.add rfl rfl) <| hCallF 13 [] [] rfl (by kernel_rfl) rfl (gd0 rfl) rfl Tryz.func159 rfl rfl (braidref01_turn_ok _ _) (aQ rfl <| aQ rfl <| aN) rN rfl (fun _ _ => flat_num) fun r33 n34 => hCallF 15 [] [] rfl (by kernel_rfl) rfl (gd0 rfl) rfl Tryz.func159 rfl rfl (braidref01_turn_ok _ _) (aQ rfl <| aQ rfl <| aN) rN rfl (fun _ _ => flat_num) fun r35 n36 => hTk 16 rfl rfl (W.xor rfl rfl) <| hTk 19 rfl rfl (W.xor rfl rfl) <| hTk 20 rfl rfl (W.add rfl rfl) <| hCallF 22 [] [] rfl (by kernel_rfl) rfl (gd0 rfl) rfl Tryz.func159 rfl rfl (braidref01_turn_ok _ _) (aQ rfl <| aQ rfl <| aN) rN rfl (fun _ _ => flat_num) fun r37 n38 => hCallF 24 [] [] rfl (by kernel_rfl) rfl (gd0 rfl) rfl Tryz.func159 rfl rfl (braidref01_turn_ok _ _) (aQ rfl <| aQ rfl <| aN) rN rfl (fun _ _ => flat_num) fun r39 n40 => hTk 25 rfl rfl (W.xor rfl rfl) <| hTk 28 rfl rfl (W.xor rfl rfl) <| hTk 29 rfl rfl (W.add rfl rfl) <| Zo 30 rfl rfl rfl (lit (R := u32R) ([((x29 + x31) + ((r33 ^^^ r35) ^^^ (shr32 x25 3))) + ((r37 ^^^ r39) ^^^ (shr32 x27 10))] : List UInt32) 420 (pP rfl rfl <| pN) rfl tu188 ti56 rfl rfl) (fun _ => rfl) fun v41 => hBind fun x42 h43 => Zo 31 rfl rfl rfl (apn 108 rfl rfl rfl (.own 420 rfl) h43 tu188 ti56 rfl rfl rfl) (fun _ => rfl) fun v44 => hTakeF 32 rfl (by kernel_rfl) (by kernel_rfl) (by kernel_rfl) (gd0 rfl) rfl rfl flat_val (asg rfl) <| hDone (by kernel_rfl) <| eBlk <| eThen <| gReg <| Zm rfl <| Zq (I.add rfl rfl) <| Za rfl <| lName 7 rfl fun y45 => gNil <| eNext (fun aa ww h => ⟨nvl [v44], h.sub [1, 2, 108] (Zs rfl rfl rfl rfl <| sN) (Zi rfl <| Zi rfl <| Zi rfl <| rN)⟩)
     ·
      refine oCallF 13 [] [] rfl rfl (gd0 rfl) rfl Tryz.func159 rfl rfl (braidref01_turn_ok _ _) (aQ rfl <| aQ rfl <| aN) rN rfl (fun _ _ => flat_num) fun r46 n47 => hAlt [10, 15] (by kernel_rfl) rfl ⟨?_, ?_, trivial⟩
      ·
       refine oRun 10 rfl (gd0 rfl) rfl rfl flat_num (ld 108 rfl rfl (Foc.el h32) ty56 rfl) <| hTk 11 rfl rfl (W.add rfl rfl) <| hCallF 15 [] [] rfl (by kernel_rfl) rfl (gd0 rfl) rfl Tryz.func159 rfl rfl (braidref01_turn_ok _ _) (aQ rfl <| aQ rfl <| aN) rN rfl (fun _ _ => flat_num) fun r48 n49 => hTk 16 rfl rfl (W.xor rfl rfl) <| hTk 19 rfl rfl (W.xor rfl rfl) <| hTk 20 rfl rfl (W.add rfl rfl) <| hCallF 22 [] [] rfl (by kernel_rfl) rfl (gd0 rfl) rfl Tryz.func159 rfl rfl (braidref01_turn_ok _ _) (aQ rfl <| aQ rfl <| aN) rN rfl (fun _ _ => flat_num) fun r50 n51 => hCallF 24 [] [] rfl (by kernel_rfl) rfl (gd0 rfl) rfl Tryz.func159 rfl rfl (braidref01_turn_ok _ _) (aQ rfl <| aQ rfl <| aN) rN rfl (fun _ _ => flat_num) fun r52 n53 => hTk 25 rfl rfl (W.xor rfl rfl) <| hTk 28 rfl rfl (W.xor rfl rfl) <| hTk 29 rfl rfl (W.add rfl rfl) <| Zo 30 rfl rfl rfl (lit (R := u32R) ([((x29 + x31) + ((r46 ^^^ r48) ^^^ (shr32 x25 3))) + ((r50 ^^^ r52) ^^^ (shr32 x27 10))] : List UInt32) 420 (pP rfl rfl <| pN) rfl tu188 ti56 rfl rfl) (fun _ => rfl) fun v54 => hBind fun x55 h56 => Zo 31 rfl rfl rfl (apn 108 rfl rfl rfl (.own 420 rfl) h56 tu188 ti56 rfl rfl rfl) (fun _ => rfl) fun v57 => hTakeF 32 rfl (by kernel_rfl) (by kernel_rfl) (by kernel_rfl) (gd0 rfl) rfl rfl flat_val (asg rfl) <| hDone (by kernel_rfl) <| eBlk <| eThen <| gReg <| Zm rfl <| Zq (I.add rfl rfl) <| Za rfl <| lName 7 rfl fun y58 => gNil <| eNext (fun aa ww h => ⟨nvl [v57], h.sub [1, 2, 108] (Zs rfl rfl rfl rfl <| sN) (Zi rfl <| Zi rfl <| Zi rfl <| rN)⟩)
      ·
       refine oCallF 15 [] [] rfl rfl (gd0 rfl) rfl Tryz.func159 rfl rfl (braidref01_turn_ok _ _) (aQ rfl <| aQ rfl <| aN) rN rfl (fun _ _ => flat_num) fun r59 n60 => hTk 16 rfl rfl (W.xor rfl rfl) <| hTk 19 rfl rfl (W.xor rfl rfl) <| hAlt [10, 22] (by kernel_rfl) rfl ⟨?_, ?_, trivial⟩
       ·
        refine oRun 10 rfl (gd0 rfl) rfl rfl flat_num (ld 108 rfl rfl (Foc.el h32) ty56 rfl) <| hTk 11 rfl rfl (W.add rfl rfl) <| hTk 20 rfl rfl (W.add rfl rfl) <| hCallF 22 [] [] rfl (by kernel_rfl) rfl (gd0 rfl) rfl Tryz.func159 rfl rfl (braidref01_turn_ok _ _) (aQ rfl <| aQ rfl <| aN) rN rfl (fun _ _ => flat_num) fun r61 n62 => hCallF 24 [] [] rfl (by kernel_rfl) rfl (gd0 rfl) rfl Tryz.func159 rfl rfl (braidref01_turn_ok _ _) (aQ rfl <| aQ rfl <| aN) rN rfl (fun _ _ => flat_num) fun r63 n64 => hTk 25 rfl rfl (W.xor rfl rfl) <| hTk 28 rfl rfl (W.xor rfl rfl) <| hTk 29 rfl rfl (W.add rfl rfl) <| Zo 30 rfl rfl rfl (lit (R := u32R) ([((x29 + x31) + ((r46 ^^^ r59) ^^^ (shr32 x25 3))) + ((r61 ^^^ r63) ^^^ (shr32 x27 10))] : List UInt32) 420 (pP rfl rfl <| pN) rfl tu188 ti56 rfl rfl) (fun _ => rfl) fun v65 => hBind fun x66 h67 => Zo 31 rfl rfl rfl (apn 108 rfl rfl rfl (.own 420 rfl) h67 tu188 ti56 rfl rfl rfl) (fun _ => rfl) fun v68 => hTakeF 32 rfl (by kernel_rfl) (by kernel_rfl) (by kernel_rfl) (gd0 rfl) rfl rfl flat_val (asg rfl) <| hDone (by kernel_rfl) <| eBlk <| eThen <| gReg <| Zm rfl <| Zq (I.add rfl rfl) <| Za rfl <| lName 7 rfl fun y69 => gNil <| eNext (fun aa ww h => ⟨nvl [v68], h.sub [1, 2, 108] (Zs rfl rfl rfl rfl <| sN) (Zi rfl <| Zi rfl <| Zi rfl <| rN)⟩)
       ·
        refine oCallF 22 [] [] rfl rfl (gd0 rfl) rfl Tryz.func159 rfl rfl (braidref01_turn_ok _ _) (aQ rfl <| aQ rfl <| aN) rN rfl (fun _ _ => flat_num) fun r70 n71 => hAlt [10, 24] (by kernel_rfl) rfl ⟨?_, ?_, trivial⟩
        ·
         refine oRun 10 rfl (gd0 rfl) rfl rfl flat_num (ld 108 rfl rfl (Foc.el h32) ty56 rfl) <| hTk 11 rfl rfl (W.add rfl rfl) <| hTk 20 rfl rfl (W.add rfl rfl) <| hCallF 24 [] [] rfl (by kernel_rfl) rfl (gd0 rfl) rfl Tryz.func159 rfl rfl (braidref01_turn_ok _ _) (aQ rfl <| aQ rfl <| aN) rN rfl (fun _ _ => flat_num) fun r72 n73 => hTk 25 rfl rfl (W.xor rfl rfl) <| hTk 28 rfl rfl (W.xor rfl rfl) <| hTk 29 rfl rfl (W.add rfl rfl) <| Zo 30 rfl rfl rfl (lit (R := u32R) ([((x29 + x31) + ((r46 ^^^ r59) ^^^ (shr32 x25 3))) + ((r70 ^^^ r72) ^^^ (shr32 x27 10))] : List UInt32) 420 (pP rfl rfl <| pN) rfl tu188 ti56 rfl rfl) (fun _ => rfl) fun v74 => hBind fun x75 h76 => Zo 31 rfl rfl rfl (apn 108 rfl rfl rfl (.own 420 rfl) h76 tu188 ti56 rfl rfl rfl) (fun _ => rfl) fun v77 => hTakeF 32 rfl (by kernel_rfl) (by kernel_rfl) (by kernel_rfl) (gd0 rfl) rfl rfl flat_val (asg rfl) <| hDone (by kernel_rfl) <| eBlk <| eThen <| gReg <| Zm rfl <| Zq (I.add rfl rfl) <| Za rfl <| lName 7 rfl fun y78 => gNil <| eNext (fun aa ww h => ⟨nvl [v77], h.sub [1, 2, 108] (Zs rfl rfl rfl rfl <| sN) (Zi rfl <| Zi rfl <| Zi rfl <| rN)⟩)
        ·
         refine oCallF 24 [] [] rfl rfl (gd0 rfl) rfl Tryz.func159 rfl rfl (braidref01_turn_ok _ _) (aQ rfl <| aQ rfl <| aN) rN rfl (fun _ _ => flat_num) fun r79 n80 => hTk 25 rfl rfl (W.xor rfl rfl) <| hTk 28 rfl rfl (W.xor rfl rfl) <| hRun 10 rfl (by kernel_rfl) (gd0 rfl) rfl rfl flat_num (ld 108 rfl rfl (Foc.el h32) ty56 rfl) <| hTk 11 rfl rfl (W.add rfl rfl) <| hTk 20 rfl rfl (W.add rfl rfl) <| hTk 29 rfl rfl (W.add rfl rfl) <| Zo 30 rfl rfl rfl (lit (R := u32R) ([((x29 + x31) + ((r46 ^^^ r59) ^^^ (shr32 x25 3))) + ((r70 ^^^ r79) ^^^ (shr32 x27 10))] : List UInt32) 420 (pP rfl rfl <| pN) rfl tu188 ti56 rfl rfl) (fun _ => rfl) fun v81 => hBind fun x82 h83 => Zo 31 rfl rfl rfl (apn 108 rfl rfl rfl (.own 420 rfl) h83 tu188 ti56 rfl rfl rfl) (fun _ => rfl) fun v84 => hTakeF 32 rfl (by kernel_rfl) (by kernel_rfl) (by kernel_rfl) (gd0 rfl) rfl rfl flat_val (asg rfl) <| hDone (by kernel_rfl) <| eBlk <| eThen <| gReg <| Zm rfl <| Zq (I.add rfl rfl) <| Za rfl <| lName 7 rfl fun y85 => gNil <| eNext (fun aa ww h => ⟨nvl [v84], h.sub [1, 2, 108] (Zs rfl rfl rfl rfl <| sN) (Zi rfl <| Zi rfl <| Zi rfl <| rN)⟩)
    ·
     refine oRun 10 rfl (gd0 rfl) rfl rfl flat_num (ld 108 rfl rfl (Foc.el h32) ty56 rfl) <| hAlt [5, 13] (by kernel_rfl) rfl ⟨?_, ?_, trivial⟩
     ·
      refine oRun 5 rfl (gd0 rfl) rfl rfl flat_num (ld 108 rfl rfl (Foc.el h30) ty56 rfl) <| hTk 11 rfl rfl (W.add rfl rfl) <| hCallF 13 [] [] rfl (by kernel_rfl) rfl (gd0 rfl) rfl Tryz.func159 rfl rfl (braidref01_turn_ok _ _) (aQ rfl <| aQ rfl <| aN) rN rfl (fun _ _ => flat_num) fun r86 n87 => hCallF 15 [] [] rfl (by kernel_rfl) rfl (gd0 rfl) rfl Tryz.func159 rfl rfl (braidref01_turn_ok _ _) (aQ rfl <| aQ rfl <| aN) rN rfl (fun _ _ => flat_num) fun r88 n89 => hTk 16 rfl rfl (W.xor rfl rfl) <| hTk 19 rfl rfl (W.xor rfl rfl) <| hTk 20 rfl rfl (W.add rfl rfl) <| hCallF 22 [] [] rfl (by kernel_rfl) rfl (gd0 rfl) rfl Tryz.func159 rfl rfl (braidref01_turn_ok _ _) (aQ rfl <| aQ rfl <| aN) rN rfl (fun _ _ => flat_num) fun r90 n91 => hCallF 24 [] [] rfl (by kernel_rfl) rfl (gd0 rfl) rfl Tryz.func159 rfl rfl (braidref01_turn_ok _ _) (aQ rfl <| aQ rfl <| aN) rN rfl (fun _ _ => flat_num) fun r92 n93 => hTk 25 rfl rfl (W.xor rfl rfl) <| hTk 28 rfl rfl (W.xor rfl rfl) <| hTk 29 rfl rfl (W.add rfl rfl) <| Zo 30 rfl rfl rfl (lit (R := u32R) ([((x29 + x31) + ((r86 ^^^ r88) ^^^ (shr32 x25 3))) + ((r90 ^^^ r92) ^^^ (shr32 x27 10))] : List UInt32) 420 (pP rfl rfl <| pN) rfl tu188 ti56 rfl rfl) (fun _ => rfl) fun v94 => hBind fun x95 h96 => Zo 31 rfl rfl rfl (apn 108 rfl rfl rfl (.own 420 rfl) h96 tu188 ti56 rfl rfl rfl) (fun _ => rfl) fun v97 => hTakeF 32 rfl (by kernel_rfl) (by kernel_rfl) (by kernel_rfl) (gd0 rfl) rfl rfl flat_val (asg rfl) <| hDone (by kernel_rfl) <| eBlk <| eThen <| gReg <| Zm rfl <| Zq (I.add rfl rfl) <| Za rfl <| lName 7 rfl fun y98 => gNil <| eNext (fun aa ww h => ⟨nvl [v97], h.sub [1, 2, 108] (Zs rfl rfl rfl rfl <| sN) (Zi rfl <| Zi rfl <| Zi rfl <| rN)⟩)
     ·
      refine oCallF 13 [] [] rfl rfl (gd0 rfl) rfl Tryz.func159 rfl rfl (braidref01_turn_ok _ _) (aQ rfl <| aQ rfl <| aN) rN rfl (fun _ _ => flat_num) fun r99 n100 => hAlt [5, 15] (by kernel_rfl) rfl ⟨?_, ?_, trivial⟩
      ·
       refine oRun 5 rfl (gd0 rfl) rfl rfl flat_num (ld 108 rfl rfl (Foc.el h30) ty56 rfl) <| hTk 11 rfl rfl (W.add rfl rfl) <| hCallF 15 [] [] rfl (by kernel_rfl) rfl (gd0 rfl) rfl Tryz.func159 rfl rfl (braidref01_turn_ok _ _) (aQ rfl <| aQ rfl <| aN) rN rfl (fun _ _ => flat_num) fun r101 n102 => hTk 16 rfl rfl (W.xor rfl rfl) <| hTk 19 rfl rfl (W.xor rfl rfl) <| hTk 20 rfl rfl (W.add rfl rfl) <| hCallF 22 [] [] rfl (by kernel_rfl) rfl (gd0 rfl) rfl Tryz.func159 rfl rfl (braidref01_turn_ok _ _) (aQ rfl <| aQ rfl <| aN) rN rfl (fun _ _ => flat_num) fun r103 n104 => hCallF 24 [] [] rfl (by kernel_rfl) rfl (gd0 rfl) rfl Tryz.func159 rfl rfl (braidref01_turn_ok _ _) (aQ rfl <| aQ rfl <| aN) rN rfl (fun _ _ => flat_num) fun r105 n106 => hTk 25 rfl rfl (W.xor rfl rfl) <| hTk 28 rfl rfl (W.xor rfl rfl) <| hTk 29 rfl rfl (W.add rfl rfl) <| Zo 30 rfl rfl rfl (lit (R := u32R) ([((x29 + x31) + ((r99 ^^^ r101) ^^^ (shr32 x25 3))) + ((r103 ^^^ r105) ^^^ (shr32 x27 10))] : List UInt32) 420 (pP rfl rfl <| pN) rfl tu188 ti56 rfl rfl) (fun _ => rfl) fun v107 => hBind fun x108 h109 => Zo 31 rfl rfl rfl (apn 108 rfl rfl rfl (.own 420 rfl) h109 tu188 ti56 rfl rfl rfl) (fun _ => rfl) fun v110 => hTakeF 32 rfl (by kernel_rfl) (by kernel_rfl) (by kernel_rfl) (gd0 rfl) rfl rfl flat_val (asg rfl) <| hDone (by kernel_rfl) <| eBlk <| eThen <| gReg <| Zm rfl <| Zq (I.add rfl rfl) <| Za rfl <| lName 7 rfl fun y111 => gNil <| eNext (fun aa ww h => ⟨nvl [v110], h.sub [1, 2, 108] (Zs rfl rfl rfl rfl <| sN) (Zi rfl <| Zi rfl <| Zi rfl <| rN)⟩)
      ·
       refine oCallF 15 [] [] rfl rfl (gd0 rfl) rfl Tryz.func159 rfl rfl (braidref01_turn_ok _ _) (aQ rfl <| aQ rfl <| aN) rN rfl (fun _ _ => flat_num) fun r112 n113 => hTk 16 rfl rfl (W.xor rfl rfl) <| hTk 19 rfl rfl (W.xor rfl rfl) <| hAlt [5, 22] (by kernel_rfl) rfl ⟨?_, ?_, trivial⟩
       ·
        refine oRun 5 rfl (gd0 rfl) rfl rfl flat_num (ld 108 rfl rfl (Foc.el h30) ty56 rfl) <| hTk 11 rfl rfl (W.add rfl rfl) <| hTk 20 rfl rfl (W.add rfl rfl) <| hCallF 22 [] [] rfl (by kernel_rfl) rfl (gd0 rfl) rfl Tryz.func159 rfl rfl (braidref01_turn_ok _ _) (aQ rfl <| aQ rfl <| aN) rN rfl (fun _ _ => flat_num) fun r114 n115 => hCallF 24 [] [] rfl (by kernel_rfl) rfl (gd0 rfl) rfl Tryz.func159 rfl rfl (braidref01_turn_ok _ _) (aQ rfl <| aQ rfl <| aN) rN rfl (fun _ _ => flat_num) fun r116 n117 => hTk 25 rfl rfl (W.xor rfl rfl) <| hTk 28 rfl rfl (W.xor rfl rfl) <| hTk 29 rfl rfl (W.add rfl rfl) <| Zo 30 rfl rfl rfl (lit (R := u32R) ([((x29 + x31) + ((r99 ^^^ r112) ^^^ (shr32 x25 3))) + ((r114 ^^^ r116) ^^^ (shr32 x27 10))] : List UInt32) 420 (pP rfl rfl <| pN) rfl tu188 ti56 rfl rfl) (fun _ => rfl) fun v118 => hBind fun x119 h120 => Zo 31 rfl rfl rfl (apn 108 rfl rfl rfl (.own 420 rfl) h120 tu188 ti56 rfl rfl rfl) (fun _ => rfl) fun v121 => hTakeF 32 rfl (by kernel_rfl) (by kernel_rfl) (by kernel_rfl) (gd0 rfl) rfl rfl flat_val (asg rfl) <| hDone (by kernel_rfl) <| eBlk <| eThen <| gReg <| Zm rfl <| Zq (I.add rfl rfl) <| Za rfl <| lName 7 rfl fun y122 => gNil <| eNext (fun aa ww h => ⟨nvl [v121], h.sub [1, 2, 108] (Zs rfl rfl rfl rfl <| sN) (Zi rfl <| Zi rfl <| Zi rfl <| rN)⟩)
       ·
        refine oCallF 22 [] [] rfl rfl (gd0 rfl) rfl Tryz.func159 rfl rfl (braidref01_turn_ok _ _) (aQ rfl <| aQ rfl <| aN) rN rfl (fun _ _ => flat_num) fun r123 n124 => hAlt [5, 24] (by kernel_rfl) rfl ⟨?_, ?_, trivial⟩
        ·
         refine oRun 5 rfl (gd0 rfl) rfl rfl flat_num (ld 108 rfl rfl (Foc.el h30) ty56 rfl) <| hTk 11 rfl rfl (W.add rfl rfl) <| hTk 20 rfl rfl (W.add rfl rfl) <| hCallF 24 [] [] rfl (by kernel_rfl) rfl (gd0 rfl) rfl Tryz.func159 rfl rfl (braidref01_turn_ok _ _) (aQ rfl <| aQ rfl <| aN) rN rfl (fun _ _ => flat_num) fun r125 n126 => hTk 25 rfl rfl (W.xor rfl rfl) <| hTk 28 rfl rfl (W.xor rfl rfl) <| hTk 29 rfl rfl (W.add rfl rfl) <| Zo 30 rfl rfl rfl (lit (R := u32R) ([((x29 + x31) + ((r99 ^^^ r112) ^^^ (shr32 x25 3))) + ((r123 ^^^ r125) ^^^ (shr32 x27 10))] : List UInt32) 420 (pP rfl rfl <| pN) rfl tu188 ti56 rfl rfl) (fun _ => rfl) fun v127 => hBind fun x128 h129 => Zo 31 rfl rfl rfl (apn 108 rfl rfl rfl (.own 420 rfl) h129 tu188 ti56 rfl rfl rfl) (fun _ => rfl) fun v130 => hTakeF 32 rfl (by kernel_rfl) (by kernel_rfl) (by kernel_rfl) (gd0 rfl) rfl rfl flat_val (asg rfl) <| hDone (by kernel_rfl) <| eBlk <| eThen <| gReg <| Zm rfl <| Zq (I.add rfl rfl) <| Za rfl <| lName 7 rfl fun y131 => gNil <| eNext (fun aa ww h => ⟨nvl [v130], h.sub [1, 2, 108] (Zs rfl rfl rfl rfl <| sN) (Zi rfl <| Zi rfl <| Zi rfl <| rN)⟩)
        ·
         refine oCallF 24 [] [] rfl rfl (gd0 rfl) rfl Tryz.func159 rfl rfl (braidref01_turn_ok _ _) (aQ rfl <| aQ rfl <| aN) rN rfl (fun _ _ => flat_num) fun r132 n133 => hTk 25 rfl rfl (W.xor rfl rfl) <| hTk 28 rfl rfl (W.xor rfl rfl) <| hRun 5 rfl (by kernel_rfl) (gd0 rfl) rfl rfl flat_num (ld 108 rfl rfl (Foc.el h30) ty56 rfl) <| hTk 11 rfl rfl (W.add rfl rfl) <| hTk 20 rfl rfl (W.add rfl rfl) <| hTk 29 rfl rfl (W.add rfl rfl) <| Zo 30 rfl rfl rfl (lit (R := u32R) ([((x29 + x31) + ((r99 ^^^ r112) ^^^ (shr32 x25 3))) + ((r123 ^^^ r132) ^^^ (shr32 x27 10))] : List UInt32) 420 (pP rfl rfl <| pN) rfl tu188 ti56 rfl rfl) (fun _ => rfl) fun v134 => hBind fun x135 h136 => Zo 31 rfl rfl rfl (apn 108 rfl rfl rfl (.own 420 rfl) h136 tu188 ti56 rfl rfl rfl) (fun _ => rfl) fun v137 => hTakeF 32 rfl (by kernel_rfl) (by kernel_rfl) (by kernel_rfl) (gd0 rfl) rfl rfl flat_val (asg rfl) <| hDone (by kernel_rfl) <| eBlk <| eThen <| gReg <| Zm rfl <| Zq (I.add rfl rfl) <| Za rfl <| lName 7 rfl fun y138 => gNil <| eNext (fun aa ww h => ⟨nvl [v137], h.sub [1, 2, 108] (Zs rfl rfl rfl rfl <| sN) (Zi rfl <| Zi rfl <| Zi rfl <| rN)⟩)
    ·
     refine oCallF 13 [] [] rfl rfl (gd0 rfl) rfl Tryz.func159 rfl rfl (braidref01_turn_ok _ _) (aQ rfl <| aQ rfl <| aN) rN rfl (fun _ _ => flat_num) fun r139 n140 => hAlt [5, 10, 15] (by kernel_rfl) rfl ⟨?_, ?_, ?_, trivial⟩
     ·
      refine oRun 5 rfl (gd0 rfl) rfl rfl flat_num (ld 108 rfl rfl (Foc.el h30) ty56 rfl) <| hAlt [10, 15] (by kernel_rfl) rfl ⟨?_, ?_, trivial⟩
      ·
       refine oRun 10 rfl (gd0 rfl) rfl rfl flat_num (ld 108 rfl rfl (Foc.el h32) ty56 rfl) <| hTk 11 rfl rfl (W.add rfl rfl) <| hCallF 15 [] [] rfl (by kernel_rfl) rfl (gd0 rfl) rfl Tryz.func159 rfl rfl (braidref01_turn_ok _ _) (aQ rfl <| aQ rfl <| aN) rN rfl (fun _ _ => flat_num) fun r141 n142 => hTk 16 rfl rfl (W.xor rfl rfl) <| hTk 19 rfl rfl (W.xor rfl rfl) <| hTk 20 rfl rfl (W.add rfl rfl) <| hCallF 22 [] [] rfl (by kernel_rfl) rfl (gd0 rfl) rfl Tryz.func159 rfl rfl (braidref01_turn_ok _ _) (aQ rfl <| aQ rfl <| aN) rN rfl (fun _ _ => flat_num) fun r143 n144 => hCallF 24 [] [] rfl (by kernel_rfl) rfl (gd0 rfl) rfl Tryz.func159 rfl rfl (braidref01_turn_ok _ _) (aQ rfl <| aQ rfl <| aN) rN rfl (fun _ _ => flat_num) fun r145 n146 => hTk 25 rfl rfl (W.xor rfl rfl) <| hTk 28 rfl rfl (W.xor rfl rfl) <| hTk 29 rfl rfl (W.add rfl rfl) <| Zo 30 rfl rfl rfl (lit (R := u32R) ([((x29 + x31) + ((r139 ^^^ r141) ^^^ (shr32 x25 3))) + ((r143 ^^^ r145) ^^^ (shr32 x27 10))] : List UInt32) 420 (pP rfl rfl <| pN) rfl tu188 ti56 rfl rfl) (fun _ => rfl) fun v147 => hBind fun x148 h149 => Zo 31 rfl rfl rfl (apn 108 rfl rfl rfl (.own 420 rfl) h149 tu188 ti56 rfl rfl rfl) (fun _ => rfl) fun v150 => hTakeF 32 rfl (by kernel_rfl) (by kernel_rfl) (by kernel_rfl) (gd0 rfl) rfl rfl flat_val (asg rfl) <| hDone (by kernel_rfl) <| eBlk <| eThen <| gReg <| Zm rfl <| Zq (I.add rfl rfl) <| Za rfl <| lName 7 rfl fun y151 => gNil <| eNext (fun aa ww h => ⟨nvl [v150], h.sub [1, 2, 108] (Zs rfl rfl rfl rfl <| sN) (Zi rfl <| Zi rfl <| Zi rfl <| rN)⟩)
      ·
       refine oCallF 15 [] [] rfl rfl (gd0 rfl) rfl Tryz.func159 rfl rfl (braidref01_turn_ok _ _) (aQ rfl <| aQ rfl <| aN) rN rfl (fun _ _ => flat_num) fun r152 n153 => hTk 16 rfl rfl (W.xor rfl rfl) <| hTk 19 rfl rfl (W.xor rfl rfl) <| hAlt [10, 22] (by kernel_rfl) rfl ⟨?_, ?_, trivial⟩
       ·
        refine oRun 10 rfl (gd0 rfl) rfl rfl flat_num (ld 108 rfl rfl (Foc.el h32) ty56 rfl) <| hTk 11 rfl rfl (W.add rfl rfl) <| hTk 20 rfl rfl (W.add rfl rfl) <| hCallF 22 [] [] rfl (by kernel_rfl) rfl (gd0 rfl) rfl Tryz.func159 rfl rfl (braidref01_turn_ok _ _) (aQ rfl <| aQ rfl <| aN) rN rfl (fun _ _ => flat_num) fun r154 n155 => hCallF 24 [] [] rfl (by kernel_rfl) rfl (gd0 rfl) rfl Tryz.func159 rfl rfl (braidref01_turn_ok _ _) (aQ rfl <| aQ rfl <| aN) rN rfl (fun _ _ => flat_num) fun r156 n157 => hTk 25 rfl rfl (W.xor rfl rfl) <| hTk 28 rfl rfl (W.xor rfl rfl) <| hTk 29 rfl rfl (W.add rfl rfl) <| Zo 30 rfl rfl rfl (lit (R := u32R) ([((x29 + x31) + ((r139 ^^^ r152) ^^^ (shr32 x25 3))) + ((r154 ^^^ r156) ^^^ (shr32 x27 10))] : List UInt32) 420 (pP rfl rfl <| pN) rfl tu188 ti56 rfl rfl) (fun _ => rfl) fun v158 => hBind fun x159 h160 => Zo 31 rfl rfl rfl (apn 108 rfl rfl rfl (.own 420 rfl) h160 tu188 ti56 rfl rfl rfl) (fun _ => rfl) fun v161 => hTakeF 32 rfl (by kernel_rfl) (by kernel_rfl) (by kernel_rfl) (gd0 rfl) rfl rfl flat_val (asg rfl) <| hDone (by kernel_rfl) <| eBlk <| eThen <| gReg <| Zm rfl <| Zq (I.add rfl rfl) <| Za rfl <| lName 7 rfl fun y162 => gNil <| eNext (fun aa ww h => ⟨nvl [v161], h.sub [1, 2, 108] (Zs rfl rfl rfl rfl <| sN) (Zi rfl <| Zi rfl <| Zi rfl <| rN)⟩)
       ·
        refine oCallF 22 [] [] rfl rfl (gd0 rfl) rfl Tryz.func159 rfl rfl (braidref01_turn_ok _ _) (aQ rfl <| aQ rfl <| aN) rN rfl (fun _ _ => flat_num) fun r163 n164 => hAlt [10, 24] (by kernel_rfl) rfl ⟨?_, ?_, trivial⟩
        ·
         refine oRun 10 rfl (gd0 rfl) rfl rfl flat_num (ld 108 rfl rfl (Foc.el h32) ty56 rfl) <| hTk 11 rfl rfl (W.add rfl rfl) <| hTk 20 rfl rfl (W.add rfl rfl) <| hCallF 24 [] [] rfl (by kernel_rfl) rfl (gd0 rfl) rfl Tryz.func159 rfl rfl (braidref01_turn_ok _ _) (aQ rfl <| aQ rfl <| aN) rN rfl (fun _ _ => flat_num) fun r165 n166 => hTk 25 rfl rfl (W.xor rfl rfl) <| hTk 28 rfl rfl (W.xor rfl rfl) <| hTk 29 rfl rfl (W.add rfl rfl) <| Zo 30 rfl rfl rfl (lit (R := u32R) ([((x29 + x31) + ((r139 ^^^ r152) ^^^ (shr32 x25 3))) + ((r163 ^^^ r165) ^^^ (shr32 x27 10))] : List UInt32) 420 (pP rfl rfl <| pN) rfl tu188 ti56 rfl rfl) (fun _ => rfl) fun v167 => hBind fun x168 h169 => Zo 31 rfl rfl rfl (apn 108 rfl rfl rfl (.own 420 rfl) h169 tu188 ti56 rfl rfl rfl) (fun _ => rfl) fun v170 => hTakeF 32 rfl (by kernel_rfl) (by kernel_rfl) (by kernel_rfl) (gd0 rfl) rfl rfl flat_val (asg rfl) <| hDone (by kernel_rfl) <| eBlk <| eThen <| gReg <| Zm rfl <| Zq (I.add rfl rfl) <| Za rfl <| lName 7 rfl fun y171 => gNil <| eNext (fun aa ww h => ⟨nvl [v170], h.sub [1, 2, 108] (Zs rfl rfl rfl rfl <| sN) (Zi rfl <| Zi rfl <| Zi rfl <| rN)⟩)
        ·
         refine oCallF 24 [] [] rfl rfl (gd0 rfl) rfl Tryz.func159 rfl rfl (braidref01_turn_ok _ _) (aQ rfl <| aQ rfl <| aN) rN rfl (fun _ _ => flat_num) fun r172 n173 => hTk 25 rfl rfl (W.xor rfl rfl) <| hTk 28 rfl rfl (W.xor rfl rfl) <| hRun 10 rfl (by kernel_rfl) (gd0 rfl) rfl rfl flat_num (ld 108 rfl rfl (Foc.el h32) ty56 rfl) <| hTk 11 rfl rfl (W.add rfl rfl) <| hTk 20 rfl rfl (W.add rfl rfl) <| hTk 29 rfl rfl (W.add rfl rfl) <| Zo 30 rfl rfl rfl (lit (R := u32R) ([((x29 + x31) + ((r139 ^^^ r152) ^^^ (shr32 x25 3))) + ((r163 ^^^ r172) ^^^ (shr32 x27 10))] : List UInt32) 420 (pP rfl rfl <| pN) rfl tu188 ti56 rfl rfl) (fun _ => rfl) fun v174 => hBind fun x175 h176 => Zo 31 rfl rfl rfl (apn 108 rfl rfl rfl (.own 420 rfl) h176 tu188 ti56 rfl rfl rfl) (fun _ => rfl) fun v177 => hTakeF 32 rfl (by kernel_rfl) (by kernel_rfl) (by kernel_rfl) (gd0 rfl) rfl rfl flat_val (asg rfl) <| hDone (by kernel_rfl) <| eBlk <| eThen <| gReg <| Zm rfl <| Zq (I.add rfl rfl) <| Za rfl <| lName 7 rfl fun y178 => gNil <| eNext (fun aa ww h => ⟨nvl [v177], h.sub [1, 2, 108] (Zs rfl rfl rfl rfl <| sN) (Zi rfl <| Zi rfl <| Zi rfl <| rN)⟩)
     ·
      refine oRun 10 rfl (gd0 rfl) rfl rfl flat_num (ld 108 rfl rfl (Foc.el h32) ty56 rfl) <| hAlt [5, 15] (by kernel_rfl) rfl ⟨?_, ?_, trivial⟩
      ·
       refine oRun 5 rfl (gd0 rfl) rfl rfl flat_num (ld 108 rfl rfl (Foc.el h30) ty56 rfl) <| hTk 11 rfl rfl (W.add rfl rfl) <| hCallF 15 [] [] rfl (by kernel_rfl) rfl (gd0 rfl) rfl Tryz.func159 rfl rfl (braidref01_turn_ok _ _) (aQ rfl <| aQ rfl <| aN) rN rfl (fun _ _ => flat_num) fun r179 n180 => hTk 16 rfl rfl (W.xor rfl rfl) <| hTk 19 rfl rfl (W.xor rfl rfl) <| hTk 20 rfl rfl (W.add rfl rfl) <| hCallF 22 [] [] rfl (by kernel_rfl) rfl (gd0 rfl) rfl Tryz.func159 rfl rfl (braidref01_turn_ok _ _) (aQ rfl <| aQ rfl <| aN) rN rfl (fun _ _ => flat_num) fun r181 n182 => hCallF 24 [] [] rfl (by kernel_rfl) rfl (gd0 rfl) rfl Tryz.func159 rfl rfl (braidref01_turn_ok _ _) (aQ rfl <| aQ rfl <| aN) rN rfl (fun _ _ => flat_num) fun r183 n184 => hTk 25 rfl rfl (W.xor rfl rfl) <| hTk 28 rfl rfl (W.xor rfl rfl) <| hTk 29 rfl rfl (W.add rfl rfl) <| Zo 30 rfl rfl rfl (lit (R := u32R) ([((x29 + x31) + ((r139 ^^^ r179) ^^^ (shr32 x25 3))) + ((r181 ^^^ r183) ^^^ (shr32 x27 10))] : List UInt32) 420 (pP rfl rfl <| pN) rfl tu188 ti56 rfl rfl) (fun _ => rfl) fun v185 => hBind fun x186 h187 => Zo 31 rfl rfl rfl (apn 108 rfl rfl rfl (.own 420 rfl) h187 tu188 ti56 rfl rfl rfl) (fun _ => rfl) fun v188 => hTakeF 32 rfl (by kernel_rfl) (by kernel_rfl) (by kernel_rfl) (gd0 rfl) rfl rfl flat_val (asg rfl) <| hDone (by kernel_rfl) <| eBlk <| eThen <| gReg <| Zm rfl <| Zq (I.add rfl rfl) <| Za rfl <| lName 7 rfl fun y189 => gNil <| eNext (fun aa ww h => ⟨nvl [v188], h.sub [1, 2, 108] (Zs rfl rfl rfl rfl <| sN) (Zi rfl <| Zi rfl <| Zi rfl <| rN)⟩)
      ·
       refine oCallF 15 [] [] rfl rfl (gd0 rfl) rfl Tryz.func159 rfl rfl (braidref01_turn_ok _ _) (aQ rfl <| aQ rfl <| aN) rN rfl (fun _ _ => flat_num) fun r190 n191 => hTk 16 rfl rfl (W.xor rfl rfl) <| hTk 19 rfl rfl (W.xor rfl rfl) <| hAlt [5, 22] (by kernel_rfl) rfl ⟨?_, ?_, trivial⟩
       ·
        refine oRun 5 rfl (gd0 rfl) rfl rfl flat_num (ld 108 rfl rfl (Foc.el h30) ty56 rfl) <| hTk 11 rfl rfl (W.add rfl rfl) <| hTk 20 rfl rfl (W.add rfl rfl) <| hCallF 22 [] [] rfl (by kernel_rfl) rfl (gd0 rfl) rfl Tryz.func159 rfl rfl (braidref01_turn_ok _ _) (aQ rfl <| aQ rfl <| aN) rN rfl (fun _ _ => flat_num) fun r192 n193 => hCallF 24 [] [] rfl (by kernel_rfl) rfl (gd0 rfl) rfl Tryz.func159 rfl rfl (braidref01_turn_ok _ _) (aQ rfl <| aQ rfl <| aN) rN rfl (fun _ _ => flat_num) fun r194 n195 => hTk 25 rfl rfl (W.xor rfl rfl) <| hTk 28 rfl rfl (W.xor rfl rfl) <| hTk 29 rfl rfl (W.add rfl rfl) <| Zo 30 rfl rfl rfl (lit (R := u32R) ([((x29 + x31) + ((r139 ^^^ r190) ^^^ (shr32 x25 3))) + ((r192 ^^^ r194) ^^^ (shr32 x27 10))] : List UInt32) 420 (pP rfl rfl <| pN) rfl tu188 ti56 rfl rfl) (fun _ => rfl) fun v196 => hBind fun x197 h198 => Zo 31 rfl rfl rfl (apn 108 rfl rfl rfl (.own 420 rfl) h198 tu188 ti56 rfl rfl rfl) (fun _ => rfl) fun v199 => hTakeF 32 rfl (by kernel_rfl) (by kernel_rfl) (by kernel_rfl) (gd0 rfl) rfl rfl flat_val (asg rfl) <| hDone (by kernel_rfl) <| eBlk <| eThen <| gReg <| Zm rfl <| Zq (I.add rfl rfl) <| Za rfl <| lName 7 rfl fun y200 => gNil <| eNext (fun aa ww h => ⟨nvl [v199], h.sub [1, 2, 108] (Zs rfl rfl rfl rfl <| sN) (Zi rfl <| Zi rfl <| Zi rfl <| rN)⟩)
       ·
        refine oCallF 22 [] [] rfl rfl (gd0 rfl) rfl Tryz.func159 rfl rfl (braidref01_turn_ok _ _) (aQ rfl <| aQ rfl <| aN) rN rfl (fun _ _ => flat_num) fun r201 n202 => hAlt [5, 24] (by kernel_rfl) rfl ⟨?_, ?_, trivial⟩
        ·
         refine oRun 5 rfl (gd0 rfl) rfl rfl flat_num (ld 108 rfl rfl (Foc.el h30) ty56 rfl) <| hTk 11 rfl rfl (W.add rfl rfl) <| hTk 20 rfl rfl (W.add rfl rfl) <| hCallF 24 [] [] rfl (by kernel_rfl) rfl (gd0 rfl) rfl Tryz.func159 rfl rfl (braidref01_turn_ok _ _) (aQ rfl <| aQ rfl <| aN) rN rfl (fun _ _ => flat_num) fun r203 n204 => hTk 25 rfl rfl (W.xor rfl rfl) <| hTk 28 rfl rfl (W.xor rfl rfl) <| hTk 29 rfl rfl (W.add rfl rfl) <| Zo 30 rfl rfl rfl (lit (R := u32R) ([((x29 + x31) + ((r139 ^^^ r190) ^^^ (shr32 x25 3))) + ((r201 ^^^ r203) ^^^ (shr32 x27 10))] : List UInt32) 420 (pP rfl rfl <| pN) rfl tu188 ti56 rfl rfl) (fun _ => rfl) fun v205 => hBind fun x206 h207 => Zo 31 rfl rfl rfl (apn 108 rfl rfl rfl (.own 420 rfl) h207 tu188 ti56 rfl rfl rfl) (fun _ => rfl) fun v208 => hTakeF 32 rfl (by kernel_rfl) (by kernel_rfl) (by kernel_rfl) (gd0 rfl) rfl rfl flat_val (asg rfl) <| hDone (by kernel_rfl) <| eBlk <| eThen <| gReg <| Zm rfl <| Zq (I.add rfl rfl) <| Za rfl <| lName 7 rfl fun y209 => gNil <| eNext (fun aa ww h => ⟨nvl [v208], h.sub [1, 2, 108] (Zs rfl rfl rfl rfl <| sN) (Zi rfl <| Zi rfl <| Zi rfl <| rN)⟩)
        ·
         refine oCallF 24 [] [] rfl rfl (gd0 rfl) rfl Tryz.func159 rfl rfl (braidref01_turn_ok _ _) (aQ rfl <| aQ rfl <| aN) rN rfl (fun _ _ => flat_num) fun r210 n211 => hTk 25 rfl rfl (W.xor rfl rfl) <| hTk 28 rfl rfl (W.xor rfl rfl) <| hRun 5 rfl (by kernel_rfl) (gd0 rfl) rfl rfl flat_num (ld 108 rfl rfl (Foc.el h30) ty56 rfl) <| hTk 11 rfl rfl (W.add rfl rfl) <| hTk 20 rfl rfl (W.add rfl rfl) <| hTk 29 rfl rfl (W.add rfl rfl) <| Zo 30 rfl rfl rfl (lit (R := u32R) ([((x29 + x31) + ((r139 ^^^ r190) ^^^ (shr32 x25 3))) + ((r201 ^^^ r210) ^^^ (shr32 x27 10))] : List UInt32) 420 (pP rfl rfl <| pN) rfl tu188 ti56 rfl rfl) (fun _ => rfl) fun v212 => hBind fun x213 h214 => Zo 31 rfl rfl rfl (apn 108 rfl rfl rfl (.own 420 rfl) h214 tu188 ti56 rfl rfl rfl) (fun _ => rfl) fun v215 => hTakeF 32 rfl (by kernel_rfl) (by kernel_rfl) (by kernel_rfl) (gd0 rfl) rfl rfl flat_val (asg rfl) <| hDone (by kernel_rfl) <| eBlk <| eThen <| gReg <| Zm rfl <| Zq (I.add rfl rfl) <| Za rfl <| lName 7 rfl fun y216 => gNil <| eNext (fun aa ww h => ⟨nvl [v215], h.sub [1, 2, 108] (Zs rfl rfl rfl rfl <| sN) (Zi rfl <| Zi rfl <| Zi rfl <| rN)⟩)
     ·
      refine oCallF 15 [] [] rfl rfl (gd0 rfl) rfl Tryz.func159 rfl rfl (braidref01_turn_ok _ _) (aQ rfl <| aQ rfl <| aN) rN rfl (fun _ _ => flat_num) fun r217 n218 => hTk 16 rfl rfl (W.xor rfl rfl) <| hTk 19 rfl rfl (W.xor rfl rfl) <| hAlt [5, 10, 22] (by kernel_rfl) rfl ⟨?_, ?_, ?_, trivial⟩
      ·
       refine oRun 5 rfl (gd0 rfl) rfl rfl flat_num (ld 108 rfl rfl (Foc.el h30) ty56 rfl) <| hAlt [10, 22] (by kernel_rfl) rfl ⟨?_, ?_, trivial⟩
       ·
        refine oRun 10 rfl (gd0 rfl) rfl rfl flat_num (ld 108 rfl rfl (Foc.el h32) ty56 rfl) <| hTk 11 rfl rfl (W.add rfl rfl) <| hTk 20 rfl rfl (W.add rfl rfl) <| hCallF 22 [] [] rfl (by kernel_rfl) rfl (gd0 rfl) rfl Tryz.func159 rfl rfl (braidref01_turn_ok _ _) (aQ rfl <| aQ rfl <| aN) rN rfl (fun _ _ => flat_num) fun r219 n220 => hCallF 24 [] [] rfl (by kernel_rfl) rfl (gd0 rfl) rfl Tryz.func159 rfl rfl (braidref01_turn_ok _ _) (aQ rfl <| aQ rfl <| aN) rN rfl (fun _ _ => flat_num) fun r221 n222 => hTk 25 rfl rfl (W.xor rfl rfl) <| hTk 28 rfl rfl (W.xor rfl rfl) <| hTk 29 rfl rfl (W.add rfl rfl) <| Zo 30 rfl rfl rfl (lit (R := u32R) ([((x29 + x31) + ((r139 ^^^ r217) ^^^ (shr32 x25 3))) + ((r219 ^^^ r221) ^^^ (shr32 x27 10))] : List UInt32) 420 (pP rfl rfl <| pN) rfl tu188 ti56 rfl rfl) (fun _ => rfl) fun v223 => hBind fun x224 h225 => Zo 31 rfl rfl rfl (apn 108 rfl rfl rfl (.own 420 rfl) h225 tu188 ti56 rfl rfl rfl) (fun _ => rfl) fun v226 => hTakeF 32 rfl (by kernel_rfl) (by kernel_rfl) (by kernel_rfl) (gd0 rfl) rfl rfl flat_val (asg rfl) <| hDone (by kernel_rfl) <| eBlk <| eThen <| gReg <| Zm rfl <| Zq (I.add rfl rfl) <| Za rfl <| lName 7 rfl fun y227 => gNil <| eNext (fun aa ww h => ⟨nvl [v226], h.sub [1, 2, 108] (Zs rfl rfl rfl rfl <| sN) (Zi rfl <| Zi rfl <| Zi rfl <| rN)⟩)
       ·
        refine oCallF 22 [] [] rfl rfl (gd0 rfl) rfl Tryz.func159 rfl rfl (braidref01_turn_ok _ _) (aQ rfl <| aQ rfl <| aN) rN rfl (fun _ _ => flat_num) fun r228 n229 => hAlt [10, 24] (by kernel_rfl) rfl ⟨?_, ?_, trivial⟩
        ·
         refine oRun 10 rfl (gd0 rfl) rfl rfl flat_num (ld 108 rfl rfl (Foc.el h32) ty56 rfl) <| hTk 11 rfl rfl (W.add rfl rfl) <| hTk 20 rfl rfl (W.add rfl rfl) <| hCallF 24 [] [] rfl (by kernel_rfl) rfl (gd0 rfl) rfl Tryz.func159 rfl rfl (braidref01_turn_ok _ _) (aQ rfl <| aQ rfl <| aN) rN rfl (fun _ _ => flat_num) fun r230 n231 => hTk 25 rfl rfl (W.xor rfl rfl) <| hTk 28 rfl rfl (W.xor rfl rfl) <| hTk 29 rfl rfl (W.add rfl rfl) <| Zo 30 rfl rfl rfl (lit (R := u32R) ([((x29 + x31) + ((r139 ^^^ r217) ^^^ (shr32 x25 3))) + ((r228 ^^^ r230) ^^^ (shr32 x27 10))] : List UInt32) 420 (pP rfl rfl <| pN) rfl tu188 ti56 rfl rfl) (fun _ => rfl) fun v232 => hBind fun x233 h234 => Zo 31 rfl rfl rfl (apn 108 rfl rfl rfl (.own 420 rfl) h234 tu188 ti56 rfl rfl rfl) (fun _ => rfl) fun v235 => hTakeF 32 rfl (by kernel_rfl) (by kernel_rfl) (by kernel_rfl) (gd0 rfl) rfl rfl flat_val (asg rfl) <| hDone (by kernel_rfl) <| eBlk <| eThen <| gReg <| Zm rfl <| Zq (I.add rfl rfl) <| Za rfl <| lName 7 rfl fun y236 => gNil <| eNext (fun aa ww h => ⟨nvl [v235], h.sub [1, 2, 108] (Zs rfl rfl rfl rfl <| sN) (Zi rfl <| Zi rfl <| Zi rfl <| rN)⟩)
        ·
         refine oCallF 24 [] [] rfl rfl (gd0 rfl) rfl Tryz.func159 rfl rfl (braidref01_turn_ok _ _) (aQ rfl <| aQ rfl <| aN) rN rfl (fun _ _ => flat_num) fun r237 n238 => hTk 25 rfl rfl (W.xor rfl rfl) <| hTk 28 rfl rfl (W.xor rfl rfl) <| hRun 10 rfl (by kernel_rfl) (gd0 rfl) rfl rfl flat_num (ld 108 rfl rfl (Foc.el h32) ty56 rfl) <| hTk 11 rfl rfl (W.add rfl rfl) <| hTk 20 rfl rfl (W.add rfl rfl) <| hTk 29 rfl rfl (W.add rfl rfl) <| Zo 30 rfl rfl rfl (lit (R := u32R) ([((x29 + x31) + ((r139 ^^^ r217) ^^^ (shr32 x25 3))) + ((r228 ^^^ r237) ^^^ (shr32 x27 10))] : List UInt32) 420 (pP rfl rfl <| pN) rfl tu188 ti56 rfl rfl) (fun _ => rfl) fun v239 => hBind fun x240 h241 => Zo 31 rfl rfl rfl (apn 108 rfl rfl rfl (.own 420 rfl) h241 tu188 ti56 rfl rfl rfl) (fun _ => rfl) fun v242 => hTakeF 32 rfl (by kernel_rfl) (by kernel_rfl) (by kernel_rfl) (gd0 rfl) rfl rfl flat_val (asg rfl) <| hDone (by kernel_rfl) <| eBlk <| eThen <| gReg <| Zm rfl <| Zq (I.add rfl rfl) <| Za rfl <| lName 7 rfl fun y243 => gNil <| eNext (fun aa ww h => ⟨nvl [v242], h.sub [1, 2, 108] (Zs rfl rfl rfl rfl <| sN) (Zi rfl <| Zi rfl <| Zi rfl <| rN)⟩)
      ·
       refine oRun 10 rfl (gd0 rfl) rfl rfl flat_num (ld 108 rfl rfl (Foc.el h32) ty56 rfl) <| hAlt [5, 22] (by kernel_rfl) rfl ⟨?_, ?_, trivial⟩
       ·
        refine oRun 5 rfl (gd0 rfl) rfl rfl flat_num (ld 108 rfl rfl (Foc.el h30) ty56 rfl) <| hTk 11 rfl rfl (W.add rfl rfl) <| hTk 20 rfl rfl (W.add rfl rfl) <| hCallF 22 [] [] rfl (by kernel_rfl) rfl (gd0 rfl) rfl Tryz.func159 rfl rfl (braidref01_turn_ok _ _) (aQ rfl <| aQ rfl <| aN) rN rfl (fun _ _ => flat_num) fun r244 n245 => hCallF 24 [] [] rfl (by kernel_rfl) rfl (gd0 rfl) rfl Tryz.func159 rfl rfl (braidref01_turn_ok _ _) (aQ rfl <| aQ rfl <| aN) rN rfl (fun _ _ => flat_num) fun r246 n247 => hTk 25 rfl rfl (W.xor rfl rfl) <| hTk 28 rfl rfl (W.xor rfl rfl) <| hTk 29 rfl rfl (W.add rfl rfl) <| Zo 30 rfl rfl rfl (lit (R := u32R) ([((x29 + x31) + ((r139 ^^^ r217) ^^^ (shr32 x25 3))) + ((r244 ^^^ r246) ^^^ (shr32 x27 10))] : List UInt32) 420 (pP rfl rfl <| pN) rfl tu188 ti56 rfl rfl) (fun _ => rfl) fun v248 => hBind fun x249 h250 => Zo 31 rfl rfl rfl (apn 108 rfl rfl rfl (.own 420 rfl) h250 tu188 ti56 rfl rfl rfl) (fun _ => rfl) fun v251 => hTakeF 32 rfl (by kernel_rfl) (by kernel_rfl) (by kernel_rfl) (gd0 rfl) rfl rfl flat_val (asg rfl) <| hDone (by kernel_rfl) <| eBlk <| eThen <| gReg <| Zm rfl <| Zq (I.add rfl rfl) <| Za rfl <| lName 7 rfl fun y252 => gNil <| eNext (fun aa ww h => ⟨nvl [v251], h.sub [1, 2, 108] (Zs rfl rfl rfl rfl <| sN) (Zi rfl <| Zi rfl <| Zi rfl <| rN)⟩)
       ·
        refine oCallF 22 [] [] rfl rfl (gd0 rfl) rfl Tryz.func159 rfl rfl (braidref01_turn_ok _ _) (aQ rfl <| aQ rfl <| aN) rN rfl (fun _ _ => flat_num) fun r253 n254 => hAlt [5, 24] (by kernel_rfl) rfl ⟨?_, ?_, trivial⟩
        ·
         refine oRun 5 rfl (gd0 rfl) rfl rfl flat_num (ld 108 rfl rfl (Foc.el h30) ty56 rfl) <| hTk 11 rfl rfl (W.add rfl rfl) <| hTk 20 rfl rfl (W.add rfl rfl) <| hCallF 24 [] [] rfl (by kernel_rfl) rfl (gd0 rfl) rfl Tryz.func159 rfl rfl (braidref01_turn_ok _ _) (aQ rfl <| aQ rfl <| aN) rN rfl (fun _ _ => flat_num) fun r255 n256 => hTk 25 rfl rfl (W.xor rfl rfl) <| hTk 28 rfl rfl (W.xor rfl rfl) <| hTk 29 rfl rfl (W.add rfl rfl) <| Zo 30 rfl rfl rfl (lit (R := u32R) ([((x29 + x31) + ((r139 ^^^ r217) ^^^ (shr32 x25 3))) + ((r253 ^^^ r255) ^^^ (shr32 x27 10))] : List UInt32) 420 (pP rfl rfl <| pN) rfl tu188 ti56 rfl rfl) (fun _ => rfl) fun v257 => hBind fun x258 h259 => Zo 31 rfl rfl rfl (apn 108 rfl rfl rfl (.own 420 rfl) h259 tu188 ti56 rfl rfl rfl) (fun _ => rfl) fun v260 => hTakeF 32 rfl (by kernel_rfl) (by kernel_rfl) (by kernel_rfl) (gd0 rfl) rfl rfl flat_val (asg rfl) <| hDone (by kernel_rfl) <| eBlk <| eThen <| gReg <| Zm rfl <| Zq (I.add rfl rfl) <| Za rfl <| lName 7 rfl fun y261 => gNil <| eNext (fun aa ww h => ⟨nvl [v260], h.sub [1, 2, 108] (Zs rfl rfl rfl rfl <| sN) (Zi rfl <| Zi rfl <| Zi rfl <| rN)⟩)
        ·
         refine oCallF 24 [] [] rfl rfl (gd0 rfl) rfl Tryz.func159 rfl rfl (braidref01_turn_ok _ _) (aQ rfl <| aQ rfl <| aN) rN rfl (fun _ _ => flat_num) fun r262 n263 => hTk 25 rfl rfl (W.xor rfl rfl) <| hTk 28 rfl rfl (W.xor rfl rfl) <| hRun 5 rfl (by kernel_rfl) (gd0 rfl) rfl rfl flat_num (ld 108 rfl rfl (Foc.el h30) ty56 rfl) <| hTk 11 rfl rfl (W.add rfl rfl) <| hTk 20 rfl rfl (W.add rfl rfl) <| hTk 29 rfl rfl (W.add rfl rfl) <| Zo 30 rfl rfl rfl (lit (R := u32R) ([((x29 + x31) + ((r139 ^^^ r217) ^^^ (shr32 x25 3))) + ((r253 ^^^ r262) ^^^ (shr32 x27 10))] : List UInt32) 420 (pP rfl rfl <| pN) rfl tu188 ti56 rfl rfl) (fun _ => rfl) fun v264 => hBind fun x265 h266 => Zo 31 rfl rfl rfl (apn 108 rfl rfl rfl (.own 420 rfl) h266 tu188 ti56 rfl rfl rfl) (fun _ => rfl) fun v267 => hTakeF 32 rfl (by kernel_rfl) (by kernel_rfl) (by kernel_rfl) (gd0 rfl) rfl rfl flat_val (asg rfl) <| hDone (by kernel_rfl) <| eBlk <| eThen <| gReg <| Zm rfl <| Zq (I.add rfl rfl) <| Za rfl <| lName 7 rfl fun y268 => gNil <| eNext (fun aa ww h => ⟨nvl [v267], h.sub [1, 2, 108] (Zs rfl rfl rfl rfl <| sN) (Zi rfl <| Zi rfl <| Zi rfl <| rN)⟩)
      ·
       refine oCallF 22 [] [] rfl rfl (gd0 rfl) rfl Tryz.func159 rfl rfl (braidref01_turn_ok _ _) (aQ rfl <| aQ rfl <| aN) rN rfl (fun _ _ => flat_num) fun r269 n270 => hAlt [5, 10, 24] (by kernel_rfl) rfl ⟨?_, ?_, ?_, trivial⟩
       ·
        refine oRun 5 rfl (gd0 rfl) rfl rfl flat_num (ld 108 rfl rfl (Foc.el h30) ty56 rfl) <| hAlt [10, 24] (by kernel_rfl) rfl ⟨?_, ?_, trivial⟩
        ·
         refine oRun 10 rfl (gd0 rfl) rfl rfl flat_num (ld 108 rfl rfl (Foc.el h32) ty56 rfl) <| hTk 11 rfl rfl (W.add rfl rfl) <| hTk 20 rfl rfl (W.add rfl rfl) <| hCallF 24 [] [] rfl (by kernel_rfl) rfl (gd0 rfl) rfl Tryz.func159 rfl rfl (braidref01_turn_ok _ _) (aQ rfl <| aQ rfl <| aN) rN rfl (fun _ _ => flat_num) fun r271 n272 => hTk 25 rfl rfl (W.xor rfl rfl) <| hTk 28 rfl rfl (W.xor rfl rfl) <| hTk 29 rfl rfl (W.add rfl rfl) <| Zo 30 rfl rfl rfl (lit (R := u32R) ([((x29 + x31) + ((r139 ^^^ r217) ^^^ (shr32 x25 3))) + ((r269 ^^^ r271) ^^^ (shr32 x27 10))] : List UInt32) 420 (pP rfl rfl <| pN) rfl tu188 ti56 rfl rfl) (fun _ => rfl) fun v273 => hBind fun x274 h275 => Zo 31 rfl rfl rfl (apn 108 rfl rfl rfl (.own 420 rfl) h275 tu188 ti56 rfl rfl rfl) (fun _ => rfl) fun v276 => hTakeF 32 rfl (by kernel_rfl) (by kernel_rfl) (by kernel_rfl) (gd0 rfl) rfl rfl flat_val (asg rfl) <| hDone (by kernel_rfl) <| eBlk <| eThen <| gReg <| Zm rfl <| Zq (I.add rfl rfl) <| Za rfl <| lName 7 rfl fun y277 => gNil <| eNext (fun aa ww h => ⟨nvl [v276], h.sub [1, 2, 108] (Zs rfl rfl rfl rfl <| sN) (Zi rfl <| Zi rfl <| Zi rfl <| rN)⟩)
        ·
         refine oCallF 24 [] [] rfl rfl (gd0 rfl) rfl Tryz.func159 rfl rfl (braidref01_turn_ok _ _) (aQ rfl <| aQ rfl <| aN) rN rfl (fun _ _ => flat_num) fun r278 n279 => hTk 25 rfl rfl (W.xor rfl rfl) <| hTk 28 rfl rfl (W.xor rfl rfl) <| hRun 10 rfl (by kernel_rfl) (gd0 rfl) rfl rfl flat_num (ld 108 rfl rfl (Foc.el h32) ty56 rfl) <| hTk 11 rfl rfl (W.add rfl rfl) <| hTk 20 rfl rfl (W.add rfl rfl) <| hTk 29 rfl rfl (W.add rfl rfl) <| Zo 30 rfl rfl rfl (lit (R := u32R) ([((x29 + x31) + ((r139 ^^^ r217) ^^^ (shr32 x25 3))) + ((r269 ^^^ r278) ^^^ (shr32 x27 10))] : List UInt32) 420 (pP rfl rfl <| pN) rfl tu188 ti56 rfl rfl) (fun _ => rfl) fun v280 => hBind fun x281 h282 => Zo 31 rfl rfl rfl (apn 108 rfl rfl rfl (.own 420 rfl) h282 tu188 ti56 rfl rfl rfl) (fun _ => rfl) fun v283 => hTakeF 32 rfl (by kernel_rfl) (by kernel_rfl) (by kernel_rfl) (gd0 rfl) rfl rfl flat_val (asg rfl) <| hDone (by kernel_rfl) <| eBlk <| eThen <| gReg <| Zm rfl <| Zq (I.add rfl rfl) <| Za rfl <| lName 7 rfl fun y284 => gNil <| eNext (fun aa ww h => ⟨nvl [v283], h.sub [1, 2, 108] (Zs rfl rfl rfl rfl <| sN) (Zi rfl <| Zi rfl <| Zi rfl <| rN)⟩)
       ·
        refine oRun 10 rfl (gd0 rfl) rfl rfl flat_num (ld 108 rfl rfl (Foc.el h32) ty56 rfl) <| hAlt [5, 24] (by kernel_rfl) rfl ⟨?_, ?_, trivial⟩
        ·
         refine oRun 5 rfl (gd0 rfl) rfl rfl flat_num (ld 108 rfl rfl (Foc.el h30) ty56 rfl) <| hTk 11 rfl rfl (W.add rfl rfl) <| hTk 20 rfl rfl (W.add rfl rfl) <| hCallF 24 [] [] rfl (by kernel_rfl) rfl (gd0 rfl) rfl Tryz.func159 rfl rfl (braidref01_turn_ok _ _) (aQ rfl <| aQ rfl <| aN) rN rfl (fun _ _ => flat_num) fun r285 n286 => hTk 25 rfl rfl (W.xor rfl rfl) <| hTk 28 rfl rfl (W.xor rfl rfl) <| hTk 29 rfl rfl (W.add rfl rfl) <| Zo 30 rfl rfl rfl (lit (R := u32R) ([((x29 + x31) + ((r139 ^^^ r217) ^^^ (shr32 x25 3))) + ((r269 ^^^ r285) ^^^ (shr32 x27 10))] : List UInt32) 420 (pP rfl rfl <| pN) rfl tu188 ti56 rfl rfl) (fun _ => rfl) fun v287 => hBind fun x288 h289 => Zo 31 rfl rfl rfl (apn 108 rfl rfl rfl (.own 420 rfl) h289 tu188 ti56 rfl rfl rfl) (fun _ => rfl) fun v290 => hTakeF 32 rfl (by kernel_rfl) (by kernel_rfl) (by kernel_rfl) (gd0 rfl) rfl rfl flat_val (asg rfl) <| hDone (by kernel_rfl) <| eBlk <| eThen <| gReg <| Zm rfl <| Zq (I.add rfl rfl) <| Za rfl <| lName 7 rfl fun y291 => gNil <| eNext (fun aa ww h => ⟨nvl [v290], h.sub [1, 2, 108] (Zs rfl rfl rfl rfl <| sN) (Zi rfl <| Zi rfl <| Zi rfl <| rN)⟩)
        ·
         refine oCallF 24 [] [] rfl rfl (gd0 rfl) rfl Tryz.func159 rfl rfl (braidref01_turn_ok _ _) (aQ rfl <| aQ rfl <| aN) rN rfl (fun _ _ => flat_num) fun r292 n293 => hTk 25 rfl rfl (W.xor rfl rfl) <| hTk 28 rfl rfl (W.xor rfl rfl) <| hRun 5 rfl (by kernel_rfl) (gd0 rfl) rfl rfl flat_num (ld 108 rfl rfl (Foc.el h30) ty56 rfl) <| hTk 11 rfl rfl (W.add rfl rfl) <| hTk 20 rfl rfl (W.add rfl rfl) <| hTk 29 rfl rfl (W.add rfl rfl) <| Zo 30 rfl rfl rfl (lit (R := u32R) ([((x29 + x31) + ((r139 ^^^ r217) ^^^ (shr32 x25 3))) + ((r269 ^^^ r292) ^^^ (shr32 x27 10))] : List UInt32) 420 (pP rfl rfl <| pN) rfl tu188 ti56 rfl rfl) (fun _ => rfl) fun v294 => hBind fun x295 h296 => Zo 31 rfl rfl rfl (apn 108 rfl rfl rfl (.own 420 rfl) h296 tu188 ti56 rfl rfl rfl) (fun _ => rfl) fun v297 => hTakeF 32 rfl (by kernel_rfl) (by kernel_rfl) (by kernel_rfl) (gd0 rfl) rfl rfl flat_val (asg rfl) <| hDone (by kernel_rfl) <| eBlk <| eThen <| gReg <| Zm rfl <| Zq (I.add rfl rfl) <| Za rfl <| lName 7 rfl fun y298 => gNil <| eNext (fun aa ww h => ⟨nvl [v297], h.sub [1, 2, 108] (Zs rfl rfl rfl rfl <| sN) (Zi rfl <| Zi rfl <| Zi rfl <| rN)⟩)
       ·
        refine oCallF 24 [] [] rfl rfl (gd0 rfl) rfl Tryz.func159 rfl rfl (braidref01_turn_ok _ _) (aQ rfl <| aQ rfl <| aN) rN rfl (fun _ _ => flat_num) fun r299 n300 => hTk 25 rfl rfl (W.xor rfl rfl) <| hTk 28 rfl rfl (W.xor rfl rfl) <| hAlt [5, 10] (by kernel_rfl) rfl ⟨?_, ?_, trivial⟩
        ·
         refine oRun 5 rfl (gd0 rfl) rfl rfl flat_num (ld 108 rfl rfl (Foc.el h30) ty56 rfl) <| hRun 10 rfl (by kernel_rfl) (gd0 rfl) rfl rfl flat_num (ld 108 rfl rfl (Foc.el h32) ty56 rfl) <| hTk 11 rfl rfl (W.add rfl rfl) <| hTk 20 rfl rfl (W.add rfl rfl) <| hTk 29 rfl rfl (W.add rfl rfl) <| Zo 30 rfl rfl rfl (lit (R := u32R) ([((x29 + x31) + ((r139 ^^^ r217) ^^^ (shr32 x25 3))) + ((r269 ^^^ r299) ^^^ (shr32 x27 10))] : List UInt32) 420 (pP rfl rfl <| pN) rfl tu188 ti56 rfl rfl) (fun _ => rfl) fun v301 => hBind fun x302 h303 => Zo 31 rfl rfl rfl (apn 108 rfl rfl rfl (.own 420 rfl) h303 tu188 ti56 rfl rfl rfl) (fun _ => rfl) fun v304 => hTakeF 32 rfl (by kernel_rfl) (by kernel_rfl) (by kernel_rfl) (gd0 rfl) rfl rfl flat_val (asg rfl) <| hDone (by kernel_rfl) <| eBlk <| eThen <| gReg <| Zm rfl <| Zq (I.add rfl rfl) <| Za rfl <| lName 7 rfl fun y305 => gNil <| eNext (fun aa ww h => ⟨nvl [v304], h.sub [1, 2, 108] (Zs rfl rfl rfl rfl <| sN) (Zi rfl <| Zi rfl <| Zi rfl <| rN)⟩)
        ·
         refine oRun 10 rfl (gd0 rfl) rfl rfl flat_num (ld 108 rfl rfl (Foc.el h32) ty56 rfl) <| hRun 5 rfl (by kernel_rfl) (gd0 rfl) rfl rfl flat_num (ld 108 rfl rfl (Foc.el h30) ty56 rfl) <| hTk 11 rfl rfl (W.add rfl rfl) <| hTk 20 rfl rfl (W.add rfl rfl) <| hTk 29 rfl rfl (W.add rfl rfl) <| Zo 30 rfl rfl rfl (lit (R := u32R) ([((x29 + x31) + ((r139 ^^^ r217) ^^^ (shr32 x25 3))) + ((r269 ^^^ r299) ^^^ (shr32 x27 10))] : List UInt32) 420 (pP rfl rfl <| pN) rfl tu188 ti56 rfl rfl) (fun _ => rfl) fun v306 => hBind fun x307 h308 => Zo 31 rfl rfl rfl (apn 108 rfl rfl rfl (.own 420 rfl) h308 tu188 ti56 rfl rfl rfl) (fun _ => rfl) fun v309 => hTakeF 32 rfl (by kernel_rfl) (by kernel_rfl) (by kernel_rfl) (gd0 rfl) rfl rfl flat_val (asg rfl) <| hDone (by kernel_rfl) <| eBlk <| eThen <| gReg <| Zm rfl <| Zq (I.add rfl rfl) <| Za rfl <| lName 7 rfl fun y310 => gNil <| eNext (fun aa ww h => ⟨nvl [v309], h.sub [1, 2, 108] (Zs rfl rfl rfl rfl <| sN) (Zi rfl <| Zi rfl <| Zi rfl <| rN)⟩)
   ·
    refine gExit <| eTexit <| eLeave <| eMid (fun aa ww h => ⟨nvl [(n23 0)], h.sub [1, 2, 108] (sS rfl <| sS rfl <| sS rfl <| sN) (Zi rfl <| Zi rfl <| Zi rfl <| rN)⟩)
  ·
   refine gEx fun n311 => gSR <| call [] [(100, 432)] rfl Tryz.func160 rfl rfl (braidref01_constants_ok) (aN) rN fun r312 n313 => Za rfl <| Zn <| gSR <| Zq (ld 1 rfl rfl Foc.here ty141 rfl) <| Eb rfl (allc 433 ti141 (.zr (R := (arrR 8 u32R)) (x := (Vector.replicate 8 0)) zr141)) fun v314 => Es (sto 433 rfl rfl Foc.here rfl ti141) <| Zn <| gMid (fun (s315 : (Vector UInt32 8)) aa ww => Sta (ctx 203 H [] w) [(2, .val (ptrTo v1 0)), (4, .val (ptrTo v2 0)), (11, .val (ptrTo v314 0))] [(1, some (v1, .box 141 [.rd (arrR 8 u32R) a0])), (2, some (v2, .box 141 [.rd (arrR 8 u32R) (Vector.replicate 8 0)])), (433, some (v314, .box 141 [.rd (arrR 8 u32R) s315]))] aa ww) ?_ (fun s315 => ?_)
   ·
    refine gSR <| Za rfl <| Zn <| gLoop (fun (s316 : (Vector UInt32 8) × Int) aa ww => Sta (ctx 203 H [] w) [(2, .val (ptrTo v1 0)), (4, .val (ptrTo v2 0)), (5, .val (n311 0)), (10, .val (n313 0)), (11, .val (ptrTo v314 0)), (12, .rd i64R s316.2)] [(1, some (v1, .box 141 [.rd (arrR 8 u32R) a0])), (2, some (v2, .box 141 [.rd (arrR 8 u32R) (Vector.replicate 8 0)])), (108, some ((n311 0), .list u32R 56 s21)), (432, some ((n313 0), .list u32R 56 r312)), (433, some (v314, .box 141 [.rd (arrR 8 u32R) s316.1]))] aa ww) (fun aa ww h => h.sub [1, 2, 108, 432, 433] (Zs rfl rfl rfl rfl <| sS rfl <| sS rfl <| sN) (Zi rfl <| Zi rfl <| Zi rfl <| Zi rfl <| Zi rfl <| rN)) (fun s316 => ?_)
    refine gSeq <| gSR <| Zm rfl <| Zq (I.lss rfl rfl) <| Zn <| gIf rfl rfl (fun h317 => ?_) (fun h317 => ?_)
    ·
     refine Zt <| gSeq <| gBlk <| gSeq <| gRegQ mixed (by kernel_rfl) <| qBind fun x318 h319 => Rq rfl (ixB 433 rfl rfl rfl h319 tu141 ti56) <| Rq rfl (ld 433 rfl rfl ((Foc.here).part (.el h319)) ty56 rfl) <| qBind fun x320 h321 => Rq rfl (ixB 433 rfl rfl rfl h321 tu141 ti56) <| Rq rfl (ld 433 rfl rfl ((Foc.here).part (.el h321)) ty56 rfl) <| qBind fun x322 h323 => Rq rfl (ixB 433 rfl rfl rfl h323 tu141 ti56) <| Rq rfl (ld 433 rfl rfl ((Foc.here).part (.el h323)) ty56 rfl) <| qBind fun x324 h325 => Rq rfl (ixB 433 rfl rfl rfl h325 tu141 ti56) <| Rq rfl (ld 433 rfl rfl ((Foc.here).part (.el h325)) ty56 rfl) <| qBind fun x326 h327 => Rq rfl (ixB 433 rfl rfl rfl h327 tu141 ti56) <| Rq rfl (ld 433 rfl rfl ((Foc.here).part (.el h327)) ty56 rfl) <| qBind fun x328 h329 => Rq rfl (ixB 433 rfl rfl rfl h329 tu141 ti56) <| Rq rfl (ld 433 rfl rfl ((Foc.here).part (.el h329)) ty56 rfl) <| Rq rfl (asg rfl) <| Rq rfl (asg rfl) <| Rq rfl (asg rfl) <| Rq rfl (asg rfl) <| Rq rfl (asg rfl) <| Rq rfl (asg rfl) <| qNil <| eThen <| gSeq <| gRegH [] mixed rfl rfl <| hBind fun x330 h331 => hTk 0 rfl rfl (ixB 433 rfl rfl rfl h331 tu141 ti56) <| hTk 1 rfl rfl (ld 433 rfl rfl ((Foc.here).part (.el h331)) ty56 rfl) <| hTk 2 rfl rfl (mv rfl) <| hTk 4 rfl rfl (mv rfl) <| hTk 7 rfl rfl (mv rfl) <| hTk 11 rfl rfl (mv rfl) <| hTk 12 rfl rfl (mv rfl) <| hTk 13 rfl rfl (W.and rfl rfl) <| hTk 14 rfl rfl (mv rfl) <| hTk 15 rfl rfl (W.cpl rfl) <| hTk 16 rfl rfl (mv rfl) <| hTk 17 rfl rfl (W.and rfl rfl) <| hTk 18 rfl rfl (W.xor rfl rfl) <| hTk 20 rfl rfl (mv rfl) <| hTk 21 rfl rfl (mv rfl) <| hBind fun x332 h333 => hTk 22 rfl rfl (ixO 432 rfl rfl rfl h333 tu188 ti56) <| hTk 23 rfl rfl (ld 432 rfl rfl (Foc.el h333) ty56 rfl) <| hTk 25 rfl rfl (mv rfl) <| hTk 26 rfl rfl (mv rfl) <| hBind fun x334 h335 => hTk 27 rfl rfl (ixO 108 rfl rfl rfl h335 tu188 ti56) <| hTk 28 rfl rfl (ld 108 rfl rfl (Foc.el h335) ty56 rfl) <| hCallF 3 [] [] rfl (by kernel_rfl) rfl (gd0 rfl) rfl Tryz.func159 rfl rfl (braidref01_turn_ok _ _) (aQ rfl <| aQ rfl <| aN) rN rfl (fun _ _ => flat_num) fun r336 n337 => hCallF 5 [] [] rfl (by kernel_rfl) rfl (gd0 rfl) rfl Tryz.func159 rfl rfl (braidref01_turn_ok _ _) (aQ rfl <| aQ rfl <| aN) rN rfl (fun _ _ => flat_num) fun r338 n339 => hTk 6 rfl rfl (W.xor rfl rfl) <| hCallF 8 [] [] rfl (by kernel_rfl) rfl (gd0 rfl) rfl Tryz.func159 rfl rfl (braidref01_turn_ok _ _) (aQ rfl <| aQ rfl <| aN) rN rfl (fun _ _ => flat_num) fun r340 n341 => hTk 9 rfl rfl (W.xor rfl rfl) <| hTk 10 rfl rfl (W.add rfl rfl) <| hTk 19 rfl rfl (W.add rfl rfl) <| hTk 24 rfl rfl (W.add rfl rfl) <| hTk 29 rfl rfl (W.add rfl rfl) <| hTk 30 rfl rfl (asg rfl) <| hName 19 rfl rfl fun y342 => hDone (by kernel_rfl) <| eThen <| gSR <| Zm rfl <| call [] [] rfl Tryz.func159 rfl rfl (braidref01_turn_ok _ _) (aQ rfl <| aQ rfl <| aN) rN fun r343 n344 => Zm rfl <| call [] [] rfl Tryz.func159 rfl rfl (braidref01_turn_ok _ _) (aQ rfl <| aQ rfl <| aN) rN fun r345 n346 => Zq (W.xor rfl rfl) <| Zm rfl <| call [] [] rfl Tryz.func159 rfl rfl (braidref01_turn_ok _ _) (aQ rfl <| aQ rfl <| aN) rN fun r347 n348 => Zq (W.xor rfl rfl) <| Zm rfl <| Zm rfl <| Zq (W.and rfl rfl) <| Zm rfl <| Zm rfl <| Zq (W.and rfl rfl) <| Zq (W.xor rfl rfl) <| Zm rfl <| Zm rfl <| Zq (W.and rfl rfl) <| Zq (W.xor rfl rfl) <| Zq (W.add rfl rfl) <| Za rfl <| lName 20 rfl fun y349 => Zn <| gReg <| Zm rfl <| Zm rfl <| Zq (W.add rfl rfl) <| Zm rfl <| Zm rfl <| Zm rfl <| lBind fun x350 h351 => Zq (ixB 433 rfl rfl rfl h351 tu141 ti56) <| Zq (ld 433 rfl rfl ((Foc.here).part (.el h351)) ty56 rfl) <| Zm rfl <| Zq (W.add rfl rfl) <| Zm rfl <| Zm rfl <| Zm rfl <| Zq (litA (R := u32R) [y342 + y349, x318, x320, x322, x350 + y342, x324, x326, x328] (#v[y342 + y349, x318, x320, x322, x350 + y342, x324, x326, x328] : Vector UInt32 8) (pP rfl rfl <| pP rfl rfl <| pP rfl rfl <| pP rfl rfl <| pP rfl rfl <| pP rfl rfl <| pP rfl rfl <| pP rfl rfl <| pN) rfl tu141 ti141 rfl ti56) <| Es (sto 433 rfl rfl Foc.here rfl ti141) <| gNil <| eBlk <| eThen <| gReg <| Zm rfl <| Zq (I.add rfl rfl) <| Za rfl <| lName 12 rfl fun y352 => gNil <| eNext (fun aa ww h => h.sub [1, 2, 108, 432, 433] (Zs rfl rfl rfl rfl <| sS rfl <| sS rfl <| sN) (Zi rfl <| Zi rfl <| Zi rfl <| Zi rfl <| Zi rfl <| rN))
    ·
     refine gExit <| eTexit <| eLeave <| eMid (fun aa ww h => h.sub [1, 2, 433] (sS rfl <| sS rfl <| sS rfl <| sN) (Zi rfl <| Zi rfl <| Zi rfl <| rN))
   ·
    refine gMid (fun (s353 : (Vector UInt32 8)) aa ww => Sta (ctx 203 H [] w) [(2, .val (ptrTo v1 0)), (4, .val (ptrTo v2 0))] [(1, some (v1, .box 141 [.rd (arrR 8 u32R) s353])), (2, some (v2, .box 141 [.rd (arrR 8 u32R) (Vector.replicate 8 0)]))] aa ww) ?_ (fun s353 => ?_)
    ·
     refine gSR <| Za rfl <| Zn <| gLoop (fun (s354 : (Vector UInt32 8) × Int) aa ww => Sta (ctx 203 H [] w) [(2, .val (ptrTo v1 0)), (4, .val (ptrTo v2 0)), (11, .val (ptrTo v314 0)), (21, .rd i64R s354.2)] [(1, some (v1, .box 141 [.rd (arrR 8 u32R) s354.1])), (2, some (v2, .box 141 [.rd (arrR 8 u32R) (Vector.replicate 8 0)])), (433, some (v314, .box 141 [.rd (arrR 8 u32R) s315]))] aa ww) (fun aa ww h => h.sub [1, 2, 433] (Zs rfl rfl rfl rfl <| sN) (Zi rfl <| Zi rfl <| Zi rfl <| rN)) (fun s354 => ?_)
     refine gSeq <| gSR <| Zm rfl <| Zq (I.lss rfl rfl) <| Zn <| gIf rfl rfl (fun h355 => ?_) (fun h355 => ?_)
     ·
      refine Zt <| gSeq <| gBlk <| gRegH [1] mixed rfl rfl <| hTk 0 rfl rfl (mv rfl) <| hBind fun x356 h357 => hTk 1 rfl rfl (ixB 1 rfl rfl rfl h357 tu141 ti56) <| hTk 3 rfl rfl (mv rfl) <| hBind fun x358 h359 => hTk 4 rfl rfl (ixB 433 rfl rfl rfl h359 tu141 ti56) <| hTk 5 rfl rfl (ld 433 rfl rfl ((Foc.here).part (.el h359)) ty56 rfl) <| hRun 2 rfl (by kernel_rfl) (gd0 rfl) rfl rfl flat_num (ld 1 rfl rfl ((Foc.here).part (.el h357)) ty56 rfl) <| hTk 6 rfl rfl (W.add rfl rfl) <| hBind fun x360 h361 => hTk 7 rfl rfl (ixB 1 rfl rfl rfl h361 tu141 ti56) <| hDoS 8 rfl (by kernel_rfl) (gd0 rfl) rfl rfl rfl rfl (sto 1 rfl rfl ((Foc.here).part (.el h361)) rfl ti56) <| hDone (by kernel_rfl) <| eBlk <| eThen <| gReg <| Zm rfl <| Zq (I.add rfl rfl) <| Za rfl <| lName 21 rfl fun y362 => gNil <| eNext (fun aa ww h => h.sub [1, 2, 433] (Zs rfl rfl rfl rfl <| sN) (Zi rfl <| Zi rfl <| Zi rfl <| rN))
     ·
      refine gExit <| eTexit <| eLeave <| eMid (fun aa ww h => h.sub [1, 2] (sS rfl <| sS rfl <| sN) (Zi rfl <| Zi rfl <| rN))
    ·
     refine gSR <| Zq (ld 1 rfl rfl Foc.here ty141 rfl) <| Es (sto 2 rfl rfl Foc.here rfl ti141) <| Zn <| gRet <| eRet [] [] rfl (eC 2 rfl rfl ty141 <| eN) (rN)
def braidref01_blocks_L0 (a1 : List UInt8) (s4 : (Vector UInt32 8) × Int) : Option (Sum ((Vector UInt32 8)) ((Vector UInt32 8) × Int)) :=
 if decide ((w64 (s4.2 + 64)) ≤ (a1.length : Int)) then
  cut a1 s4.2 (w64 (s4.2 + 64)) >>= fun x6 =>
  braidref01_Ground s4.1 x6 >>= fun r8 =>
  some (w64 (s4.2 + 64)) >>= fun y10 =>
  some (.inr (r8, y10))
 else
  some (.inl s4.1)
def braidref01_blocks (a0 : Vector UInt32 8) (a1 : List UInt8) : Option ((Vector UInt32 8)) :=
 (iter (braidref01_blocks_L0 a1) (a0, 0)) >>= fun s3 =>
 some s3
theorem braidref01_blocks_ok (a0 : Vector UInt32 8) (a1 : List UInt8) : Spec Tryz.prog 107 [.rd (arrR 8 u32R) a0, .rd (sliceR u8R) a1] [] (braidref01_blocks a0 a1) (fun r nv => ⟨[.rd (arrR 8 u32R) r], []⟩) := by
 refine spec 21 Tryz.func107 rfl rfl rfl fun H w => ?_
 refine gSR <| Eb rfl (bx 1 rfl) fun v1 => Eb rfl (allc 2 ti141 (.zr (R := (arrR 8 u32R)) (x := (Vector.replicate 8 0)) zr141)) fun v2 => Zn <| gMid (fun (s3 : (Vector UInt32 8)) aa ww => Sta (ctx 21 H [] w) [(2, .val (ptrTo v1 0)), (4, .val (ptrTo v2 0))] [(1, some (v1, .box 141 [.rd (arrR 8 u32R) s3])), (2, some (v2, .box 141 [.rd (arrR 8 u32R) (Vector.replicate 8 0)]))] aa ww) ?_ (fun s3 => ?_)
 ·
  refine gSR <| Za rfl <| Zn <| gLoop (fun (s4 : (Vector UInt32 8) × Int) aa ww => Sta (ctx 21 H [] w) [(1, .rd (sliceR u8R) a1), (2, .val (ptrTo v1 0)), (4, .val (ptrTo v2 0)), (5, .rd i64R s4.2)] [(1, some (v1, .box 141 [.rd (arrR 8 u32R) s4.1])), (2, some (v2, .box 141 [.rd (arrR 8 u32R) (Vector.replicate 8 0)]))] aa ww) (fun aa ww h => h.sub [1, 2] (Zs rfl rfl rfl rfl <| sN) (Zi rfl <| Zi rfl <| rN)) (fun s4 => ?_)
  refine gSeq <| gSR <| Zm rfl <| Zq (I.add rfl rfl) <| Zm rfl <| Zq (len' rfl .rd rfl tu103) <| Zq (I.leq rfl rfl) <| Zn <| gIf rfl rfl (fun h5 => ?_) (fun h5 => ?_)
  ·
   refine Zt <| gSeq <| gBlk <| gRegH [1] mixed rfl rfl <| hTk 1 rfl rfl (mv rfl) <| hTk 2 rfl rfl (mv rfl) <| hTk 3 rfl rfl (mv rfl) <| hTk 4 rfl rfl (I.add rfl rfl) <| hBind fun x6 h7 => hTk 5 rfl rfl (cut' rfl (.to rfl) (.to rfl) h7 tu103 ti5) <| hRun 0 rfl (by kernel_rfl) (gd0 rfl) rfl rfl anyJ (ld 1 rfl rfl Foc.here ty141 rfl) <| hCallJ 6 [] [] rfl (by kernel_rfl) rfl (gd0 rfl) rfl Tryz.func141 rfl rfl (braidref01_Ground_ok _ _) (aQ rfl <| aQ rfl <| aN) rN rfl fun r8 n9 => hDoS 7 rfl (by kernel_rfl) (gd0 rfl) rfl rfl rfl rfl (sto 1 rfl rfl Foc.here rfl ti141) <| hDone (by kernel_rfl) <| eBlk <| eThen <| gReg <| Zm rfl <| Zq (I.add rfl rfl) <| Za rfl <| lName 5 rfl fun y10 => gNil <| eNext (fun aa ww h => h.sub [1, 2] (Zs rfl rfl rfl rfl <| sN) (Zi rfl <| Zi rfl <| rN))
  ·
   refine gExit <| eTexit <| eLeave <| eMid (fun aa ww h => h.sub [1, 2] (sS rfl <| sS rfl <| sN) (Zi rfl <| Zi rfl <| rN))
 ·
  refine gSR <| Zq (ld 1 rfl rfl Foc.here ty141 rfl) <| Es (sto 2 rfl rfl Foc.here rfl ti141) <| Zn <| gRet <| eRet [] [] rfl (eC 2 rfl rfl ty141 <| eN) (rN)
def braidref01_written_L0 (a0 : Vector UInt32 8) (s5 : (Vector UInt8 32) × Int) : Option (Sum ((Vector UInt8 32)) ((Vector UInt8 32) × Int)) :=
 if decide (s5.2 < 32) then
  vidx a0 (w64 (Int.tdiv s5.2 4)) >>= fun x7 =>
  chk (0 ≤ w64 (24 - (w64 (8 * (Int.tmod s5.2 4))))) >>= fun u9 =>
  vidx s5.1 s5.2 >>= fun x11 =>
  some (w64 (s5.2 + 1)) >>= fun y13 =>
  some (.inr (vset s5.1 s5.2 ((shr32 x7 ((w64 (24 - (w64 (8 * (Int.tmod s5.2 4)))) : Int).toNat)).toUInt8), y13))
 else
  some (.inl s5.1)
def braidref01_written (a0 : Vector UInt32 8) : Option ((Vector UInt8 32)) :=
 (iter (braidref01_written_L0 a0) ((Vector.replicate 32 0), 0)) >>= fun s4 =>
 some s4
theorem braidref01_written_ok (a0 : Vector UInt32 8) : Spec Tryz.prog 106 [.rd (arrR 8 u32R) a0] [] (braidref01_written a0) (fun r nv => ⟨[.rd (arrR 32 u8R) r], []⟩) := by
 refine spec 22 Tryz.func106 rfl rfl rfl fun H w => ?_
 refine gSR <| Eb rfl (bx 1 rfl) fun v1 => Eb rfl (allc 2 ti27 (.zr (R := (arrR 32 u8R)) (x := (Vector.replicate 32 0)) zr26)) fun v2 => Zn <| gSR <| Eb rfl (allc 3 ti27 (.zr (R := (arrR 32 u8R)) (x := (Vector.replicate 32 0)) zr26)) fun v3 => Zn <| gMid (fun (s4 : (Vector UInt8 32)) aa ww => Sta (ctx 22 H [] w) [(2, .val (ptrTo v2 0)), (3, .val (ptrTo v3 0))] [(2, some (v2, .box 27 [.rd (arrR 32 u8R) (Vector.replicate 32 0)])), (3, some (v3, .box 27 [.rd (arrR 32 u8R) s4]))] aa ww) ?_ (fun s4 => ?_)
 ·
  refine gSR <| Za rfl <| Zn <| gLoop (fun (s5 : (Vector UInt8 32) × Int) aa ww => Sta (ctx 22 H [] w) [(1, .val (ptrTo v1 0)), (2, .val (ptrTo v2 0)), (3, .val (ptrTo v3 0)), (4, .rd i64R s5.2)] [(1, some (v1, .box 141 [.rd (arrR 8 u32R) a0])), (2, some (v2, .box 27 [.rd (arrR 32 u8R) (Vector.replicate 32 0)])), (3, some (v3, .box 27 [.rd (arrR 32 u8R) s5.1]))] aa ww) (fun aa ww h => h.sub [1, 2, 3] (Zs rfl rfl rfl rfl <| sN) (Zi rfl <| Zi rfl <| Zi rfl <| rN)) (fun s5 => ?_)
  refine gSeq <| gSR <| Zm rfl <| Zq (I.lss rfl rfl) <| Zn <| gIf rfl rfl (fun h6 => ?_) (fun h6 => ?_)
  ·
   refine Zt <| gSeq <| gBlk <| gReg <| Zm rfl <| Zm rfl <| Zq (I.quo rfl rfl (by decide)) <| lBind fun x7 h8 => Zq (ixB 1 rfl rfl rfl h8 tu141 ti56) <| Zq (ld 1 rfl rfl ((Foc.here).part (.el h8)) ty56 rfl) <| Zm rfl <| Zq (I.rem rfl rfl (by decide)) <| Zq (I.mul rfl rfl) <| Zq (I.sub rfl rfl) <| lBind fun u9 h10 => Zq (W.shr rfl rfl (chk_some h10)) <| Zq (W.toB rfl tu56 tu5) <| lBind fun x11 h12 => Zq (ixB 3 rfl rfl rfl h12 tu27 ti5) <| Es (sto 3 rfl rfl ((Foc.here).part (.el h12)) rfl ti5) <| gNil <| eBlk <| eThen <| gReg <| Zm rfl <| Zq (I.add rfl rfl) <| Za rfl <| lName 4 rfl fun y13 => gNil <| eNext (fun aa ww h => h.sub [1, 2, 3] (Zs rfl rfl rfl rfl <| sN) (Zi rfl <| Zi rfl <| Zi rfl <| rN))
  ·
   refine gExit <| eTexit <| eLeave <| eMid (fun aa ww h => h.sub [2, 3] (sS rfl <| sS rfl <| sN) (Zi rfl <| Zi rfl <| rN))
 ·
  refine gSR <| Zq (ld 3 rfl rfl Foc.here ty27 rfl) <| Es (sto 2 rfl rfl Foc.here rfl ti27) <| Zn <| gRet <| eRet [] [] rfl (eC 2 rfl rfl ty27 <| eN) (rN)
def braidref01_Of (a0 : List UInt8) : Option ((Vector UInt8 32)) :=
 braidref01_First >>= fun r2 =>
 app 1 ([] : List UInt8) a0 >>= fun x5 =>
 braidref01_tail (a0.length : Int) >>= fun r8 =>
 app 1 x5 r8 >>= fun x10 =>
 braidref01_blocks r2 x10 >>= fun r13 =>
 braidref01_written r13 >>= fun r15 =>
 some r15
theorem braidref01_Of_ok (a0 : List UInt8) : Spec Tryz.prog 74 [.rd (sliceR u8R) a0] [] (braidref01_Of a0) (fun r nv => ⟨[.rd (arrR 32 u8R) r], []⟩) := by
 refine spec 13 Tryz.func74 rfl rfl rfl fun H w => ?_
 refine gSR <| Eb rfl (allc 1 ti27 (.zr (R := (arrR 32 u8R)) (x := (Vector.replicate 32 0)) zr26)) fun v1 => Zn <| gSR <| call [] [] rfl Tryz.func108 rfl rfl (braidref01_First_ok) (aN) rN fun r2 n3 => Ef rfl (lit (R := u8R) (([] : List UInt8) : List UInt8) 2 (pN) rfl tu103 ti5 rfl rfl) fun v4 => Zm rfl <| lBind fun x5 h6 => Ef rfl (apn 2 rfl rfl rfl .rd h6 tu103 ti5 rfl rfl rfl) fun v7 => Zm rfl <| Zq (len' rfl .rd rfl tu103) <| call [] [(100, 3)] rfl Tryz.func109 rfl rfl (braidref01_tail_ok _) (aQ rfl <| aN) rN fun r8 n9 => lBind fun x10 h11 => Ef rfl (apn 2 rfl rfl rfl (.own 3 rfl) h11 tu103 ti5 rfl rfl rfl) fun v12 => lFrz 2 [10] rfl (fS rfl <| fN) <| call [] [] rfl Tryz.func107 rfl rfl (braidref01_blocks_ok _ _) (aQ rfl <| aQ rfl <| aN) rN fun r13 n14 => call [] [] rfl Tryz.func106 rfl rfl (braidref01_written_ok _) (aQ rfl <| aN) rN fun r15 n16 => Es (sto 1 rfl rfl Foc.here rfl ti27) <| Zn <| gRet <| eRet [] [] rfl (eC 1 rfl rfl ty27 <| eN) (rN)
def braidref06_Of (a0 : api_Op) : Option ((Vector UInt8 32)) :=
 braidref06_Bytes a0 >>= fun r3 =>
 braidref01_Of r3 >>= fun r5 =>
 some r5
end
end Go.Proofs.YtjnheeekdadcpaaGreatDoor
