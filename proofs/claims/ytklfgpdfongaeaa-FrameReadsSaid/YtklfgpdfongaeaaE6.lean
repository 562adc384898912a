/- Functions and what the code of each does. -/
import Derived.Test.YtklfgpdfongaeaaKQ
import Derived.Test.YtklfgpdfongaeaaKV
namespace Go.Proofs.Ytklfgpdfongaeaa
open Go Go.RowKit
set_option linter.unusedSimpArgs false
set_option linter.unusedVariables false
def braidref25_Great_L0 (a0 : api_Frame) (s3 : Int) : Option (Sum (Sum Bool Unit) Int) :=
  if decide (s3 < (a0.Ops.length : Int)) then
    idx a0.Ops s3 >>= fun x5 =>
    if decide (3000 < (x5.length : Int)) then
      some (.inl (.inl true))
    else
      some (.inr (w64 (s3 + 1)))
  else
    some (.inl (.inr ()))
def braidref25_Great (a0 : api_Frame) : Option (Bool) :=
  orRet (iter (braidref25_Great_L0 a0) 0) fun s2 =>
  if decide (60 < (a0.IDs.length : Int)) then
    some true
  else
    some (decide (20 < (a0.Ops.length : Int))) >>= fun y9 =>
    some y9
set_option maxRecDepth 100000 in
theorem braidref25_Great_ok (a0 : api_Frame) : Spec Try.prog 81 [.rd R_api_Frame a0] [] (braidref25_Great a0) (fun r nv => ⟨[.rd boolR r], []⟩) := by
  refine spec 28 Try.func81 rfl rfl rfl fun H w => ?_
  refine gSeq <| gReg <| Eb rfl (bx 1 rfl) fun v1 => R rfl (asg rfl) <| gNil <| eThen <| gMidR (fun (s2 : Unit) aa ww => Sta (ctx 28 H [] w) [(1, .val (ptrTo v1 0))] [(1, some (v1, .box 105 [.rd R_api_Frame a0]))] aa ww) ?_ (fun s2 => ?_)
  · skip
    refine gSeq <| gReg <| R rfl (asg rfl) <| gNil <| eThen <| gLoop (fun (s3 : Int) aa ww => Sta (ctx 28 H [] w) [(1, .val (ptrTo v1 0)), (3, .rd i64R s3)] [(1, some (v1, .box 105 [.rd R_api_Frame a0]))] aa ww) (fun aa ww h => h.sub [1] (sS rfl <| sS rfl <| sN) (rR rfl rfl <| rN)) (fun s3 => ?_)
    refine gSeq <| gSeq <| gReg <| R rfl (mv rfl) <| R rfl (faB 1 rfl rfl Try.underlying105 rfl (by exact ti103)) <| R rfl (ld 1 rfl rfl ((Foc.here).part (pt_api_Frame_Ops _)) ty103 rfl) <| R rfl (len' rfl .rd rfl Try.underlying103) <| R rfl (I.lss rfl rfl) <| gNil <| eThen <| gIf rfl rfl (fun h4 => ?_) (fun h4 => ?_)
    · skip
      refine gSkip <| eThen <| gSeq <| gBlk <| gSeq <| gReg <| R rfl (faB 1 rfl rfl Try.underlying105 rfl (by exact ti103)) <| R rfl (ld 1 rfl rfl ((Foc.here).part (pt_api_Frame_Ops _)) ty103 rfl) <| R rfl (mv rfl) <| lBind fun x5 h6 => R rfl (ixR rfl rfl h6 Try.underlying103 ti32 rfl) <| R rfl (ldR rfl ty32) <| R rfl (len' rfl .rd rfl Try.underlying32) <| R rfl (I.gtr rfl rfl) <| gNil <| eThen <| gIf rfl rfl (fun h7 => ?_) (fun h7 => ?_)
      · skip
        refine gSeq <| gReg <| R rfl (asg rfl) <| gNil <| eThen <| gRet <| eBret <| eTret <| eLret <| eMret <| eRet [] [] rfl (eE rfl <| eN) (rN)
      · skip
        refine gSkip <| eBlk <| eThen <| gReg <| R rfl (mv rfl) <| R rfl (I.add rfl rfl) <| R rfl (asg rfl) <| gNil <| eNext (fun aa ww h => h.sub [1] (sS rfl <| sS rfl <| sN) (rR rfl rfl <| rN))
    · skip
      refine gExit <| eTexit <| eLeave <| eMidR (fun aa ww h => h.sub [1] (sS rfl <| sN) (rR rfl rfl <| rN))
  · skip
    refine gSeq <| gReg <| R rfl (faB 1 rfl rfl Try.underlying105 rfl (by exact ti83)) <| R rfl (ld 1 rfl rfl ((Foc.here).part (pt_api_Frame_IDs _)) ty83 rfl) <| R rfl (len' rfl .rd rfl Try.underlying83) <| R rfl (I.gtr rfl rfl) <| R rfl (mv rfl) <| lSplit 22 rfl (fun h8 => ?_) (fun h8 => ?_)
    · skip
      refine lKn 21 rfl h8 <| lSkip (gd rfl rfl rfl rfl) rfl rfl <| lSkip (gd rfl rfl rfl rfl) rfl rfl <| lSkip (gd rfl rfl rfl rfl) rfl rfl <| lSkip (gd rfl rfl rfl rfl) rfl rfl <| R rfl (pkT rfl rfl) <| R rfl (asg rfl) <| gNil <| eThen <| gRet <| eRet [] [] rfl (eE rfl <| eN) (rN)
    · skip
      refine lKn 21 rfl h8 <| lRun (gd rfl rfl rfl rfl) rfl rfl (faB 1 rfl rfl Try.underlying105 rfl (by exact ti103)) <| lRun (gd rfl rfl rfl rfl) rfl rfl (ld 1 rfl rfl ((Foc.here).part (pt_api_Frame_Ops _)) ty103 rfl) <| lRun (gd rfl rfl rfl rfl) rfl rfl (len' rfl .rd rfl Try.underlying103) <| lRun (gd rfl rfl rfl rfl) rfl rfl (I.gtr rfl rfl) <| R rfl (pkF rfl rfl) <| R rfl (asg rfl) <| lName 2 rfl fun y9 => gNil <| eThen <| gRet <| eRet [] [] rfl (eE rfl <| eN) (rN)

def braidref25_Twin_L0 (a0 : api_Frame) (s20 : (List (List UInt8)) × Int) : Option (Sum ((List (List UInt8))) ((List (List UInt8)) × Int)) :=
  if decide (s20.2 < (a0.Ops.length : Int)) then
    idx a0.Ops s20.2 >>= fun x23 =>
    app 1 ([] : List UInt8) x23 >>= fun x26 =>
    app 24 s20.1 [x26] >>= fun x30 =>
    some (w64 (s20.2 + 1)) >>= fun y33 =>
    some (.inr (x30, y33))
  else
    some (.inl s20.1)
def braidref25_Twin (a0 : api_Frame) : Option (api_Frame) :=
  (app 32 ([] : List (Vector UInt8 32)) a0.IDs >>= fun x5 =>
  some x5) >>= fun s3 =>
  (iter (braidref25_Twin_L0 a0) ([], 0)) >>= fun s19 =>
  some (⟨a0.Kind, a0.N, s3, s19⟩ : api_Frame)
set_option maxRecDepth 100000 in
theorem braidref25_Twin_ok (a0 : api_Frame) : Spec Try.prog 82 [.rd R_api_Frame a0] [] (braidref25_Twin a0) (fun r nv => ⟨[.rd R_api_Frame r], []⟩) := by
  refine spec 34 Try.func82 rfl rfl rfl fun H w => ?_
  refine gSeq <| gReg <| Eb rfl (bx 1 rfl) fun v1 => Eb rfl (allc 2 ti105 (ZrE.rd (R := u8R) (x := 0) (Zr.num rfl) (ZrE.rd (R := u64R) (x := 0) (Zr.num rfl) (ZrE.nilS (ZrE.nilS ZrE.nil)) rfl) rfl)) fun v2 => gNil <| eThen <| gMid (fun (s3 : (List (Vector UInt8 32))) aa ww => ∃ nv : Nat → Value, Sta (ctx 34 H [] w) [(1, .val (ptrTo v1 0)), (2, .val (ptrTo v2 0)), (3, .val (ptrTo (nv 0) 0))] [(1, some (v1, .box 105 [.rd R_api_Frame a0])), (2, some (v2, .box 105 [.rd u8R 0, .rd u64R 0, .val (.slice none 0 0), .val (.slice none 0 0)])), (15, some ((nv 1), .list (arrR 32 u8R) 102 s3)), (30, some ((nv 0), .box 105 [.rd u8R a0.Kind, .rd u64R a0.N, .val (nv 1), .val (.slice none 0 0)]))] aa ww) ?_ (fun s3 => ?_)
  · skip
    refine gRegH [43, 58] mixed rfl rfl <| hTake 0 rfl (by kernel_rfl) (by kernel_rfl) (by kernel_rfl) (gd0 rfl) rfl rfl (faB 1 rfl rfl Try.underlying105 rfl (by exact ti5)) <| hTake 1 rfl (by kernel_rfl) (by kernel_rfl) (by kernel_rfl) (gd0 rfl) rfl rfl (ld 1 rfl rfl ((Foc.here).part (pt_api_Frame_Kind _)) ty5 rfl) <| hTake 2 rfl (by kernel_rfl) (by kernel_rfl) (by kernel_rfl) (gd0 rfl) rfl rfl (faB 1 rfl rfl Try.underlying105 rfl (by exact ti31)) <| hTake 3 rfl (by kernel_rfl) (by kernel_rfl) (by kernel_rfl) (gd0 rfl) rfl rfl (ld 1 rfl rfl ((Foc.here).part (pt_api_Frame_N _)) ty31 rfl) <| hTake 5 rfl (by kernel_rfl) (by kernel_rfl) (by kernel_rfl) (gd0 rfl) rfl rfl (faB 1 rfl rfl Try.underlying105 rfl (by exact ti83)) <| hTake 6 rfl (by kernel_rfl) (by kernel_rfl) (by kernel_rfl) (gd0 rfl) rfl rfl (ld 1 rfl rfl ((Foc.here).part (pt_api_Frame_IDs _)) ty83 rfl) <| hAlt [4, 9] (by kernel_rfl) rfl ⟨?_, ?_, trivial⟩
    · skip
      refine oDo 4 rfl (gd0 rfl) rfl rfl rfl (lit (R := (arrR 32 u8R)) (([] : List (Vector UInt8 32)) : List (Vector UInt8 32)) 43 (pN) rfl Try.underlying83 ti102 rfl rfl) (fun _ => rfl) fun v4 => hAlt [7, 9] (by kernel_rfl) rfl ⟨?_, ?_, trivial⟩
      · skip
        refine oBind fun x5 h6 => oDo 7 rfl (gd0 rfl) rfl rfl rfl (apn 43 rfl rfl rfl .rd h6 Try.underlying83 ti102 rfl rfl rfl) (fun _ => rfl) fun v7 => hTakeP 8 rfl (by kernel_rfl) (by kernel_rfl) (by kernel_rfl) (gd0 rfl) rfl rfl (bldE [(0, 1), (1, 1), (2, 1), (3, 1)] Try.underlying105 ti105 (ZrE.rd (R := u8R) (x := 0) (Zr.num rfl) (ZrE.rd (R := u64R) (x := 0) (Zr.num rfl) (ZrE.nilS (ZrE.nilS ZrE.nil)) rfl) rfl) rfl (BldE.cons rfl rfl fills_rd (Swap.cast (Swap.here fills_rd) rfl) <| BldE.cons rfl rfl fills_rd (Swap.cast (Swap.next fills_rd (Swap.here fills_rd)) rfl) <| BldE.cons rfl rfl fills_val (Swap.cast (Swap.next fills_rd (Swap.next fills_rd (Swap.here fills_val))) rfl) <| BldE.done rfl)) <| hDoB 9 rfl (by kernel_rfl) (gd0 rfl) rfl rfl rfl (allc 58 ti105 (ZrE.rd (R := u8R) (x := 0) (Zr.num rfl) (ZrE.rd (R := u64R) (x := 0) (Zr.num rfl) (ZrE.nilS (ZrE.nilS ZrE.nil)) rfl) rfl)) fun v8 => hDoS 10 rfl (by kernel_rfl) (gd0 rfl) rfl rfl rfl rfl (stoG 58 rfl rfl (fillsL.cast (fillsL.cons fills_rd (fillsL.cons fills_rd (fillsL.cons fills_val (fillsL.cons fills_val fillsL.nil)))) rfl) rfl (onesL.cons ones_rd (onesL.cons ones_rd (onesL.cons ones_val (onesL.cons ones_val onesL.nil)))) (fillsL.cast (fillsL.cons fills_rd (fillsL.cons fills_rd (fillsL.cons fills_val (fillsL.cons fills_val fillsL.nil)))) rfl) ti105) <| hDone (by kernel_rfl) <| eMid (fun aa ww h => ⟨nvl [v8, v7], h.sub [1, 2, 43, 58] (sS rfl <| sS rfl <| sS rfl <| sN) (rR rfl rfl <| rR rfl rfl <| rR rfl rfl <| rR rfl rfl <| rN)⟩)
      · skip
        refine oDoB 9 rfl (gd0 rfl) rfl rfl rfl (allc 58 ti105 (ZrE.rd (R := u8R) (x := 0) (Zr.num rfl) (ZrE.rd (R := u64R) (x := 0) (Zr.num rfl) (ZrE.nilS (ZrE.nilS ZrE.nil)) rfl) rfl)) fun v9 => hBind fun x10 h11 => hDo 7 rfl (by kernel_rfl) (gd0 rfl) rfl rfl rfl (apn 43 rfl rfl rfl .rd h11 Try.underlying83 ti102 rfl rfl rfl) (fun _ => rfl) fun v12 => hTakeP 8 rfl (by kernel_rfl) (by kernel_rfl) (by kernel_rfl) (gd0 rfl) rfl rfl (bldE [(0, 1), (1, 1), (2, 1), (3, 1)] Try.underlying105 ti105 (ZrE.rd (R := u8R) (x := 0) (Zr.num rfl) (ZrE.rd (R := u64R) (x := 0) (Zr.num rfl) (ZrE.nilS (ZrE.nilS ZrE.nil)) rfl) rfl) rfl (BldE.cons rfl rfl fills_rd (Swap.cast (Swap.here fills_rd) rfl) <| BldE.cons rfl rfl fills_rd (Swap.cast (Swap.next fills_rd (Swap.here fills_rd)) rfl) <| BldE.cons rfl rfl fills_val (Swap.cast (Swap.next fills_rd (Swap.next fills_rd (Swap.here fills_val))) rfl) <| BldE.done rfl)) <| hDoS 10 rfl (by kernel_rfl) (gd0 rfl) rfl rfl rfl rfl (stoG 58 rfl rfl (fillsL.cast (fillsL.cons fills_rd (fillsL.cons fills_rd (fillsL.cons fills_val (fillsL.cons fills_val fillsL.nil)))) rfl) rfl (onesL.cons ones_rd (onesL.cons ones_rd (onesL.cons ones_val (onesL.cons ones_val onesL.nil)))) (fillsL.cast (fillsL.cons fills_rd (fillsL.cons fills_rd (fillsL.cons fills_val (fillsL.cons fills_val fillsL.nil)))) rfl) ti105) <| hDone (by kernel_rfl) <| eMid (fun aa ww h => ⟨nvl [v9, v12], h.sub [1, 2, 43, 58] (sS rfl <| sS rfl <| sS rfl <| sN) (rR rfl rfl <| rR rfl rfl <| rR rfl rfl <| rR rfl rfl <| rN)⟩)
    · skip
      refine oDoB 9 rfl (gd0 rfl) rfl rfl rfl (allc 58 ti105 (ZrE.rd (R := u8R) (x := 0) (Zr.num rfl) (ZrE.rd (R := u64R) (x := 0) (Zr.num rfl) (ZrE.nilS (ZrE.nilS ZrE.nil)) rfl) rfl)) fun v13 => hDo 4 rfl (by kernel_rfl) (gd0 rfl) rfl rfl rfl (lit (R := (arrR 32 u8R)) (([] : List (Vector UInt8 32)) : List (Vector UInt8 32)) 43 (pN) rfl Try.underlying83 ti102 rfl rfl) (fun _ => rfl) fun v14 => hBind fun x15 h16 => hDo 7 rfl (by kernel_rfl) (gd0 rfl) rfl rfl rfl (apn 43 rfl rfl rfl .rd h16 Try.underlying83 ti102 rfl rfl rfl) (fun _ => rfl) fun v17 => hTakeP 8 rfl (by kernel_rfl) (by kernel_rfl) (by kernel_rfl) (gd0 rfl) rfl rfl (bldE [(0, 1), (1, 1), (2, 1), (3, 1)] Try.underlying105 ti105 (ZrE.rd (R := u8R) (x := 0) (Zr.num rfl) (ZrE.rd (R := u64R) (x := 0) (Zr.num rfl) (ZrE.nilS (ZrE.nilS ZrE.nil)) rfl) rfl) rfl (BldE.cons rfl rfl fills_rd (Swap.cast (Swap.here fills_rd) rfl) <| BldE.cons rfl rfl fills_rd (Swap.cast (Swap.next fills_rd (Swap.here fills_rd)) rfl) <| BldE.cons rfl rfl fills_val (Swap.cast (Swap.next fills_rd (Swap.next fills_rd (Swap.here fills_val))) rfl) <| BldE.done rfl)) <| hDoS 10 rfl (by kernel_rfl) (gd0 rfl) rfl rfl rfl rfl (stoG 58 rfl rfl (fillsL.cast (fillsL.cons fills_rd (fillsL.cons fills_rd (fillsL.cons fills_val (fillsL.cons fills_val fillsL.nil)))) rfl) rfl (onesL.cons ones_rd (onesL.cons ones_rd (onesL.cons ones_val (onesL.cons ones_val onesL.nil)))) (fillsL.cast (fillsL.cons fills_rd (fillsL.cons fills_rd (fillsL.cons fills_val (fillsL.cons fills_val fillsL.nil)))) rfl) ti105) <| hDone (by kernel_rfl) <| eMid (fun aa ww h => ⟨nvl [v13, v17], h.sub [1, 2, 43, 58] (sS rfl <| sS rfl <| sS rfl <| sN) (rR rfl rfl <| rR rfl rfl <| rR rfl rfl <| rR rfl rfl <| rN)⟩)
  · skip
    refine gEx fun n18 => gMid (fun (s19 : (List (List UInt8))) aa ww => ∃ nv : Nat → Value, Sta (ctx 34 H [] w) [(2, .val (ptrTo v2 0)), (3, .val (ptrTo (n18 0) 0))] [(2, some (v2, .box 105 [.rd u8R 0, .rd u64R 0, .val (.slice none 0 0), .val (.slice none 0 0)])), (15, some ((n18 1), .list (arrR 32 u8R) 102 s3)), (97, some ((nv 0), .list (sliceR u8R) 32 s19)), (30, some ((n18 0), .box 105 [.rd u8R a0.Kind, .rd u64R a0.N, .val (n18 1), .val (nv 0)]))] aa ww) ?_ (fun s19 => ?_)
    · skip
      refine gSeq <| gReg <| R rfl (asg rfl) <| gNil <| eThen <| gNew (sliceR u8R) 32 129 <| gLoop (fun (s20 : (List (List UInt8)) × Int) aa ww => ∃ nv : Nat → Value, Sta (ctx 34 H [] w) [(1, .val (ptrTo v1 0)), (2, .val (ptrTo v2 0)), (3, .val (ptrTo (n18 0) 0)), (4, .rd i64R s20.2)] [(1, some (v1, .box 105 [.rd R_api_Frame a0])), (2, some (v2, .box 105 [.rd u8R 0, .rd u64R 0, .val (.slice none 0 0), .val (.slice none 0 0)])), (15, some ((n18 1), .list (arrR 32 u8R) 102 s3)), (128, some ((nv 0), .list (sliceR u8R) 32 s20.1)), (30, some ((n18 0), .box 105 [.rd u8R a0.Kind, .rd u64R a0.N, .val (n18 1), .val (nv 0)]))] aa ww) (fun aa ww h => ⟨nvl [(.slice none 0 0)], h.sub [1, 2, 15, 129, 30] (sS rfl <| sS rfl <| sS rfl <| sS rfl <| sN) (rR rfl rfl <| rR rfl rfl <| rR rfl rfl <| rR rfl rfl <| rR rfl rfl <| rN)⟩) (fun s20 => ?_)
      refine gEx fun n21 => gSeq <| gSeq <| gReg <| R rfl (mv rfl) <| R rfl (faB 1 rfl rfl Try.underlying105 rfl (by exact ti103)) <| R rfl (ld 1 rfl rfl ((Foc.here).part (pt_api_Frame_Ops _)) ty103 rfl) <| R rfl (len' rfl .rd rfl Try.underlying103) <| R rfl (I.lss rfl rfl) <| gNil <| eThen <| gIf rfl rfl (fun h22 => ?_) (fun h22 => ?_)
      · skip
        refine gSkip <| eThen <| gSeq <| gBlk <| gRegH [30, 128, 136, 157] mixed rfl rfl <| hTake 0 rfl (by kernel_rfl) (by kernel_rfl) (by kernel_rfl) (gd0 rfl) rfl rfl (faB 30 rfl rfl Try.underlying105 rfl (by exact ti103)) <| hTake 3 rfl (by kernel_rfl) (by kernel_rfl) (by kernel_rfl) (gd0 rfl) rfl rfl (faB 1 rfl rfl Try.underlying105 rfl (by exact ti103)) <| hTake 4 rfl (by kernel_rfl) (by kernel_rfl) (by kernel_rfl) (gd0 rfl) rfl rfl (ld 1 rfl rfl ((Foc.here).part (pt_api_Frame_Ops _)) ty103 rfl) <| hTake 5 rfl (by kernel_rfl) (by kernel_rfl) (by kernel_rfl) (gd0 rfl) rfl rfl (mv rfl) <| hBind fun x23 h24 => hTake 6 rfl (by kernel_rfl) (by kernel_rfl) (by kernel_rfl) (gd0 rfl) rfl rfl (ixR rfl rfl h24 Try.underlying103 ti32 rfl) <| hTake 7 rfl (by kernel_rfl) (by kernel_rfl) (by kernel_rfl) (gd0 rfl) rfl rfl (ldR rfl ty32) <| hAlt [1, 2] (by kernel_rfl) rfl ⟨?_, ?_, trivial⟩
        · skip
          refine oRun 1 rfl (gd0 rfl) rfl rfl flat_val (ldV 30 rfl rfl (At.cast (At.next fills_rd (At.next fills_rd (At.next fills_val At.here))) rfl) sc103 rfl) <| hDo 2 rfl (by kernel_rfl) (gd0 rfl) rfl rfl rfl (lit (R := u8R) (([] : List UInt8) : List UInt8) 136 (pN) rfl Try.underlying32 ti5 rfl rfl) (fun _ => rfl) fun v25 => hBind fun x26 h27 => hDo 8 rfl (by kernel_rfl) (gd0 rfl) rfl rfl rfl (apn 136 rfl rfl rfl .rd h27 Try.underlying32 ti5 rfl rfl rfl) (fun _ => rfl) fun v28 => hFrz 136 [29] rfl (fS rfl <| fN) <| hDo 9 rfl (by kernel_rfl) (gd0 rfl) rfl rfl rfl (lit (R := (sliceR u8R)) ([x26] : List (List UInt8)) 157 (pP rfl rfl <| pN) rfl Try.underlying103 ti32 rfl rfl) (fun _ => rfl) fun v29 => hFrz 157 [30] rfl (fS rfl <| fN) <| hBind fun x30 h31 => hDo 10 rfl (by kernel_rfl) (gd0 rfl) rfl rfl rfl (apn 128 rfl rfl rfl .rd h31 Try.underlying103 ti32 rfl rfl rfl) (fun _ => rfl) fun v32 => hTake 11 rfl (by kernel_rfl) (by kernel_rfl) (by kernel_rfl) (gd0 rfl) rfl rfl (faB 30 rfl rfl Try.underlying105 rfl (by exact ti103)) <| hDoS 12 rfl (by kernel_rfl) (gd0 rfl) rfl rfl rfl rfl (stoE 30 rfl rfl (Swap.cast (Swap.next fills_rd (Swap.next fills_rd (Swap.next fills_val (Swap.here fills_val)))) rfl) rfl ones_val fills_val ti103) <| hDone (by kernel_rfl) <| eBlk <| eThen <| gReg <| R rfl (mv rfl) <| R rfl (I.add rfl rfl) <| R rfl (asg rfl) <| lName 4 rfl fun y33 => gNil <| eNext (fun aa ww h => ⟨nvl [v32], h.sub [1, 2, 15, 128, 30] (sS rfl <| sS rfl <| sS rfl <| sS rfl <| sN) (rR rfl rfl <| rR rfl rfl <| rR rfl rfl <| rR rfl rfl <| rR rfl rfl <| rN)⟩)
        · skip
          refine oDo 2 rfl (gd0 rfl) rfl rfl rfl (lit (R := u8R) (([] : List UInt8) : List UInt8) 136 (pN) rfl Try.underlying32 ti5 rfl rfl) (fun _ => rfl) fun v34 => hAlt [1, 8] (by kernel_rfl) rfl ⟨?_, ?_, trivial⟩
          · skip
            refine oRun 1 rfl (gd0 rfl) rfl rfl flat_val (ldV 30 rfl rfl (At.cast (At.next fills_rd (At.next fills_rd (At.next fills_val At.here))) rfl) sc103 rfl) <| hBind fun x35 h36 => hDo 8 rfl (by kernel_rfl) (gd0 rfl) rfl rfl rfl (apn 136 rfl rfl rfl .rd h36 Try.underlying32 ti5 rfl rfl rfl) (fun _ => rfl) fun v37 => hFrz 136 [29] rfl (fS rfl <| fN) <| hDo 9 rfl (by kernel_rfl) (gd0 rfl) rfl rfl rfl (lit (R := (sliceR u8R)) ([x35] : List (List UInt8)) 157 (pP rfl rfl <| pN) rfl Try.underlying103 ti32 rfl rfl) (fun _ => rfl) fun v38 => hFrz 157 [30] rfl (fS rfl <| fN) <| hBind fun x39 h40 => hDo 10 rfl (by kernel_rfl) (gd0 rfl) rfl rfl rfl (apn 128 rfl rfl rfl .rd h40 Try.underlying103 ti32 rfl rfl rfl) (fun _ => rfl) fun v41 => hTake 11 rfl (by kernel_rfl) (by kernel_rfl) (by kernel_rfl) (gd0 rfl) rfl rfl (faB 30 rfl rfl Try.underlying105 rfl (by exact ti103)) <| hDoS 12 rfl (by kernel_rfl) (gd0 rfl) rfl rfl rfl rfl (stoE 30 rfl rfl (Swap.cast (Swap.next fills_rd (Swap.next fills_rd (Swap.next fills_val (Swap.here fills_val)))) rfl) rfl ones_val fills_val ti103) <| hDone (by kernel_rfl) <| eBlk <| eThen <| gReg <| R rfl (mv rfl) <| R rfl (I.add rfl rfl) <| R rfl (asg rfl) <| lName 4 rfl fun y42 => gNil <| eNext (fun aa ww h => ⟨nvl [v41], h.sub [1, 2, 15, 128, 30] (sS rfl <| sS rfl <| sS rfl <| sS rfl <| sN) (rR rfl rfl <| rR rfl rfl <| rR rfl rfl <| rR rfl rfl <| rR rfl rfl <| rN)⟩)
          · skip
            refine oBind fun x43 h44 => oDo 8 rfl (gd0 rfl) rfl rfl rfl (apn 136 rfl rfl rfl .rd h44 Try.underlying32 ti5 rfl rfl rfl) (fun _ => rfl) fun v45 => hAlt [1, 9] (by kernel_rfl) rfl ⟨?_, ?_, trivial⟩
            · skip
              refine oRun 1 rfl (gd0 rfl) rfl rfl flat_val (ldV 30 rfl rfl (At.cast (At.next fills_rd (At.next fills_rd (At.next fills_val At.here))) rfl) sc103 rfl) <| hFrz 136 [29] rfl (fS rfl <| fN) <| hDo 9 rfl (by kernel_rfl) (gd0 rfl) rfl rfl rfl (lit (R := (sliceR u8R)) ([x43] : List (List UInt8)) 157 (pP rfl rfl <| pN) rfl Try.underlying103 ti32 rfl rfl) (fun _ => rfl) fun v46 => hFrz 157 [30] rfl (fS rfl <| fN) <| hBind fun x47 h48 => hDo 10 rfl (by kernel_rfl) (gd0 rfl) rfl rfl rfl (apn 128 rfl rfl rfl .rd h48 Try.underlying103 ti32 rfl rfl rfl) (fun _ => rfl) fun v49 => hTake 11 rfl (by kernel_rfl) (by kernel_rfl) (by kernel_rfl) (gd0 rfl) rfl rfl (faB 30 rfl rfl Try.underlying105 rfl (by exact ti103)) <| hDoS 12 rfl (by kernel_rfl) (gd0 rfl) rfl rfl rfl rfl (stoE 30 rfl rfl (Swap.cast (Swap.next fills_rd (Swap.next fills_rd (Swap.next fills_val (Swap.here fills_val)))) rfl) rfl ones_val fills_val ti103) <| hDone (by kernel_rfl) <| eBlk <| eThen <| gReg <| R rfl (mv rfl) <| R rfl (I.add rfl rfl) <| R rfl (asg rfl) <| lName 4 rfl fun y50 => gNil <| eNext (fun aa ww h => ⟨nvl [v49], h.sub [1, 2, 15, 128, 30] (sS rfl <| sS rfl <| sS rfl <| sS rfl <| sN) (rR rfl rfl <| rR rfl rfl <| rR rfl rfl <| rR rfl rfl <| rR rfl rfl <| rN)⟩)
            · skip
              refine oFrz 136 [29] rfl (fS rfl <| fN) <| oDo 9 rfl (gd0 rfl) rfl rfl rfl (lit (R := (sliceR u8R)) ([x43] : List (List UInt8)) 157 (pP rfl rfl <| pN) rfl Try.underlying103 ti32 rfl rfl) (fun _ => rfl) fun v51 => hRun 1 rfl (by kernel_rfl) (gd0 rfl) rfl rfl flat_val (ldV 30 rfl rfl (At.cast (At.next fills_rd (At.next fills_rd (At.next fills_val At.here))) rfl) sc103 rfl) <| hFrz 157 [30] rfl (fS rfl <| fN) <| hBind fun x52 h53 => hDo 10 rfl (by kernel_rfl) (gd0 rfl) rfl rfl rfl (apn 128 rfl rfl rfl .rd h53 Try.underlying103 ti32 rfl rfl rfl) (fun _ => rfl) fun v54 => hTake 11 rfl (by kernel_rfl) (by kernel_rfl) (by kernel_rfl) (gd0 rfl) rfl rfl (faB 30 rfl rfl Try.underlying105 rfl (by exact ti103)) <| hDoS 12 rfl (by kernel_rfl) (gd0 rfl) rfl rfl rfl rfl (stoE 30 rfl rfl (Swap.cast (Swap.next fills_rd (Swap.next fills_rd (Swap.next fills_val (Swap.here fills_val)))) rfl) rfl ones_val fills_val ti103) <| hDone (by kernel_rfl) <| eBlk <| eThen <| gReg <| R rfl (mv rfl) <| R rfl (I.add rfl rfl) <| R rfl (asg rfl) <| lName 4 rfl fun y55 => gNil <| eNext (fun aa ww h => ⟨nvl [v54], h.sub [1, 2, 15, 128, 30] (sS rfl <| sS rfl <| sS rfl <| sS rfl <| sN) (rR rfl rfl <| rR rfl rfl <| rR rfl rfl <| rR rfl rfl <| rR rfl rfl <| rN)⟩)
      · skip
        refine gExit <| eTexit <| eLeave <| eMid (fun aa ww h => ⟨nvl [(n21 0)], h.sub [2, 15, 128, 30] (sS rfl <| sS rfl <| sN) (rR rfl rfl <| rR rfl rfl <| rR rfl rfl <| rR rfl rfl <| rN)⟩)
    · skip
      refine gEx fun n56 => gSeq <| gReg <| lPow [.rd u8R a0.Kind, .rd u64R a0.N, .rd (sliceR (arrR 32 u8R)) s3, .val (n56 0)] 30 15 [.rd u8R a0.Kind, .rd u64R a0.N] [.val (n56 0)] rfl rfl rfl rfl rfl <| lPow [.rd u8R a0.Kind, .rd u64R a0.N, .rd (sliceR (arrR 32 u8R)) s3, .rd (sliceR (sliceR u8R)) s19] 30 97 [.rd u8R a0.Kind, .rd u64R a0.N, .rd (sliceR (arrR 32 u8R)) s3] [] rfl rfl rfl rfl rfl <| lJoi (R := R_api_Frame) (⟨a0.Kind, a0.N, s3, s19⟩ : api_Frame) 30 rfl (Sp.via (Sp.prod (Sp.prod (Sp.prod (Sp.prod Sp.unit))))) <| R rfl (ld 30 rfl rfl Foc.here ty105 rfl) <| lPnl (arrR 32 u8R) [.rd u8R 0, .rd u64R 0, .rd (sliceR (arrR 32 u8R)) [], .val (.slice none 0 0)] 2 [.rd u8R 0, .rd u64R 0] [.val (.slice none 0 0)] rfl rfl rfl <| lPnl (sliceR u8R) [.rd u8R 0, .rd u64R 0, .rd (sliceR (arrR 32 u8R)) [], .rd (sliceR (sliceR u8R)) []] 2 [.rd u8R 0, .rd u64R 0, .rd (sliceR (arrR 32 u8R)) []] [] rfl rfl rfl <| lJoi (R := R_api_Frame) (⟨0, 0, [], []⟩ : api_Frame) 2 rfl (Sp.via (Sp.prod (Sp.prod (Sp.prod (Sp.prod Sp.unit))))) <| Es (sto 2 rfl rfl Foc.here rfl ti105) <| gNil <| eThen <| gRet <| eRet [] [] rfl (eC 2 rfl rfl ty105 <| eN) (rN)


def session_Check_1 (a0 : Int) : Option (Bool) :=
  if decide (0 ≤ a0) then
    some (decide (a0 ≤ 1000000000)) >>= fun y2 =>
    some y2
  else
    some false
set_option maxRecDepth 100000 in
theorem session_Check_1_ok (a0 : Int) : Spec Try.prog 129 [.rd i64R a0] [] (session_Check_1 a0) (fun r nv => ⟨[.rd boolR r], []⟩) := by
  refine spec 9 Try.func129 rfl rfl rfl fun H w => ?_
  refine gSeq <| gReg <| R rfl (asg rfl) <| gNil <| eThen <| gSeq <| gReg <| R rfl (mv rfl) <| R rfl (I.geq rfl rfl) <| R rfl (mv rfl) <| lSplit 5 rfl (fun h1 => ?_) (fun h1 => ?_)
  · skip
    refine lKn 4 rfl h1 <| lRun (gd rfl rfl rfl rfl) rfl rfl (mv rfl) <| lRun (gd rfl rfl rfl rfl) rfl rfl (I.leq rfl rfl) <| R rfl (pkT rfl rfl) <| R rfl (asg rfl) <| lName 2 rfl fun y2 => gNil <| eThen <| gRet <| eRet [] [] rfl (eE rfl <| eN) (rN)
  · skip
    refine lKn 4 rfl h1 <| lSkip (gd rfl rfl rfl rfl) rfl rfl <| lSkip (gd rfl rfl rfl rfl) rfl rfl <| R rfl (pkF rfl rfl) <| R rfl (asg rfl) <| gNil <| eThen <| gRet <| eRet [] [] rfl (eE rfl <| eN) (rN)


def session_Check (a0 : api_Session) : Option (Int) :=
  some (a0.State == 5) >>= fun y2 =>
  (if decide (a0.State < 1) then
    some true
  else
    if decide (5 < a0.State) then
      some true
    else
      if decide (a0.Faults < 0) then
        some true
      else
        if !y2 then
          if decide (3 ≤ a0.Faults) then
            some true
          else
            if y2 then
              if a0.Faults != 3 then
                some true
              else
                session_Check_1 a0.Frames >>= fun r11 =>
                if !r11 then
                  some true
                else
                  session_Check_1 a0.Ops >>= fun r14 =>
                  some (!r14)
            else
              session_Check_1 a0.Frames >>= fun r16 =>
              if !r16 then
                some true
              else
                session_Check_1 a0.Ops >>= fun r19 =>
                some (!r19)
        else
          if y2 then
            if a0.Faults != 3 then
              some true
            else
              session_Check_1 a0.Frames >>= fun r23 =>
              if !r23 then
                some true
              else
                session_Check_1 a0.Ops >>= fun r26 =>
                some (!r26)
          else
            session_Check_1 a0.Frames >>= fun r28 =>
            if !r28 then
              some true
            else
              session_Check_1 a0.Ops >>= fun r31 =>
              some (!r31)) >>= fun s3 =>
  if s3 then
    some 8
  else
    some 0
set_option maxRecDepth 100000 in
theorem session_Check_ok (a0 : api_Session) : Spec Try.prog 85 [.rd R_api_Session a0] [] (session_Check a0) (fun r nv => ⟨[.rd i64R r], []⟩) := by
  refine spec 52 Try.func85 rfl rfl rfl fun H w => ?_
  refine gSeq <| gReg <| Eb rfl (bx 1 rfl) fun v1 => R rfl (asg rfl) <| gNil <| eThen <| gSeq <| gReg <| R rfl (asg rfl) <| gNil <| eThen <| gSeq <| gReg <| R rfl (faB 1 rfl rfl Try.underlying66 rfl (by exact ti5)) <| R rfl (ld 1 rfl rfl ((Foc.here).part (pt_api_Session_State _)) ty5 rfl) <| R rfl (B.eql rfl rfl) <| R rfl (asg rfl) <| lName 4 rfl fun y2 => gNil <| eThen <| gSeq <| gMid (fun (s3 : Bool) aa ww => Sta (ctx 52 H [] w) [(51, .rd boolR s3)] [] aa ww) ?_ (fun s3 => ?_)
  · skip
    refine gReg <| R rfl (faB 1 rfl rfl Try.underlying66 rfl (by exact ti5)) <| R rfl (ld 1 rfl rfl ((Foc.here).part (pt_api_Session_State _)) ty5 rfl) <| R rfl (B.lss rfl rfl) <| R rfl (mv rfl) <| lSplit 11 rfl (fun h4 => ?_) (fun h4 => ?_)
    · skip
      refine lKn 10 rfl h4 <| lSkip (gd rfl rfl rfl rfl) rfl rfl <| lSkip (gd rfl rfl rfl rfl) rfl rfl <| lSkip (gd rfl rfl rfl rfl) rfl rfl <| R rfl (pkT rfl rfl) <| R rfl (mv rfl) <| lSkip (gd rfl rfl rfl rfl) rfl rfl <| lSkip (gd rfl rfl rfl rfl) rfl rfl <| lSkip (gd rfl rfl rfl rfl) rfl rfl <| R rfl (pkT rfl rfl) <| R rfl (mv rfl) <| lSkip (gd rfl rfl rfl rfl) rfl rfl <| lSkip (gd rfl rfl rfl rfl) rfl rfl <| lSkip (gd rfl rfl rfl rfl) rfl rfl <| lSkip (gdU rfl rfl rfl) rfl rfl <| lSkip (gdU rfl rfl rfl) rfl rfl <| lSkip (gdU rfl rfl rfl) rfl rfl <| lSkip (gd rfl rfl rfl rfl) rfl rfl <| R rfl (pkT rfl rfl) <| R rfl (mv rfl) <| lSkip (gd rfl rfl rfl rfl) rfl rfl <| lSkip (gd rfl rfl rfl rfl) rfl rfl <| lSkip (gdU rfl rfl rfl) rfl rfl <| lSkip (gdU rfl rfl rfl) rfl rfl <| lSkip (gdU rfl rfl rfl) rfl rfl <| lSkip (gd rfl rfl rfl rfl) rfl rfl <| R rfl (pkT rfl rfl) <| R rfl (mv rfl) <| lSkip (gd rfl rfl rfl rfl) rfl rfl <| lSkip (gd rfl rfl rfl rfl) rfl rfl <| lSkip (gd rfl rfl rfl rfl) rfl rfl <| lSkip (gd rfl rfl rfl rfl) rfl rfl <| lSkip (gd rfl rfl rfl rfl) rfl rfl <| R rfl (pkT rfl rfl) <| R rfl (mv rfl) <| lSkip (gd rfl rfl rfl rfl) rfl rfl <| lSkip (gd rfl rfl rfl rfl) rfl rfl <| lSkip (gd rfl rfl rfl rfl) rfl rfl <| lSkip (gd rfl rfl rfl rfl) rfl rfl <| lSkip (gd rfl rfl rfl rfl) rfl rfl <| R rfl (pkT rfl rfl) <| gNil <| eMid (fun aa ww h => h.sub [] (sS rfl <| sN) (rN))
    · skip
      refine lKn 10 rfl h4 <| lRun (gd rfl rfl rfl rfl) rfl rfl (faB 1 rfl rfl Try.underlying66 rfl (by exact ti5)) <| lRun (gd rfl rfl rfl rfl) rfl rfl (ld 1 rfl rfl ((Foc.here).part (pt_api_Session_State _)) ty5 rfl) <| lRun (gd rfl rfl rfl rfl) rfl rfl (B.gtr rfl rfl) <| R rfl (pkF rfl rfl) <| R rfl (mv rfl) <| lSplit 16 rfl (fun h5 => ?_) (fun h5 => ?_)
      · skip
        refine lKn 14 rfl h5 <| lKn 15 rfl h5 <| lSkip (gd rfl rfl rfl rfl) rfl rfl <| lSkip (gd rfl rfl rfl rfl) rfl rfl <| lSkip (gd rfl rfl rfl rfl) rfl rfl <| R rfl (pkT rfl rfl) <| R rfl (mv rfl) <| lSkip (gd rfl rfl rfl rfl) rfl rfl <| lSkip (gd rfl rfl rfl rfl) rfl rfl <| lSkip (gd rfl rfl rfl rfl) rfl rfl <| lSkip (gdU rfl rfl rfl) rfl rfl <| lSkip (gdU rfl rfl rfl) rfl rfl <| lSkip (gdU rfl rfl rfl) rfl rfl <| lSkip (gd rfl rfl rfl rfl) rfl rfl <| R rfl (pkT rfl rfl) <| R rfl (mv rfl) <| lSkip (gd rfl rfl rfl rfl) rfl rfl <| lSkip (gd rfl rfl rfl rfl) rfl rfl <| lSkip (gdU rfl rfl rfl) rfl rfl <| lSkip (gdU rfl rfl rfl) rfl rfl <| lSkip (gdU rfl rfl rfl) rfl rfl <| lSkip (gd rfl rfl rfl rfl) rfl rfl <| R rfl (pkT rfl rfl) <| R rfl (mv rfl) <| lSkip (gd rfl rfl rfl rfl) rfl rfl <| lSkip (gd rfl rfl rfl rfl) rfl rfl <| lSkip (gd rfl rfl rfl rfl) rfl rfl <| lSkip (gd rfl rfl rfl rfl) rfl rfl <| lSkip (gd rfl rfl rfl rfl) rfl rfl <| R rfl (pkT rfl rfl) <| R rfl (mv rfl) <| lSkip (gd rfl rfl rfl rfl) rfl rfl <| lSkip (gd rfl rfl rfl rfl) rfl rfl <| lSkip (gd rfl rfl rfl rfl) rfl rfl <| lSkip (gd rfl rfl rfl rfl) rfl rfl <| lSkip (gd rfl rfl rfl rfl) rfl rfl <| R rfl (pkT rfl rfl) <| gNil <| eMid (fun aa ww h => h.sub [] (sS rfl <| sN) (rN))
      · skip
        refine lKn 14 rfl h5 <| lKn 15 rfl h5 <| lRun (gd rfl rfl rfl rfl) rfl rfl (faB 1 rfl rfl Try.underlying66 rfl (by exact ti3)) <| lRun (gd rfl rfl rfl rfl) rfl rfl (ld 1 rfl rfl ((Foc.here).part (pt_api_Session_Faults _)) ty3 rfl) <| lRun (gd rfl rfl rfl rfl) rfl rfl (I.lss rfl rfl) <| R rfl (pkF rfl rfl) <| R rfl (mv rfl) <| lSplit 21 rfl (fun h6 => ?_) (fun h6 => ?_)
        · skip
          refine lKn 19 rfl h6 <| lKn 20 rfl h6 <| lSkip (gd rfl rfl rfl rfl) rfl rfl <| lSkip (gd rfl rfl rfl rfl) rfl rfl <| lSkip (gd rfl rfl rfl rfl) rfl rfl <| lSkip (gdU rfl rfl rfl) rfl rfl <| lSkip (gdU rfl rfl rfl) rfl rfl <| lSkip (gdU rfl rfl rfl) rfl rfl <| lSkip (gd rfl rfl rfl rfl) rfl rfl <| R rfl (pkT rfl rfl) <| R rfl (mv rfl) <| lSkip (gd rfl rfl rfl rfl) rfl rfl <| lSkip (gd rfl rfl rfl rfl) rfl rfl <| lSkip (gdU rfl rfl rfl) rfl rfl <| lSkip (gdU rfl rfl rfl) rfl rfl <| lSkip (gdU rfl rfl rfl) rfl rfl <| lSkip (gd rfl rfl rfl rfl) rfl rfl <| R rfl (pkT rfl rfl) <| R rfl (mv rfl) <| lSkip (gd rfl rfl rfl rfl) rfl rfl <| lSkip (gd rfl rfl rfl rfl) rfl rfl <| lSkip (gd rfl rfl rfl rfl) rfl rfl <| lSkip (gd rfl rfl rfl rfl) rfl rfl <| lSkip (gd rfl rfl rfl rfl) rfl rfl <| R rfl (pkT rfl rfl) <| R rfl (mv rfl) <| lSkip (gd rfl rfl rfl rfl) rfl rfl <| lSkip (gd rfl rfl rfl rfl) rfl rfl <| lSkip (gd rfl rfl rfl rfl) rfl rfl <| lSkip (gd rfl rfl rfl rfl) rfl rfl <| lSkip (gd rfl rfl rfl rfl) rfl rfl <| R rfl (pkT rfl rfl) <| gNil <| eMid (fun aa ww h => h.sub [] (sS rfl <| sN) (rN))
        · skip
          refine lKn 19 rfl h6 <| lKn 20 rfl h6 <| lRun (gd rfl rfl rfl rfl) rfl rfl (mv rfl) <| lRun (gd rfl rfl rfl rfl) rfl rfl (not' rfl) <| lRun (gd rfl rfl rfl rfl) rfl rfl (mv rfl) <| lSplit 24 rfl (fun h7 => ?_) (fun h7 => ?_)
          · skip
            refine lKn 23 rfl h7 <| lRun (gd rfl rfl rfl rfl) rfl rfl (faB 1 rfl rfl Try.underlying66 rfl (by exact ti3)) <| lRun (gd rfl rfl rfl rfl) rfl rfl (ld 1 rfl rfl ((Foc.here).part (pt_api_Session_Faults _)) ty3 rfl) <| lRun (gd rfl rfl rfl rfl) rfl rfl (I.geq rfl rfl) <| lRun (gd rfl rfl rfl rfl) rfl rfl (pkT rfl rfl) <| R rfl (pkF rfl rfl) <| R rfl (mv rfl) <| lSplit 30 rfl (fun h8 => ?_) (fun h8 => ?_)
            · skip
              refine lKn 27 rfl h8 <| lKn 28 rfl h8 <| lKn 29 rfl h8 <| lSkip (gd rfl rfl rfl rfl) rfl rfl <| lSkip (gd rfl rfl rfl rfl) rfl rfl <| lSkip (gdU rfl rfl rfl) rfl rfl <| lSkip (gdU rfl rfl rfl) rfl rfl <| lSkip (gdU rfl rfl rfl) rfl rfl <| lSkip (gd rfl rfl rfl rfl) rfl rfl <| R rfl (pkT rfl rfl) <| R rfl (mv rfl) <| lSkip (gd rfl rfl rfl rfl) rfl rfl <| lSkip (gd rfl rfl rfl rfl) rfl rfl <| lSkip (gd rfl rfl rfl rfl) rfl rfl <| lSkip (gd rfl rfl rfl rfl) rfl rfl <| lSkip (gd rfl rfl rfl rfl) rfl rfl <| R rfl (pkT rfl rfl) <| R rfl (mv rfl) <| lSkip (gd rfl rfl rfl rfl) rfl rfl <| lSkip (gd rfl rfl rfl rfl) rfl rfl <| lSkip (gd rfl rfl rfl rfl) rfl rfl <| lSkip (gd rfl rfl rfl rfl) rfl rfl <| lSkip (gd rfl rfl rfl rfl) rfl rfl <| R rfl (pkT rfl rfl) <| gNil <| eMid (fun aa ww h => h.sub [] (sS rfl <| sN) (rN))
            · skip
              refine lKn 27 rfl h8 <| lKn 28 rfl h8 <| lKn 29 rfl h8 <| lRun (gd rfl rfl rfl rfl) rfl rfl (mv rfl) <| lRun (gd rfl rfl rfl rfl) rfl rfl (mv rfl) <| lSplit 32 rfl (fun h9 => ?_) (fun h9 => ?_)
              · skip
                refine lKn 4 rfl h9 <| lKn 22 rfl h9 <| lKn 31 rfl h9 <| lRun (gd rfl rfl rfl rfl) rfl rfl (faB 1 rfl rfl Try.underlying66 rfl (by exact ti3)) <| lRun (gd rfl rfl rfl rfl) rfl rfl (ld 1 rfl rfl ((Foc.here).part (pt_api_Session_Faults _)) ty3 rfl) <| lRun (gd rfl rfl rfl rfl) rfl rfl (I.neq rfl rfl) <| lRun (gd rfl rfl rfl rfl) rfl rfl (pkT rfl rfl) <| R rfl (pkF rfl rfl) <| R rfl (mv rfl) <| lSplit 38 rfl (fun h10 => ?_) (fun h10 => ?_)
                · skip
                  refine lKn 35 rfl h10 <| lKn 36 rfl h10 <| lKn 37 rfl h10 <| lSkip (gd rfl rfl rfl rfl) rfl rfl <| lSkip (gd rfl rfl rfl rfl) rfl rfl <| lSkip (gd rfl rfl rfl rfl) rfl rfl <| lSkip (gd rfl rfl rfl rfl) rfl rfl <| lSkip (gd rfl rfl rfl rfl) rfl rfl <| R rfl (pkT rfl rfl) <| R rfl (mv rfl) <| lSkip (gd rfl rfl rfl rfl) rfl rfl <| lSkip (gd rfl rfl rfl rfl) rfl rfl <| lSkip (gd rfl rfl rfl rfl) rfl rfl <| lSkip (gd rfl rfl rfl rfl) rfl rfl <| lSkip (gd rfl rfl rfl rfl) rfl rfl <| R rfl (pkT rfl rfl) <| gNil <| eMid (fun aa ww h => h.sub [] (sS rfl <| sN) (rN))
                · skip
                  refine lKn 35 rfl h10 <| lKn 36 rfl h10 <| lKn 37 rfl h10 <| lRun (gd rfl rfl rfl rfl) rfl rfl (mv rfl) <| lRun (gd rfl rfl rfl rfl) rfl rfl (faB 1 rfl rfl Try.underlying66 rfl (by exact ti3)) <| lRun (gd rfl rfl rfl rfl) rfl rfl (ld 1 rfl rfl ((Foc.here).part (pt_api_Session_Frames _)) ty3 rfl) <| callv [] [] (gd rfl rfl rfl rfl) rfl rfl Try.func129 rfl rfl (session_Check_1_ok _) (aQ rfl <| aN) (cN) rN fun r11 n12 => lRun (gd rfl rfl rfl rfl) rfl rfl (not' rfl) <| R rfl (pkF rfl rfl) <| R rfl (mv rfl) <| lSplit 45 rfl (fun h13 => ?_) (fun h13 => ?_)
                  · skip
                    refine lKn 43 rfl h13 <| lKn 44 rfl h13 <| lSkip (gd rfl rfl rfl rfl) rfl rfl <| lSkip (gd rfl rfl rfl rfl) rfl rfl <| lSkip (gd rfl rfl rfl rfl) rfl rfl <| lSkip (gd rfl rfl rfl rfl) rfl rfl <| lSkip (gd rfl rfl rfl rfl) rfl rfl <| R rfl (pkT rfl rfl) <| gNil <| eMid (fun aa ww h => h.sub [] (sS rfl <| sN) (rN))
                  · skip
                    refine lKn 43 rfl h13 <| lKn 44 rfl h13 <| lRun (gd rfl rfl rfl rfl) rfl rfl (mv rfl) <| lRun (gd rfl rfl rfl rfl) rfl rfl (faB 1 rfl rfl Try.underlying66 rfl (by exact ti3)) <| lRun (gd rfl rfl rfl rfl) rfl rfl (ld 1 rfl rfl ((Foc.here).part (pt_api_Session_Ops _)) ty3 rfl) <| callv [] [] (gd rfl rfl rfl rfl) rfl rfl Try.func129 rfl rfl (session_Check_1_ok _) (aQ rfl <| aN) (cN) rN fun r14 n15 => lRun (gd rfl rfl rfl rfl) rfl rfl (not' rfl) <| R rfl (pkF rfl rfl) <| gNil <| eMid (fun aa ww h => h.sub [] (sS rfl <| sN) (rN))
              · skip
                refine lKn 4 rfl h9 <| lKn 22 rfl h9 <| lKn 31 rfl h9 <| lSkip (gd rfl rfl rfl rfl) rfl rfl <| lSkip (gd rfl rfl rfl rfl) rfl rfl <| lSkip (gd rfl rfl rfl rfl) rfl rfl <| lRun (gd rfl rfl rfl rfl) rfl rfl (pkF rfl rfl) <| R rfl (pkF rfl rfl) <| R rfl (mv rfl) <| lRun (gd rfl rfl rfl rfl) rfl rfl (mv rfl) <| lRun (gd rfl rfl rfl rfl) rfl rfl (faB 1 rfl rfl Try.underlying66 rfl (by exact ti3)) <| lRun (gd rfl rfl rfl rfl) rfl rfl (ld 1 rfl rfl ((Foc.here).part (pt_api_Session_Frames _)) ty3 rfl) <| callv [] [] (gd rfl rfl rfl rfl) rfl rfl Try.func129 rfl rfl (session_Check_1_ok _) (aQ rfl <| aN) (cN) rN fun r16 n17 => lRun (gd rfl rfl rfl rfl) rfl rfl (not' rfl) <| R rfl (pkF rfl rfl) <| R rfl (mv rfl) <| lSplit 45 rfl (fun h18 => ?_) (fun h18 => ?_)
                · skip
                  refine lKn 43 rfl h18 <| lKn 44 rfl h18 <| lSkip (gd rfl rfl rfl rfl) rfl rfl <| lSkip (gd rfl rfl rfl rfl) rfl rfl <| lSkip (gd rfl rfl rfl rfl) rfl rfl <| lSkip (gd rfl rfl rfl rfl) rfl rfl <| lSkip (gd rfl rfl rfl rfl) rfl rfl <| R rfl (pkT rfl rfl) <| gNil <| eMid (fun aa ww h => h.sub [] (sS rfl <| sN) (rN))
                · skip
                  refine lKn 43 rfl h18 <| lKn 44 rfl h18 <| lRun (gd rfl rfl rfl rfl) rfl rfl (mv rfl) <| lRun (gd rfl rfl rfl rfl) rfl rfl (faB 1 rfl rfl Try.underlying66 rfl (by exact ti3)) <| lRun (gd rfl rfl rfl rfl) rfl rfl (ld 1 rfl rfl ((Foc.here).part (pt_api_Session_Ops _)) ty3 rfl) <| callv [] [] (gd rfl rfl rfl rfl) rfl rfl Try.func129 rfl rfl (session_Check_1_ok _) (aQ rfl <| aN) (cN) rN fun r19 n20 => lRun (gd rfl rfl rfl rfl) rfl rfl (not' rfl) <| R rfl (pkF rfl rfl) <| gNil <| eMid (fun aa ww h => h.sub [] (sS rfl <| sN) (rN))
          · skip
            refine lKn 23 rfl h7 <| lSkip (gd rfl rfl rfl rfl) rfl rfl <| lSkip (gd rfl rfl rfl rfl) rfl rfl <| lSkip (gd rfl rfl rfl rfl) rfl rfl <| lRun (gd rfl rfl rfl rfl) rfl rfl (pkF rfl rfl) <| R rfl (pkF rfl rfl) <| R rfl (mv rfl) <| lRun (gd rfl rfl rfl rfl) rfl rfl (mv rfl) <| lRun (gd rfl rfl rfl rfl) rfl rfl (mv rfl) <| lSplit 32 rfl (fun h21 => ?_) (fun h21 => ?_)
            · skip
              refine lKn 4 rfl h21 <| lKn 22 rfl h21 <| lKn 31 rfl h21 <| lRun (gd rfl rfl rfl rfl) rfl rfl (faB 1 rfl rfl Try.underlying66 rfl (by exact ti3)) <| lRun (gd rfl rfl rfl rfl) rfl rfl (ld 1 rfl rfl ((Foc.here).part (pt_api_Session_Faults _)) ty3 rfl) <| lRun (gd rfl rfl rfl rfl) rfl rfl (I.neq rfl rfl) <| lRun (gd rfl rfl rfl rfl) rfl rfl (pkT rfl rfl) <| R rfl (pkF rfl rfl) <| R rfl (mv rfl) <| lSplit 38 rfl (fun h22 => ?_) (fun h22 => ?_)
              · skip
                refine lKn 35 rfl h22 <| lKn 36 rfl h22 <| lKn 37 rfl h22 <| lSkip (gd rfl rfl rfl rfl) rfl rfl <| lSkip (gd rfl rfl rfl rfl) rfl rfl <| lSkip (gd rfl rfl rfl rfl) rfl rfl <| lSkip (gd rfl rfl rfl rfl) rfl rfl <| lSkip (gd rfl rfl rfl rfl) rfl rfl <| R rfl (pkT rfl rfl) <| R rfl (mv rfl) <| lSkip (gd rfl rfl rfl rfl) rfl rfl <| lSkip (gd rfl rfl rfl rfl) rfl rfl <| lSkip (gd rfl rfl rfl rfl) rfl rfl <| lSkip (gd rfl rfl rfl rfl) rfl rfl <| lSkip (gd rfl rfl rfl rfl) rfl rfl <| R rfl (pkT rfl rfl) <| gNil <| eMid (fun aa ww h => h.sub [] (sS rfl <| sN) (rN))
              · skip
                refine lKn 35 rfl h22 <| lKn 36 rfl h22 <| lKn 37 rfl h22 <| lRun (gd rfl rfl rfl rfl) rfl rfl (mv rfl) <| lRun (gd rfl rfl rfl rfl) rfl rfl (faB 1 rfl rfl Try.underlying66 rfl (by exact ti3)) <| lRun (gd rfl rfl rfl rfl) rfl rfl (ld 1 rfl rfl ((Foc.here).part (pt_api_Session_Frames _)) ty3 rfl) <| callv [] [] (gd rfl rfl rfl rfl) rfl rfl Try.func129 rfl rfl (session_Check_1_ok _) (aQ rfl <| aN) (cN) rN fun r23 n24 => lRun (gd rfl rfl rfl rfl) rfl rfl (not' rfl) <| R rfl (pkF rfl rfl) <| R rfl (mv rfl) <| lSplit 45 rfl (fun h25 => ?_) (fun h25 => ?_)
                · skip
                  refine lKn 43 rfl h25 <| lKn 44 rfl h25 <| lSkip (gd rfl rfl rfl rfl) rfl rfl <| lSkip (gd rfl rfl rfl rfl) rfl rfl <| lSkip (gd rfl rfl rfl rfl) rfl rfl <| lSkip (gd rfl rfl rfl rfl) rfl rfl <| lSkip (gd rfl rfl rfl rfl) rfl rfl <| R rfl (pkT rfl rfl) <| gNil <| eMid (fun aa ww h => h.sub [] (sS rfl <| sN) (rN))
                · skip
                  refine lKn 43 rfl h25 <| lKn 44 rfl h25 <| lRun (gd rfl rfl rfl rfl) rfl rfl (mv rfl) <| lRun (gd rfl rfl rfl rfl) rfl rfl (faB 1 rfl rfl Try.underlying66 rfl (by exact ti3)) <| lRun (gd rfl rfl rfl rfl) rfl rfl (ld 1 rfl rfl ((Foc.here).part (pt_api_Session_Ops _)) ty3 rfl) <| callv [] [] (gd rfl rfl rfl rfl) rfl rfl Try.func129 rfl rfl (session_Check_1_ok _) (aQ rfl <| aN) (cN) rN fun r26 n27 => lRun (gd rfl rfl rfl rfl) rfl rfl (not' rfl) <| R rfl (pkF rfl rfl) <| gNil <| eMid (fun aa ww h => h.sub [] (sS rfl <| sN) (rN))
            · skip
              refine lKn 4 rfl h21 <| lKn 22 rfl h21 <| lKn 31 rfl h21 <| lSkip (gd rfl rfl rfl rfl) rfl rfl <| lSkip (gd rfl rfl rfl rfl) rfl rfl <| lSkip (gd rfl rfl rfl rfl) rfl rfl <| lRun (gd rfl rfl rfl rfl) rfl rfl (pkF rfl rfl) <| R rfl (pkF rfl rfl) <| R rfl (mv rfl) <| lRun (gd rfl rfl rfl rfl) rfl rfl (mv rfl) <| lRun (gd rfl rfl rfl rfl) rfl rfl (faB 1 rfl rfl Try.underlying66 rfl (by exact ti3)) <| lRun (gd rfl rfl rfl rfl) rfl rfl (ld 1 rfl rfl ((Foc.here).part (pt_api_Session_Frames _)) ty3 rfl) <| callv [] [] (gd rfl rfl rfl rfl) rfl rfl Try.func129 rfl rfl (session_Check_1_ok _) (aQ rfl <| aN) (cN) rN fun r28 n29 => lRun (gd rfl rfl rfl rfl) rfl rfl (not' rfl) <| R rfl (pkF rfl rfl) <| R rfl (mv rfl) <| lSplit 45 rfl (fun h30 => ?_) (fun h30 => ?_)
              · skip
                refine lKn 43 rfl h30 <| lKn 44 rfl h30 <| lSkip (gd rfl rfl rfl rfl) rfl rfl <| lSkip (gd rfl rfl rfl rfl) rfl rfl <| lSkip (gd rfl rfl rfl rfl) rfl rfl <| lSkip (gd rfl rfl rfl rfl) rfl rfl <| lSkip (gd rfl rfl rfl rfl) rfl rfl <| R rfl (pkT rfl rfl) <| gNil <| eMid (fun aa ww h => h.sub [] (sS rfl <| sN) (rN))
              · skip
                refine lKn 43 rfl h30 <| lKn 44 rfl h30 <| lRun (gd rfl rfl rfl rfl) rfl rfl (mv rfl) <| lRun (gd rfl rfl rfl rfl) rfl rfl (faB 1 rfl rfl Try.underlying66 rfl (by exact ti3)) <| lRun (gd rfl rfl rfl rfl) rfl rfl (ld 1 rfl rfl ((Foc.here).part (pt_api_Session_Ops _)) ty3 rfl) <| callv [] [] (gd rfl rfl rfl rfl) rfl rfl Try.func129 rfl rfl (session_Check_1_ok _) (aQ rfl <| aN) (cN) rN fun r31 n32 => lRun (gd rfl rfl rfl rfl) rfl rfl (not' rfl) <| R rfl (pkF rfl rfl) <| gNil <| eMid (fun aa ww h => h.sub [] (sS rfl <| sN) (rN))
  · skip
    refine gIf rfl rfl (fun h33 => ?_) (fun h33 => ?_)
    · skip
      refine gSeq <| gReg <| R rfl (asg rfl) <| gNil <| eThen <| gRet <| eTret <| eRet [] [] rfl (eE rfl <| eN) (rN)
    · skip
      refine gSkip <| eThen <| gSeq <| gReg <| R rfl (asg rfl) <| gNil <| eThen <| gRet <| eRet [] [] rfl (eE rfl <| eN) (rN)


def frame_listed (a0 : UInt8) : Option (Bool) :=
  if decide (2 ≤ a0) then
    some (decide (a0 ≤ 4)) >>= fun y2 =>
    some y2
  else
    some false
set_option maxRecDepth 100000 in
theorem frame_listed_ok (a0 : UInt8) : Spec Try.prog 121 [.rd u8R a0] [] (frame_listed a0) (fun r nv => ⟨[.rd boolR r], []⟩) := by
  refine spec 9 Try.func121 rfl rfl rfl fun H w => ?_
  refine gSeq <| gReg <| R rfl (asg rfl) <| gNil <| eThen <| gSeq <| gReg <| R rfl (mv rfl) <| R rfl (B.geq rfl rfl) <| R rfl (mv rfl) <| lSplit 5 rfl (fun h1 => ?_) (fun h1 => ?_)
  · skip
    refine lKn 4 rfl h1 <| lRun (gd rfl rfl rfl rfl) rfl rfl (mv rfl) <| lRun (gd rfl rfl rfl rfl) rfl rfl (B.leq rfl rfl) <| R rfl (pkT rfl rfl) <| R rfl (asg rfl) <| lName 2 rfl fun y2 => gNil <| eThen <| gRet <| eRet [] [] rfl (eE rfl <| eN) (rN)
  · skip
    refine lKn 4 rfl h1 <| lSkip (gd rfl rfl rfl rfl) rfl rfl <| lSkip (gd rfl rfl rfl rfl) rfl rfl <| R rfl (pkF rfl rfl) <| R rfl (asg rfl) <| gNil <| eThen <| gRet <| eRet [] [] rfl (eE rfl <| eN) (rN)


def bytes_Compare (a0 : List UInt8) (a1 : List UInt8) : Option (Int) :=
  some (Lib.compareBytes a0 a1) >>= fun y1 =>
  some y1
set_option maxRecDepth 100000 in
theorem bytes_Compare_ok (a0 : List UInt8) (a1 : List UInt8) : Spec Try.prog 140 [.rd (sliceR u8R) a0, .rd (sliceR u8R) a1] [] (bytes_Compare a0 a1) (fun r nv => ⟨[.rd i64R r], []⟩) := by
  refine spec 8 Try.func140 rfl rfl rfl fun H w => ?_
  refine gSeq <| gReg <| R rfl (asg rfl) <| gNil <| eThen <| gSeq <| gReg <| R rfl (mv rfl) <| R rfl (mv rfl) <| R rfl (cmpB rfl rfl Try.func141 rfl rfl (by kernel_rfl) (by kernel_rfl)) <| R rfl (asg rfl) <| lName 4 rfl fun y1 => gNil <| eThen <| gRet <| eRet [] [] rfl (eE rfl <| eN) (rN)


def digest_Cmp (a0 : Vector UInt8 32) (a1 : Vector UInt8 32) : Option (Int) :=
  bytes_Compare a0.toList a1.toList >>= fun r3 =>
  some r3
set_option maxRecDepth 100000 in
theorem digest_Cmp_ok (a0 : Vector UInt8 32) (a1 : Vector UInt8 32) : Spec Try.prog 136 [.rd (arrR 32 u8R) a0, .rd (arrR 32 u8R) a1] [] (digest_Cmp a0 a1) (fun r nv => ⟨[.rd i64R r], []⟩) := by
  refine spec 8 Try.func136 rfl rfl rfl fun H w => ?_
  refine gSeq <| gReg <| Eb rfl (bx 1 rfl) fun v1 => Eb rfl (bx 2 rfl) fun v2 => R rfl (asg rfl) <| gNil <| eThen <| gSeq <| gFrzB 1 2 rfl rfl <| gFrzB 2 3 rfl rfl <| gRegH [] mixed rfl rfl <| hTake 0 rfl (by kernel_rfl) (by kernel_rfl) (by kernel_rfl) (gd0 rfl) rfl rfl (cutV rfl Try.underlying102 ti5 rfl rfl rfl) <| hTake 1 rfl (by kernel_rfl) (by kernel_rfl) (by kernel_rfl) (gd0 rfl) rfl rfl (cutV rfl Try.underlying102 ti5 rfl rfl rfl) <| hCallF 2 [] [] rfl (by kernel_rfl) rfl (gd0 rfl) rfl Try.func140 rfl rfl (bytes_Compare_ok _ _) (aQ rfl <| aQ rfl <| aN) rN rfl (fun _ _ => flat_num) fun r3 n4 => hTake 3 rfl (by kernel_rfl) (by kernel_rfl) (by kernel_rfl) (gd0 rfl) rfl rfl (asg rfl) <| hDone (by kernel_rfl) <| eThen <| gRet <| eRet [] [] rfl (eE rfl <| eN) (rN)

def frame_rising_L0 (a0 : List (Vector UInt8 32)) (s2 : Int) : Option (Sum (Sum Bool Unit) Int) :=
  if decide (s2 < (a0.length : Int)) then
    idx a0 (w64 (s2 - 1)) >>= fun x4 =>
    idx a0 s2 >>= fun x6 =>
    digest_Cmp x4 x6 >>= fun r8 =>
    if decide (0 ≤ r8) then
      some (.inl (.inl false))
    else
      some (.inr (w64 (s2 + 1)))
  else
    some (.inl (.inr ()))
def frame_rising (a0 : List (Vector UInt8 32)) : Option (Bool) :=
  orRet (iter (frame_rising_L0 a0) 1) fun s1 =>
  some true
set_option maxRecDepth 100000 in
theorem frame_rising_ok (a0 : List (Vector UInt8 32)) : Spec Try.prog 122 [.rd (sliceR (arrR 32 u8R)) a0] [] (frame_rising a0) (fun r nv => ⟨[.rd boolR r], []⟩) := by
  refine spec 21 Try.func122 rfl rfl rfl fun H w => ?_
  refine gSeq <| gReg <| R rfl (asg rfl) <| gNil <| eThen <| gMidR (fun (s1 : Unit) aa ww => Sta (ctx 21 H [] w) [] [] aa ww) ?_ (fun s1 => ?_)
  · skip
    refine gSeq <| gReg <| R rfl (asg rfl) <| gNil <| eThen <| gLoop (fun (s2 : Int) aa ww => Sta (ctx 21 H [] w) [(0, .rd (sliceR (arrR 32 u8R)) a0), (3, .rd i64R s2)] [] aa ww) (fun aa ww h => h.sub [] (sS rfl <| sS rfl <| sN) (rN)) (fun s2 => ?_)
    refine gSeq <| gSeq <| gReg <| R rfl (mv rfl) <| R rfl (mv rfl) <| R rfl (len' rfl .rd rfl Try.underlying83) <| R rfl (I.lss rfl rfl) <| gNil <| eThen <| gIf rfl rfl (fun h3 => ?_) (fun h3 => ?_)
    · skip
      refine gSkip <| eThen <| gSeq <| gBlk <| gSeq <| gRegH [] mixed rfl rfl <| hTake 0 rfl (by kernel_rfl) (by kernel_rfl) (by kernel_rfl) (gd0 rfl) rfl rfl (mv rfl) <| hTake 1 rfl (by kernel_rfl) (by kernel_rfl) (by kernel_rfl) (gd0 rfl) rfl rfl (mv rfl) <| hTake 2 rfl (by kernel_rfl) (by kernel_rfl) (by kernel_rfl) (gd0 rfl) rfl rfl (I.sub rfl rfl) <| hBind fun x4 h5 => hTake 3 rfl (by kernel_rfl) (by kernel_rfl) (by kernel_rfl) (gd0 rfl) rfl rfl (ixR rfl rfl h5 Try.underlying83 ti102 rfl) <| hTake 4 rfl (by kernel_rfl) (by kernel_rfl) (by kernel_rfl) (gd0 rfl) rfl rfl (ldR rfl ty102) <| hTake 5 rfl (by kernel_rfl) (by kernel_rfl) (by kernel_rfl) (gd0 rfl) rfl rfl (mv rfl) <| hTake 6 rfl (by kernel_rfl) (by kernel_rfl) (by kernel_rfl) (gd0 rfl) rfl rfl (mv rfl) <| hBind fun x6 h7 => hTake 7 rfl (by kernel_rfl) (by kernel_rfl) (by kernel_rfl) (gd0 rfl) rfl rfl (ixR rfl rfl h7 Try.underlying83 ti102 rfl) <| hTake 8 rfl (by kernel_rfl) (by kernel_rfl) (by kernel_rfl) (gd0 rfl) rfl rfl (ldR rfl ty102) <| hCallF 9 [] [] rfl (by kernel_rfl) rfl (gd0 rfl) rfl Try.func136 rfl rfl (digest_Cmp_ok _ _) (aQ rfl <| aQ rfl <| aN) rN rfl (fun _ _ => flat_num) fun r8 n9 => hTake 10 rfl (by kernel_rfl) (by kernel_rfl) (by kernel_rfl) (gd0 rfl) rfl rfl (I.geq rfl rfl) <| hDone (by kernel_rfl) <| eThen <| gIf rfl rfl (fun h10 => ?_) (fun h10 => ?_)
      · skip
        refine gSeq <| gReg <| R rfl (asg rfl) <| gNil <| eThen <| gRet <| eBret <| eTret <| eLret <| eMret <| eRet [] [] rfl (eE rfl <| eN) (rN)
      · skip
        refine gSkip <| eBlk <| eThen <| gReg <| R rfl (mv rfl) <| R rfl (I.add rfl rfl) <| R rfl (asg rfl) <| gNil <| eNext (fun aa ww h => h.sub [] (sS rfl <| sS rfl <| sN) (rN))
    · skip
      refine gExit <| eTexit <| eLeave <| eMidR (fun aa ww h => h.sub [] (sN) (rN))
  · skip
    refine gSeq <| gReg <| R rfl (asg rfl) <| gNil <| eThen <| gRet <| eRet [] [] rfl (eE rfl <| eN) (rN)


def wire_rising_1 (a0 : Vector UInt8 32) (c1_0 : Int) (c2_0 : List (Vector UInt8 32)) : Option (Bool × Int) :=
  if decide ((w64 (c1_0 + 1)) < (c2_0.length : Int)) then
    idx c2_0 (w64 ((w64 (c1_0 + 1)) - 1)) >>= fun x3 =>
    idx c2_0 (w64 (c1_0 + 1)) >>= fun x5 =>
    digest_Cmp x3 x5 >>= fun r7 =>
    some (decide (0 ≤ r7)) >>= fun y9 =>
    some (y9, w64 (c1_0 + 1))
  else
    some (false, w64 (c1_0 + 1))
set_option maxRecDepth 100000 in
theorem wire_rising_1_ok (a0 : Vector UInt8 32) (p1_0 : Value) (c1_0 : Int) (p2_0 : Value) (c2_0 : List (Vector UInt8 32)) : Spec Try.prog 135 [.rd (arrR 32 u8R) a0, .val (ptrTo p1_0 0), .val (ptrTo p2_0 0)] [(1, some (p1_0, .box 3 [.rd i64R c1_0])), (2, some (p2_0, .box 83 [.rd (sliceR (arrR 32 u8R)) c2_0]))] (wire_rising_1 a0 c1_0 c2_0) (fun r nv => ⟨[.rd boolR r.1], [(1, some (p1_0, .box 3 [.rd i64R r.2])), (2, some (p2_0, .box 83 [.rd (sliceR (arrR 32 u8R)) c2_0]))]⟩) := by
  refine spec 24 Try.func135 rfl rfl rfl fun H w => ?_
  refine gSeq <| gReg <| Eb rfl (bx 3 rfl) fun v1 => R rfl (asg rfl) <| gNil <| eThen <| gSeq <| gReg <| R rfl (ld 1 rfl rfl Foc.here ty3 rfl) <| R rfl (I.add rfl rfl) <| Es (sto 1 rfl rfl Foc.here rfl ti3) <| gNil <| eThen <| gSeq <| gRegH [] mixed rfl rfl <| hTake 0 rfl (by kernel_rfl) (by kernel_rfl) (by kernel_rfl) (gd0 rfl) rfl rfl (ld 1 rfl rfl Foc.here ty3 rfl) <| hTake 1 rfl (by kernel_rfl) (by kernel_rfl) (by kernel_rfl) (gd0 rfl) rfl rfl (ld 2 rfl rfl Foc.here ty83 rfl) <| hTake 2 rfl (by kernel_rfl) (by kernel_rfl) (by kernel_rfl) (gd0 rfl) rfl rfl (len' rfl .rd rfl Try.underlying83) <| hTake 3 rfl (by kernel_rfl) (by kernel_rfl) (by kernel_rfl) (gd0 rfl) rfl rfl (I.lss rfl rfl) <| hTake 4 rfl (by kernel_rfl) (by kernel_rfl) (by kernel_rfl) (gd0 rfl) rfl rfl (mv rfl) <| hIf 11 rfl rfl (fun h2 => ?_) (fun h2 => ?_)
  · skip
    refine hKn 10 rfl rfl h2 <| hTake 5 rfl (by kernel_rfl) (by kernel_rfl) (by kernel_rfl) (gd rfl rfl rfl rfl) rfl rfl (ld 2 rfl rfl Foc.here ty83 rfl) <| hTake 6 rfl (by kernel_rfl) (by kernel_rfl) (by kernel_rfl) (gd rfl rfl rfl rfl) rfl rfl (ld 1 rfl rfl Foc.here ty3 rfl) <| hTake 7 rfl (by kernel_rfl) (by kernel_rfl) (by kernel_rfl) (gd rfl rfl rfl rfl) rfl rfl (I.sub rfl rfl) <| hBind fun x3 h4 => hTake 8 rfl (by kernel_rfl) (by kernel_rfl) (by kernel_rfl) (gd rfl rfl rfl rfl) rfl rfl (ixR rfl rfl h4 Try.underlying83 ti102 rfl) <| hTake 9 rfl (by kernel_rfl) (by kernel_rfl) (by kernel_rfl) (gd rfl rfl rfl rfl) rfl rfl (ldR rfl ty102) <| hTake 10 rfl (by kernel_rfl) (by kernel_rfl) (by kernel_rfl) (gd rfl rfl rfl rfl) rfl rfl (ld 2 rfl rfl Foc.here ty83 rfl) <| hTake 11 rfl (by kernel_rfl) (by kernel_rfl) (by kernel_rfl) (gd rfl rfl rfl rfl) rfl rfl (ld 1 rfl rfl Foc.here ty3 rfl) <| hBind fun x5 h6 => hTake 12 rfl (by kernel_rfl) (by kernel_rfl) (by kernel_rfl) (gd rfl rfl rfl rfl) rfl rfl (ixR rfl rfl h6 Try.underlying83 ti102 rfl) <| hTake 13 rfl (by kernel_rfl) (by kernel_rfl) (by kernel_rfl) (gd rfl rfl rfl rfl) rfl rfl (ldR rfl ty102) <| hCallF 14 [] [] rfl (by kernel_rfl) rfl (gd rfl rfl rfl rfl) rfl Try.func136 rfl rfl (digest_Cmp_ok _ _) (aQ rfl <| aQ rfl <| aN) rN rfl (fun _ _ => flat_num) fun r7 n8 => hTake 15 rfl (by kernel_rfl) (by kernel_rfl) (by kernel_rfl) (gd rfl rfl rfl rfl) rfl rfl (I.geq rfl rfl) <| hTake 16 rfl (by kernel_rfl) (by kernel_rfl) (by kernel_rfl) (gd0 rfl) rfl rfl (pkT rfl rfl) <| hTake 17 rfl (by kernel_rfl) (by kernel_rfl) (by kernel_rfl) (gd0 rfl) rfl rfl (asg rfl) <| hName 4 rfl rfl fun y9 => hDone (by kernel_rfl) <| eThen <| gRet <| eRet [] [1, 2] rfl (eE rfl <| eN) (rR rfl rfl <| rR rfl rfl <| rN)
  · skip
    refine hKn 10 rfl rfl h2 <| hSkip 5 rfl (by kernel_rfl) (by kernel_rfl) (by kernel_rfl) (gd rfl rfl rfl rfl) rfl rfl <| hSkip 6 rfl (by kernel_rfl) (by kernel_rfl) (by kernel_rfl) (gd rfl rfl rfl rfl) rfl rfl <| hSkip 7 rfl (by kernel_rfl) (by kernel_rfl) (by kernel_rfl) (gd rfl rfl rfl rfl) rfl rfl <| hSkip 8 rfl (by kernel_rfl) (by kernel_rfl) (by kernel_rfl) (gd rfl rfl rfl rfl) rfl rfl <| hSkip 9 rfl (by kernel_rfl) (by kernel_rfl) (by kernel_rfl) (gd rfl rfl rfl rfl) rfl rfl <| hSkip 10 rfl (by kernel_rfl) (by kernel_rfl) (by kernel_rfl) (gd rfl rfl rfl rfl) rfl rfl <| hSkip 11 rfl (by kernel_rfl) (by kernel_rfl) (by kernel_rfl) (gd rfl rfl rfl rfl) rfl rfl <| hSkip 12 rfl (by kernel_rfl) (by kernel_rfl) (by kernel_rfl) (gd rfl rfl rfl rfl) rfl rfl <| hSkip 13 rfl (by kernel_rfl) (by kernel_rfl) (by kernel_rfl) (gd rfl rfl rfl rfl) rfl rfl <| hSkip 14 rfl (by kernel_rfl) (by kernel_rfl) (by kernel_rfl) (gd rfl rfl rfl rfl) rfl rfl <| hSkip 15 rfl (by kernel_rfl) (by kernel_rfl) (by kernel_rfl) (gd rfl rfl rfl rfl) rfl rfl <| hTake 16 rfl (by kernel_rfl) (by kernel_rfl) (by kernel_rfl) (gd0 rfl) rfl rfl (pkF rfl rfl) <| hTake 17 rfl (by kernel_rfl) (by kernel_rfl) (by kernel_rfl) (gd0 rfl) rfl rfl (asg rfl) <| hDone (by kernel_rfl) <| eThen <| gRet <| eRet [] [1, 2] rfl (eE rfl <| eN) (rR rfl rfl <| rR rfl rfl <| rN)

def slices_IndexFunc_api_ID_api_ID_wire_rising_1_L0 (a0 : List (Vector UInt8 32)) (c1_1 : List (Vector UInt8 32)) (s2 : Int × Int) : Option (Sum (Sum (Int × Int) Int) (Int × Int)) :=
  if decide (s2.2 < (a0.length : Int)) then
    idx a0 s2.2 >>= fun x4 =>
    wire_rising_1 x4 s2.1 c1_1 >>= fun r6 =>
    if r6.1 then
      some (.inl (.inl (s2.2, r6.2)))
    else
      some (.inr (r6.2, w64 (s2.2 + 1)))
  else
    some (.inl (.inr s2.1))
def slices_IndexFunc_api_ID_api_ID_wire_rising_1 (a0 : List (Vector UInt8 32)) (c1_0 : Int) (c1_1 : List (Vector UInt8 32)) : Option (Int × Int) :=
  orRet (iter (slices_IndexFunc_api_ID_api_ID_wire_rising_1_L0 a0 c1_1) (c1_0, 0)) fun s1 =>
  some ((-1), s1)
set_option maxRecDepth 100000 in
theorem slices_IndexFunc_api_ID_api_ID_wire_rising_1_ok (a0 : List (Vector UInt8 32)) (p1_0 : Value) (c1_0 : Int) (p1_1 : Value) (c1_1 : List (Vector UInt8 32)) : Spec Try.prog 139 [.rd (sliceR (arrR 32 u8R)) a0, .val (.func (.func 135) #[] #[ptrTo p1_0 0, ptrTo p1_1 0])] [(1, some (p1_0, .box 3 [.rd i64R c1_0])), (2, some (p1_1, .box 83 [.rd (sliceR (arrR 32 u8R)) c1_1]))] (slices_IndexFunc_api_ID_api_ID_wire_rising_1 a0 c1_0 c1_1) (fun r nv => ⟨[.rd i64R r.1], [(1, some (p1_0, .box 3 [.rd i64R r.2])), (2, some (p1_1, .box 83 [.rd (sliceR (arrR 32 u8R)) c1_1]))]⟩) := by
  refine spec 19 Try.func139 rfl rfl rfl fun H w => ?_
  refine gSeq <| gReg <| R rfl (asg rfl) <| gNil <| eThen <| gMidR (fun (s1 : Int) aa ww => Sta (ctx 19 H [(1, some (p1_0, .box 3 [.rd i64R c1_0])), (2, some (p1_1, .box 83 [.rd (sliceR (arrR 32 u8R)) c1_1]))] w) [] [(1, some (p1_0, .box 3 [.rd i64R s1])), (2, some (p1_1, .box 83 [.rd (sliceR (arrR 32 u8R)) c1_1]))] aa ww) ?_ (fun s1 => ?_)
  · skip
    refine gSeq <| gReg <| R rfl (mv rfl) <| R rfl (len' rfl .rd rfl Try.underlying83) <| R rfl (mv rfl) <| gNil <| eThen <| gLoop (fun (s2 : Int × Int) aa ww => Sta (ctx 19 H [(1, some (p1_0, .box 3 [.rd i64R c1_0])), (2, some (p1_1, .box 83 [.rd (sliceR (arrR 32 u8R)) c1_1]))] w) [(0, .rd (sliceR (arrR 32 u8R)) a0), (1, .val (.func (.func 135) #[] #[ptrTo p1_0 0, ptrTo p1_1 0])), (7, .rd i64R (a0.length : Int)), (8, .rd i64R s2.2)] [(1, some (p1_0, .box 3 [.rd i64R s2.1])), (2, some (p1_1, .box 83 [.rd (sliceR (arrR 32 u8R)) c1_1]))] aa ww) (fun aa ww h => h.sub [1, 2] (sS rfl <| sS rfl <| sS rfl <| sS rfl <| sN) (rR rfl rfl <| rR rfl rfl <| rN)) (fun s2 => ?_)
    refine gSeq <| gReg <| R rfl (I.lss rfl rfl) <| gNil <| eThen <| gSeq <| gIf rfl rfl (fun h3 => ?_) (fun h3 => ?_)
    · skip
      refine gSkip <| eThen <| gSeq <| gBlk <| gSeq <| gReg <| R rfl (mv rfl) <| R rfl (asg rfl) <| gNil <| eThen <| gSeq <| gReg <| R rfl (mv rfl) <| R rfl (mv rfl) <| R rfl (mv rfl) <| lBind fun x4 h5 => R rfl (ixR rfl rfl h5 Try.underlying83 ti102 rfl) <| R rfl (ldR rfl ty102) <| callv [1, 2] [(1, 1), (2, 2)] (gd0 rfl) rfl rfl Try.func135 rfl rfl (wire_rising_1_ok _ _ _ _ _) (aQ rfl <| aN) (cQ 1 rfl <| cQ 2 rfl <| cN) (rR rfl rfl <| rR rfl rfl <| rN) fun r6 n7 => gNil <| eThen <| gIf rfl rfl (fun h8 => ?_) (fun h8 => ?_)
      · skip
        refine gSeq <| gReg <| R rfl (mv rfl) <| R rfl (asg rfl) <| gNil <| eThen <| gRet <| eBret <| eTret <| eLret <| eMret <| eRet [] [1, 2] rfl (eE rfl <| eN) (rR rfl rfl <| rR rfl rfl <| rN)
      · skip
        refine gSkip <| eBlk <| eThen <| gReg <| R rfl (I.add rfl rfl) <| R rfl (mv rfl) <| gNil <| eNext (fun aa ww h => h.sub [1, 2] (sS rfl <| sS rfl <| sS rfl <| sS rfl <| sN) (rR rfl rfl <| rR rfl rfl <| rN))
    · skip
      refine gExit <| eTexit <| eLeave <| eMidR (fun aa ww h => h.sub [1, 2] (sN) (rR rfl rfl <| rR rfl rfl <| rN))
  · skip
    refine gSeq <| gReg <| R rfl (asg rfl) <| gNil <| eThen <| gRet <| eRet [] [1, 2] rfl (eE rfl <| eN) (rR rfl rfl <| rR rfl rfl <| rN)


def slices_ContainsFunc_api_ID_api_ID_wire_rising_1 (a0 : List (Vector UInt8 32)) (c1_0 : Int) (c1_1 : List (Vector UInt8 32)) : Option (Bool × Int) :=
  slices_IndexFunc_api_ID_api_ID_wire_rising_1 a0 c1_0 c1_1 >>= fun r1 =>
  some (decide (0 ≤ r1.1)) >>= fun y3 =>
  some (y3, r1.2)
set_option maxRecDepth 100000 in
theorem slices_ContainsFunc_api_ID_api_ID_wire_rising_1_ok (a0 : List (Vector UInt8 32)) (p1_0 : Value) (c1_0 : Int) (p1_1 : Value) (c1_1 : List (Vector UInt8 32)) : Spec Try.prog 134 [.rd (sliceR (arrR 32 u8R)) a0, .val (.func (.func 135) #[] #[ptrTo p1_0 0, ptrTo p1_1 0])] [(1, some (p1_0, .box 3 [.rd i64R c1_0])), (2, some (p1_1, .box 83 [.rd (sliceR (arrR 32 u8R)) c1_1]))] (slices_ContainsFunc_api_ID_api_ID_wire_rising_1 a0 c1_0 c1_1) (fun r nv => ⟨[.rd boolR r.1], [(1, some (p1_0, .box 3 [.rd i64R r.2])), (2, some (p1_1, .box 83 [.rd (sliceR (arrR 32 u8R)) c1_1]))]⟩) := by
  refine spec 9 Try.func134 rfl rfl rfl fun H w => ?_
  refine gSeq <| gReg <| R rfl (asg rfl) <| gNil <| eThen <| gSeq <| gReg <| R rfl (mv rfl) <| R rfl (mv rfl) <| call [1, 2] [(1, 1), (2, 2)] rfl Try.func139 rfl rfl (slices_IndexFunc_api_ID_api_ID_wire_rising_1_ok _ _ _ _ _) (aQ rfl <| aQ rfl <| aN) (rR rfl rfl <| rR rfl rfl <| rN) fun r1 n2 => R rfl (I.geq rfl rfl) <| R rfl (asg rfl) <| lName 4 rfl fun y3 => gNil <| eThen <| gRet <| eRet [] [1, 2] rfl (eE rfl <| eN) (rR rfl rfl <| rR rfl rfl <| rN)


def wire_rising (a0 : List (Vector UInt8 32)) : Option (Bool) :=
  slices_ContainsFunc_api_ID_api_ID_wire_rising_1 a0 0 a0 >>= fun r3 =>
  some (!r3.1)
set_option maxRecDepth 100000 in
theorem wire_rising_ok (a0 : List (Vector UInt8 32)) : Spec Try.prog 115 [.rd (sliceR (arrR 32 u8R)) a0] [] (wire_rising a0) (fun r nv => ⟨[.rd boolR r], []⟩) := by
  refine spec 8 Try.func115 rfl rfl rfl fun H w => ?_
  refine gSeq <| gReg <| Eb rfl (bx 1 rfl) fun v1 => R rfl (asg rfl) <| gNil <| eThen <| gSeq <| gReg <| Eb rfl (allc 2 ti3 (.zr (Zr.num rfl))) fun v2 => Es (sto 2 rfl rfl Foc.here rfl ti3) <| gNil <| eThen <| gSeq <| gReg <| R rfl (ld 1 rfl rfl Foc.here ty83 rfl) <| R rfl (mkf mp0 (mp2 rfl rfl)) <| call [2, 1] [(1, 2), (2, 1)] rfl Try.func134 rfl rfl (slices_ContainsFunc_api_ID_api_ID_wire_rising_1_ok _ _ _ _ _) (aQ rfl <| aQ rfl <| aN) (rR rfl rfl <| rR rfl rfl <| rN) fun r3 n4 => R rfl (not' rfl) <| R rfl (asg rfl) <| gNil <| eThen <| gRet <| eRet [] [] rfl (eE rfl <| eN) (rN)


def math_bits_Len64 (a0 : UInt64) : Option (Int) :=
  (if decide (4294967296 ≤ a0) then
    some (shr64 a0 32, 32)
  else
    some (a0, 0)) >>= fun s1 =>
  (if decide (65536 ≤ s1.1) then
    some (shr64 s1.1 16) >>= fun y5 =>
    some (w64 (s1.2 + 16)) >>= fun y6 =>
    some (y5, y6)
  else
    some (s1.1, s1.2)) >>= fun s3 =>
  (if decide (256 ≤ s3.1) then
    some (w64 (s3.2 + 8)) >>= fun y9 =>
    some (shr64 s3.1 8, y9)
  else
    some (s3.1, s3.2)) >>= fun s7 =>
  idx ([0, 1, 2, 2, 3, 3, 3, 3, 4, 4, 4, 4, 4, 4, 4, 4, 5, 5, 5, 5, 5, 5, 5, 5, 5, 5, 5, 5, 5, 5, 5, 5, 6, 6, 6, 6, 6, 6, 6, 6, 6, 6, 6, 6, 6, 6, 6, 6, 6, 6, 6, 6, 6, 6, 6, 6, 6, 6, 6, 6, 6, 6, 6, 6, 7, 7, 7, 7, 7, 7, 7, 7, 7, 7, 7, 7, 7, 7, 7, 7, 7, 7, 7, 7, 7, 7, 7, 7, 7, 7, 7, 7, 7, 7, 7, 7, 7, 7, 7, 7, 7, 7, 7, 7, 7, 7, 7, 7, 7, 7, 7, 7, 7, 7, 7, 7, 7, 7, 7, 7, 7, 7, 7, 7, 7, 7, 7, 7, 8, 8, 8, 8, 8, 8, 8, 8, 8, 8, 8, 8, 8, 8, 8, 8, 8, 8, 8, 8, 8, 8, 8, 8, 8, 8, 8, 8, 8, 8, 8, 8, 8, 8, 8, 8, 8, 8, 8, 8, 8, 8, 8, 8, 8, 8, 8, 8, 8, 8, 8, 8, 8, 8, 8, 8, 8, 8, 8, 8, 8, 8, 8, 8, 8, 8, 8, 8, 8, 8, 8, 8, 8, 8, 8, 8, 8, 8, 8, 8, 8, 8, 8, 8, 8, 8, 8, 8, 8, 8, 8, 8, 8, 8, 8, 8, 8, 8, 8, 8, 8, 8, 8, 8, 8, 8, 8, 8, 8, 8, 8, 8, 8, 8, 8, 8, 8, 8, 8, 8, 8, 8, 8, 8, 8, 8, 8, 8] : List UInt8) (s7.1.toUInt8.toNat : Int) >>= fun x10 =>
  some (w64 (s7.2 + (x10.toNat : Int))) >>= fun y12 =>
  some y12
set_option maxRecDepth 100000 in
theorem math_bits_Len64_ok (a0 : UInt64) : Spec Try.prog 100 [.rd u64R a0] [] (math_bits_Len64 a0) (fun r nv => ⟨[.rd i64R r], []⟩) := by
  refine spec 25 Try.func100 rfl rfl rfl fun H w => ?_
  refine gSeq <| gReg <| R rfl (asg rfl) <| gNil <| eThen <| gMid (fun (s1 : UInt64 × Int) aa ww => Sta (ctx 25 H [] w) [(0, .rd u64R s1.1), (2, .rd i64R s1.2)] [] aa ww) ?_ (fun s1 => ?_)
  · skip
    refine gSeq <| gReg <| R rfl (mv rfl) <| R rfl (U.geq rfl rfl) <| gNil <| eThen <| gIf rfl rfl (fun h2 => ?_) (fun h2 => ?_)
    · skip
      refine gSeq <| gReg <| R rfl (mv rfl) <| R rfl (U.shr rfl rfl (Int.natCast_nonneg _)) <| R rfl (asg rfl) <| gNil <| eThen <| gReg <| R rfl (asg rfl) <| gNil <| eMid (fun aa ww h => h.sub [] (sS rfl <| sS rfl <| sN) (rN))
    · skip
      refine gSkip <| eMid (fun aa ww h => h.sub [] (sS rfl <| sS rfl <| sN) (rN))
  · skip
    refine gMid (fun (s3 : UInt64 × Int) aa ww => Sta (ctx 25 H [] w) [(0, .rd u64R s3.1), (2, .rd i64R s3.2)] [] aa ww) ?_ (fun s3 => ?_)
    · skip
      refine gSeq <| gReg <| R rfl (mv rfl) <| R rfl (U.geq rfl rfl) <| gNil <| eThen <| gIf rfl rfl (fun h4 => ?_) (fun h4 => ?_)
      · skip
        refine gSeq <| gReg <| R rfl (mv rfl) <| R rfl (U.shr rfl rfl (Int.natCast_nonneg _)) <| R rfl (asg rfl) <| lName 0 rfl fun y5 => gNil <| eThen <| gReg <| R rfl (mv rfl) <| R rfl (I.add rfl rfl) <| R rfl (asg rfl) <| lName 2 rfl fun y6 => gNil <| eMid (fun aa ww h => h.sub [] (sS rfl <| sS rfl <| sN) (rN))
      · skip
        refine gSkip <| eMid (fun aa ww h => h.sub [] (sS rfl <| sS rfl <| sN) (rN))
    · skip
      refine gMid (fun (s7 : UInt64 × Int) aa ww => Sta (ctx 25 H [] w) [(0, .rd u64R s7.1), (2, .rd i64R s7.2)] [] aa ww) ?_ (fun s7 => ?_)
      · skip
        refine gSeq <| gReg <| R rfl (mv rfl) <| R rfl (U.geq rfl rfl) <| gNil <| eThen <| gIf rfl rfl (fun h8 => ?_) (fun h8 => ?_)
        · skip
          refine gSeq <| gReg <| R rfl (mv rfl) <| R rfl (U.shr rfl rfl (Int.natCast_nonneg _)) <| R rfl (asg rfl) <| gNil <| eThen <| gReg <| R rfl (mv rfl) <| R rfl (I.add rfl rfl) <| R rfl (asg rfl) <| lName 2 rfl fun y9 => gNil <| eMid (fun aa ww h => h.sub [] (sS rfl <| sS rfl <| sN) (rN))
        · skip
          refine gSkip <| eMid (fun aa ww h => h.sub [] (sS rfl <| sS rfl <| sN) (rN))
      · skip
        refine gSeq <| gReg <| R rfl (mv rfl) <| R rfl (mv rfl) <| R rfl (U.toB rfl Try.underlying31 Try.underlying5) <| lBind fun x10 h11 => R rfl (idxT rfl rfl Try.underlying9 (idx_some h11).1 (idx_some h11).2.1) <| R rfl (B.toI rfl Try.underlying5 Try.underlying3) <| R rfl (I.add rfl rfl) <| R rfl (asg rfl) <| lName 2 rfl fun y12 => gNil <| eThen <| gRet <| eRet [] [] rfl (eE rfl <| eN) (rN)

def wire_Number_L0 (a0 : UInt64) (y5 : Int) (s12 : (List UInt8) × Int) : Option (Sum ((List UInt8)) ((List UInt8) × Int)) :=
  if decide (s12.2 < y5) then
    chk (0 ≤ w64 (8 * s12.2)) >>= fun u14 =>
    idx s12.1 (w64 (y5 - s12.2)) >>= fun x16 =>
    some (.inr (s12.1.set (w64 (y5 - s12.2) : Int).toNat ((shr64 a0 ((w64 (8 * s12.2) : Int).toNat)).toUInt8), w64 (s12.2 + 1)))
  else
    some (.inl s12.1)
def wire_Number (a0 : UInt64) : Option ((List UInt8)) :=
  if decide (a0 ≤ 247) then
    some [a0.toUInt8]
  else
    math_bits_Len64 a0 >>= fun r3 =>
    some (w64 (Int.tdiv (w64 (r3 + 7)) 8)) >>= fun y5 =>
    mkn 1 0 (w64 (y5 + 1)) >>= fun x6 =>
    idx x6 0 >>= fun x9 =>
    (iter (wire_Number_L0 a0 y5) (x6.set (0 : Int).toNat (UInt8.ofInt (w64 (247 + y5))), 0)) >>= fun s11 =>
    some s11
set_option maxRecDepth 100000 in
theorem wire_Number_ok (a0 : UInt64) : Spec Try.prog 31 [.rd u64R a0] [] (wire_Number a0) (fun r nv => ⟨[.val (nv 0)], [(100, some (nv 0, .list u8R 5 r))]⟩) := by
  refine spec 39 Try.func31 rfl rfl rfl fun H w => ?_
  refine gSeq <| gReg <| R rfl (asg rfl) <| gNil <| eThen <| gSeq <| gSeq <| gReg <| R rfl (mv rfl) <| R rfl (U.leq rfl rfl) <| gNil <| eThen <| gIf rfl rfl (fun h1 => ?_) (fun h1 => ?_)
  · skip
    refine gSeq <| gReg <| R rfl (mv rfl) <| R rfl (U.toB rfl Try.underlying31 Try.underlying5) <| Ef rfl (lit (R := u8R) ([a0.toUInt8] : List UInt8) 1 (pP rfl rfl <| pN) rfl Try.underlying32 ti5 rfl rfl) fun v2 => R rfl (asg rfl) <| gNil <| eThen <| gRet <| eTret <| eRet [v2] [1] rfl (eE rfl <| eN) (rR rfl rfl <| rN)
  · skip
    refine gSkip <| eThen <| gSeq <| gReg <| R rfl (mv rfl) <| call [] [] rfl Try.func100 rfl rfl (math_bits_Len64_ok _) (aQ rfl <| aN) rN fun r3 n4 => R rfl (I.add rfl rfl) <| R rfl (I.quo rfl rfl (by decide)) <| R rfl (asg rfl) <| lName 3 rfl fun y5 => gNil <| eThen <| gSeq <| gReg <| R rfl (mv rfl) <| R rfl (I.add rfl rfl) <| lBind fun x6 h7 => Ef rfl (mks 2 rfl rfl h7 Try.underlying32 ti5 (Zr.num rfl) rfl) fun v8 => R rfl (asg rfl) <| gNil <| eThen <| gSeq <| gReg <| R rfl (mv rfl) <| R rfl (mv rfl) <| R rfl (I.add rfl rfl) <| R rfl (I.toB rfl Try.underlying3 Try.underlying5) <| lBind fun x9 h10 => R rfl (ixO 2 rfl rfl rfl h10 Try.underlying32 ti5) <| Es (sto 2 rfl rfl (Foc.el h10) rfl ti5) <| gNil <| eThen <| gMid (fun (s11 : (List UInt8)) aa ww => Sta (ctx 39 H [] w) [(4, .val v8)] [(2, some (v8, .list u8R 5 s11))] aa ww) ?_ (fun s11 => ?_)
    · skip
      refine gSeq <| gReg <| R rfl (mv rfl) <| R rfl (mv rfl) <| gNil <| eThen <| gLoop (fun (s12 : (List UInt8) × Int) aa ww => Sta (ctx 39 H [] w) [(0, .rd u64R a0), (3, .rd i64R y5), (4, .val v8), (23, .rd i64R y5), (24, .rd i64R s12.2)] [(2, some (v8, .list u8R 5 s12.1))] aa ww) (fun aa ww h => h.sub [2] (sS rfl <| sS rfl <| sS rfl <| sS rfl <| sS rfl <| sN) (rR rfl rfl <| rN)) (fun s12 => ?_)
      refine gSeq <| gReg <| R rfl (I.lss rfl rfl) <| gNil <| eThen <| gSeq <| gIf rfl rfl (fun h13 => ?_) (fun h13 => ?_)
      · skip
        refine gSkip <| eThen <| gSeq <| gBlk <| gSeq <| gReg <| R rfl (mv rfl) <| R rfl (asg rfl) <| gNil <| eThen <| gReg <| R rfl (mv rfl) <| R rfl (mv rfl) <| R rfl (mv rfl) <| R rfl (I.sub rfl rfl) <| R rfl (mv rfl) <| R rfl (mv rfl) <| R rfl (I.mul rfl rfl) <| lBind fun u14 h15 => R rfl (U.shr rfl rfl (chk_some h15)) <| R rfl (U.toB rfl Try.underlying31 Try.underlying5) <| lBind fun x16 h17 => R rfl (ixO 2 rfl rfl rfl h17 Try.underlying32 ti5) <| Es (sto 2 rfl rfl (Foc.el h17) rfl ti5) <| gNil <| eBlk <| eThen <| gReg <| R rfl (I.add rfl rfl) <| R rfl (mv rfl) <| gNil <| eNext (fun aa ww h => h.sub [2] (sS rfl <| sS rfl <| sS rfl <| sS rfl <| sS rfl <| sN) (rR rfl rfl <| rN))
      · skip
        refine gExit <| eTexit <| eLeave <| eMid (fun aa ww h => h.sub [2] (sS rfl <| sN) (rR rfl rfl <| rN))
    · skip
      refine gSeq <| gReg <| R rfl (mv rfl) <| R rfl (asg rfl) <| gNil <| eThen <| gRet <| eRet [v8] [2] rfl (eE rfl <| eN) (rR rfl rfl <| rN)

def wire_IDs_L0 (a0 : List (Vector UInt8 32)) (s8 : (List UInt8) × Int) : Option (Sum ((List UInt8)) ((List UInt8) × Int)) :=
  if decide (s8.2 < (a0.length : Int)) then
    idx a0 s8.2 >>= fun x11 =>
    app 1 s8.1 x11.toList >>= fun x14 =>
    some (.inr (x14, w64 (s8.2 + 1)))
  else
    some (.inl s8.1)
def wire_IDs (a0 : List (Vector UInt8 32)) : Option ((List UInt8) × Int) :=
  if decide (60 < (a0.length : Int)) then
    some ([], 4)
  else
    wire_rising a0 >>= fun r2 =>
    if !r2 then
      some ([], 32)
    else
      wire_Number (UInt64.ofInt (a0.length : Int)) >>= fun r5 =>
      (iter (wire_IDs_L0 a0) (r5, 0)) >>= fun s7 =>
      some (s7, 0)
set_option maxRecDepth 100000 in
theorem wire_IDs_ok (a0 : List (Vector UInt8 32)) : Spec Try.prog 59 [.rd (sliceR (arrR 32 u8R)) a0] [] (wire_IDs a0) (fun r nv => ⟨[.val (nv 0), .rd i64R r.2], [(100, some (nv 0, .list u8R 5 r.1))]⟩) := by
  refine spec 28 Try.func59 rfl rfl rfl fun H w => ?_
  refine gSeq <| gReg <| R rfl (asg rfl) <| R rfl (asg rfl) <| gNil <| eThen <| gSeq <| gSeq <| gReg <| R rfl (mv rfl) <| R rfl (len' rfl .rd rfl Try.underlying83) <| R rfl (I.gtr rfl rfl) <| gNil <| eThen <| gIf rfl rfl (fun h1 => ?_) (fun h1 => ?_)
  · skip
    refine gSeq <| gReg <| R rfl (asg rfl) <| R rfl (asg rfl) <| gNil <| eThen <| gRet <| eTret <| eNew u8R 5 1 <| eRet [(.slice none 0 0)] [1] rfl (eE rfl <| eE rfl <| eN) (rR rfl rfl <| rN)
  · skip
    refine gSkip <| eThen <| gSeq <| gSeq <| gReg <| R rfl (mv rfl) <| call [] [] rfl Try.func115 rfl rfl (wire_rising_ok _) (aQ rfl <| aN) rN fun r2 n3 => R rfl (not' rfl) <| gNil <| eThen <| gIf rfl rfl (fun h4 => ?_) (fun h4 => ?_)
    · skip
      refine gSeq <| gReg <| R rfl (asg rfl) <| R rfl (asg rfl) <| gNil <| eThen <| gRet <| eTret <| eNew u8R 5 2 <| eRet [(.slice none 0 0)] [2] rfl (eE rfl <| eE rfl <| eN) (rR rfl rfl <| rN)
    · skip
      refine gSkip <| eThen <| gSeq <| gReg <| R rfl (mv rfl) <| R rfl (len' rfl .rd rfl Try.underlying83) <| R rfl (I.toU rfl Try.underlying3 Try.underlying31) <| call [] [(100, 3)] rfl Try.func31 rfl rfl (wire_Number_ok _) (aQ rfl <| aN) rN fun r5 n6 => R rfl (asg rfl) <| gNil <| eThen <| gMid (fun (s7 : (List UInt8)) aa ww => ∃ nv : Nat → Value, Sta (ctx 28 H [] w) [(4, .val (nv 0))] [(3, some ((nv 0), .list u8R 5 s7))] aa ww) ?_ (fun s7 => ?_)
      · skip
        refine gSeq <| gReg <| R rfl (mv rfl) <| R rfl (len' rfl .rd rfl Try.underlying83) <| R rfl (mv rfl) <| gNil <| eThen <| gLoop (fun (s8 : (List UInt8) × Int) aa ww => ∃ nv : Nat → Value, Sta (ctx 28 H [] w) [(4, .val (nv 0)), (17, .rd (sliceR (arrR 32 u8R)) a0), (18, .rd i64R (a0.length : Int)), (19, .rd i64R s8.2)] [(3, some ((nv 0), .list u8R 5 s8.1))] aa ww) (fun aa ww h => ⟨nvl [(n6 0)], h.sub [3] (sS rfl <| sS rfl <| sS rfl <| sS rfl <| sN) (rR rfl rfl <| rN)⟩) (fun s8 => ?_)
        refine gEx fun n9 => gSeq <| gReg <| R rfl (I.lss rfl rfl) <| gNil <| eThen <| gSeq <| gIf rfl rfl (fun h10 => ?_) (fun h10 => ?_)
        · skip
          refine gSkip <| eThen <| gSeq <| gBlk <| gSeq <| gReg <| lBind fun x11 h12 => R rfl (ixR rfl rfl h12 Try.underlying83 ti102 rfl) <| R rfl (ldR rfl ty102) <| Eb rfl (allc 4 ti102 (.zr zr101)) fun v13 => Es (sto 4 rfl rfl Foc.here rfl ti102) <| gNil <| eThen <| gReg <| R rfl (mv rfl) <| lFrzB 4 6 rfl rfl <| R rfl (cutV rfl Try.underlying102 ti5 rfl rfl rfl) <| lBind fun x14 h15 => Ef rfl (apn 3 rfl rfl rfl .rd h15 Try.underlying32 ti5 rfl rfl rfl) fun v16 => R rfl (asg rfl) <| gNil <| eBlk <| eThen <| gReg <| R rfl (I.add rfl rfl) <| R rfl (mv rfl) <| gNil <| eNext (fun aa ww h => ⟨nvl [v16], h.sub [3] (sS rfl <| sS rfl <| sS rfl <| sS rfl <| sN) (rR rfl rfl <| rN)⟩)
        · skip
          refine gExit <| eTexit <| eLeave <| eMid (fun aa ww h => ⟨nvl [(n9 0)], h.sub [3] (sS rfl <| sN) (rR rfl rfl <| rN)⟩)
      · skip
        refine gEx fun n17 => gSeq <| gReg <| R rfl (mv rfl) <| R rfl (asg rfl) <| R rfl (asg rfl) <| gNil <| eThen <| gRet <| eRet [(n17 0)] [3] rfl (eE rfl <| eE rfl <| eN) (rR rfl rfl <| rN)


def wire_Bytes (a0 : List UInt8) : Option ((List UInt8) × Int) :=
  if decide (10000 < (a0.length : Int)) then
    some ([], 4)
  else
    wire_Number (UInt64.ofInt (a0.length : Int)) >>= fun r2 =>
    app 1 r2 a0 >>= fun x4 =>
    some (x4, 0)
set_option maxRecDepth 100000 in
theorem wire_Bytes_ok (a0 : List UInt8) : Spec Try.prog 47 [.rd (sliceR u8R) a0] [] (wire_Bytes a0) (fun r nv => ⟨[.val (nv 0), .rd i64R r.2], [(100, some (nv 0, .list u8R 5 r.1))]⟩) := by
  refine spec 13 Try.func47 rfl rfl rfl fun H w => ?_
  refine gSeq <| gReg <| R rfl (asg rfl) <| R rfl (asg rfl) <| gNil <| eThen <| gSeq <| gSeq <| gReg <| R rfl (mv rfl) <| R rfl (len' rfl .rd rfl Try.underlying32) <| R rfl (I.gtr rfl rfl) <| gNil <| eThen <| gIf rfl rfl (fun h1 => ?_) (fun h1 => ?_)
  · skip
    refine gSeq <| gReg <| R rfl (asg rfl) <| R rfl (asg rfl) <| gNil <| eThen <| gRet <| eTret <| eNew u8R 5 1 <| eRet [(.slice none 0 0)] [1] rfl (eE rfl <| eE rfl <| eN) (rR rfl rfl <| rN)
  · skip
    refine gSkip <| eThen <| gSeq <| gReg <| R rfl (mv rfl) <| R rfl (len' rfl .rd rfl Try.underlying32) <| R rfl (I.toU rfl Try.underlying3 Try.underlying31) <| call [] [(100, 2)] rfl Try.func31 rfl rfl (wire_Number_ok _) (aQ rfl <| aN) rN fun r2 n3 => R rfl (mv rfl) <| lBind fun x4 h5 => Ef rfl (apn 2 rfl rfl rfl .rd h5 Try.underlying32 ti5 rfl rfl rfl) fun v6 => R rfl (asg rfl) <| R rfl (asg rfl) <| gNil <| eThen <| gRet <| eRet [v6] [2] rfl (eE rfl <| eE rfl <| eN) (rR rfl rfl <| rN)

def frame_write_L1 (a0 : api_Frame) (s29 : (List UInt8) × Bool × Int) : Option (Sum ((List UInt8) × Bool) ((List UInt8) × Bool × Int)) :=
  if s29.2.1 then
    if decide (s29.2.2 < (a0.Ops.length : Int)) then
      idx a0.Ops s29.2.2 >>= fun x33 =>
      wire_Bytes x33 >>= fun r35 =>
      app 1 s29.1 r35.1 >>= fun x37 =>
      idx a0.Ops s29.2.2 >>= fun x40 =>
      some (decide ((x40.length : Int) ≤ 400)) >>= fun y42 =>
      some (w64 (s29.2.2 + 1)) >>= fun y43 =>
      some (.inr (x37, y42, y43))
    else
      some (.inl (s29.1, true))
  else
    some (.inl (s29.1, false))
def frame_write (a0 : api_Frame) : Option ((List UInt8) × Bool) :=
  (frame_listed a0.Kind >>= fun r4 =>
  if r4 then
    (if a0.N == 0 then
      if (a0.Ops.length : Int) == 0 then
        if decide ((a0.IDs.length : Int) ≤ 40) then
          frame_rising a0.IDs >>= fun r11 =>
          some r11
        else
          some false
      else
        some false
    else
      some false) >>= fun s7 =>
    if s7 then
      wire_IDs a0.IDs >>= fun r14 =>
      app 1 [a0.Kind] r14.1 >>= fun x16 =>
      some (x16, true)
    else
      some ([a0.Kind], false)
  else
    if a0.Kind == 5 then
      (if a0.N == 0 then
        if (a0.IDs.length : Int) == 0 then
          some (decide ((a0.Ops.length : Int) ≤ 8)) >>= fun y23 =>
          some y23
        else
          some false
      else
        some false) >>= fun s20 =>
      wire_Number (UInt64.ofInt (a0.Ops.length : Int)) >>= fun r24 =>
      app 1 [a0.Kind] r24 >>= fun x26 =>
      iter (frame_write_L1 a0) (x26, s20, 0)
    else
      (if a0.Kind == 1 then
        some true
      else
        some (a0.Kind == 6)) >>= fun s44 =>
      if s44 then
        (if (a0.IDs.length : Int) == 0 then
          some ((a0.Ops.length : Int) == 0) >>= fun y49 =>
          some y49
        else
          some false) >>= fun s47 =>
        wire_Number a0.N >>= fun r50 =>
        app 1 [a0.Kind] r50 >>= fun x52 =>
        some (x52, s47)
      else
        some ([a0.Kind], false)) >>= fun s3 =>
  if s3.2 then
    some (decide ((s3.1.length : Int) ≤ 2000)) >>= fun y57 =>
    some (s3.1, y57)
  else
    some (s3.1, false)
set_option maxRecDepth 100000 in
theorem frame_write_ok (a0 : api_Frame) : Spec Try.prog 119 [.rd R_api_Frame a0] [] (frame_write a0) (fun r nv => ⟨[.val (nv 0), .rd boolR r.2], [(100, some (nv 0, .list u8R 5 r.1))]⟩) := by
  refine spec 132 Try.func119 rfl rfl rfl fun H w => ?_
  refine gSeq <| gReg <| Eb rfl (bx 1 rfl) fun v1 => R rfl (asg rfl) <| R rfl (asg rfl) <| gNil <| eThen <| gSeq <| gReg <| R rfl (faB 1 rfl rfl Try.underlying105 rfl (by exact ti5)) <| R rfl (ld 1 rfl rfl ((Foc.here).part (pt_api_Frame_Kind _)) ty5 rfl) <| Ef rfl (lit (R := u8R) ([a0.Kind] : List UInt8) 2 (pP rfl rfl <| pN) rfl Try.underlying32 ti5 rfl rfl) fun v2 => R rfl (asg rfl) <| gNil <| eThen <| gSeq <| gReg <| R rfl (asg rfl) <| gNil <| eThen <| gMid (fun (s3 : (List UInt8) × Bool) aa ww => ∃ nv : Nat → Value, Sta (ctx 132 H [] w) [(4, .val (nv 0)), (5, .rd boolR s3.2)] [(2, some ((nv 0), .list u8R 5 s3.1))] aa ww) ?_ (fun s3 => ?_)
  · skip
    refine gBlk <| gSeq <| gReg <| R rfl (faB 1 rfl rfl Try.underlying105 rfl (by exact ti5)) <| R rfl (ld 1 rfl rfl ((Foc.here).part (pt_api_Frame_Kind _)) ty5 rfl) <| call [] [] rfl Try.func121 rfl rfl (frame_listed_ok _) (aQ rfl <| aN) rN fun r4 n5 => R rfl (asg rfl) <| gNil <| eThen <| gIf rfl rfl (fun h6 => ?_) (fun h6 => ?_)
    · skip
      refine gKn 17 rfl h6 <| gMid (fun (s7 : Bool) aa ww => Sta (ctx 132 H [] w) [(1, .val (ptrTo v1 0)), (4, .val v2), (5, .rd boolR s7)] [(1, some (v1, .box 105 [.rd R_api_Frame a0])), (2, some (v2, .list u8R 5 [a0.Kind]))] aa ww) ?_ (fun s7 => ?_)
      · skip
        refine gReg <| R rfl (faB 1 rfl rfl Try.underlying105 rfl (by exact ti31)) <| R rfl (ld 1 rfl rfl ((Foc.here).part (pt_api_Frame_N _)) ty31 rfl) <| R rfl (U.eql rfl rfl) <| R rfl (mv rfl) <| lSplit 21 rfl (fun h8 => ?_) (fun h8 => ?_)
        · skip
          refine lKn 20 rfl h8 <| lRun (gd rfl rfl rfl rfl) rfl rfl (faB 1 rfl rfl Try.underlying105 rfl (by exact ti103)) <| lRun (gd rfl rfl rfl rfl) rfl rfl (ld 1 rfl rfl ((Foc.here).part (pt_api_Frame_Ops _)) ty103 rfl) <| lRun (gd rfl rfl rfl rfl) rfl rfl (len' rfl .rd rfl Try.underlying103) <| lRun (gd rfl rfl rfl rfl) rfl rfl (I.eql rfl rfl) <| R rfl (pkT rfl rfl) <| R rfl (mv rfl) <| lSplit 27 rfl (fun h9 => ?_) (fun h9 => ?_)
          · skip
            refine lKn 25 rfl h9 <| lKn 26 rfl h9 <| lRun (gd rfl rfl rfl rfl) rfl rfl (faB 1 rfl rfl Try.underlying105 rfl (by exact ti83)) <| lRun (gd rfl rfl rfl rfl) rfl rfl (ld 1 rfl rfl ((Foc.here).part (pt_api_Frame_IDs _)) ty83 rfl) <| lRun (gd rfl rfl rfl rfl) rfl rfl (len' rfl .rd rfl Try.underlying83) <| lRun (gd rfl rfl rfl rfl) rfl rfl (I.leq rfl rfl) <| R rfl (pkT rfl rfl) <| R rfl (mv rfl) <| lSplit 33 rfl (fun h10 => ?_) (fun h10 => ?_)
            · skip
              refine lKn 31 rfl h10 <| lKn 32 rfl h10 <| lRun (gd rfl rfl rfl rfl) rfl rfl (faB 1 rfl rfl Try.underlying105 rfl (by exact ti83)) <| lRun (gd rfl rfl rfl rfl) rfl rfl (ld 1 rfl rfl ((Foc.here).part (pt_api_Frame_IDs _)) ty83 rfl) <| callg [] [] (gd rfl rfl rfl rfl) rfl Try.func122 rfl rfl (frame_rising_ok _) (aQ rfl <| aN) rN fun r11 n12 => R rfl (pkT rfl rfl) <| R rfl (asg rfl) <| gNil <| eMid (fun aa ww h => h.sub [1, 2] (sS rfl <| sS rfl <| sS rfl <| sN) (rR rfl rfl <| rR rfl rfl <| rN))
            · skip
              refine lKn 31 rfl h10 <| lKn 32 rfl h10 <| lSkip (gd rfl rfl rfl rfl) rfl rfl <| lSkip (gd rfl rfl rfl rfl) rfl rfl <| lSkip (gd rfl rfl rfl rfl) rfl rfl <| R rfl (pkF rfl rfl) <| R rfl (asg rfl) <| gNil <| eMid (fun aa ww h => h.sub [1, 2] (sS rfl <| sS rfl <| sS rfl <| sN) (rR rfl rfl <| rR rfl rfl <| rN))
          · skip
            refine lKn 25 rfl h9 <| lKn 26 rfl h9 <| lSkip (gd rfl rfl rfl rfl) rfl rfl <| lSkip (gd rfl rfl rfl rfl) rfl rfl <| lSkip (gd rfl rfl rfl rfl) rfl rfl <| lSkip (gd rfl rfl rfl rfl) rfl rfl <| R rfl (pkF rfl rfl) <| R rfl (mv rfl) <| lSkip (gd rfl rfl rfl rfl) rfl rfl <| lSkip (gd rfl rfl rfl rfl) rfl rfl <| lSkip (gd rfl rfl rfl rfl) rfl rfl <| R rfl (pkF rfl rfl) <| R rfl (asg rfl) <| gNil <| eMid (fun aa ww h => h.sub [1, 2] (sS rfl <| sS rfl <| sS rfl <| sN) (rR rfl rfl <| rR rfl rfl <| rN))
        · skip
          refine lKn 20 rfl h8 <| lSkip (gd rfl rfl rfl rfl) rfl rfl <| lSkip (gd rfl rfl rfl rfl) rfl rfl <| lSkip (gd rfl rfl rfl rfl) rfl rfl <| lSkip (gd rfl rfl rfl rfl) rfl rfl <| R rfl (pkF rfl rfl) <| R rfl (mv rfl) <| lSkip (gd rfl rfl rfl rfl) rfl rfl <| lSkip (gd rfl rfl rfl rfl) rfl rfl <| lSkip (gd rfl rfl rfl rfl) rfl rfl <| lSkip (gd rfl rfl rfl rfl) rfl rfl <| R rfl (pkF rfl rfl) <| R rfl (mv rfl) <| lSkip (gd rfl rfl rfl rfl) rfl rfl <| lSkip (gd rfl rfl rfl rfl) rfl rfl <| lSkip (gd rfl rfl rfl rfl) rfl rfl <| R rfl (pkF rfl rfl) <| R rfl (asg rfl) <| gNil <| eMid (fun aa ww h => h.sub [1, 2] (sS rfl <| sS rfl <| sS rfl <| sN) (rR rfl rfl <| rR rfl rfl <| rN))
      · skip
        refine gSeq <| gReg <| R rfl (mv rfl) <| gNil <| eThen <| gIf rfl rfl (fun h13 => ?_) (fun h13 => ?_)
        · skip
          refine gKn 5 rfl h13 <| gSeq <| gReg <| R rfl (faB 1 rfl rfl Try.underlying105 rfl (by exact ti83)) <| R rfl (ld 1 rfl rfl ((Foc.here).part (pt_api_Frame_IDs _)) ty83 rfl) <| call [] [(100, 3)] rfl Try.func59 rfl rfl (wire_IDs_ok _) (aQ rfl <| aN) rN fun r14 n15 => R rfl (mv rfl) <| R rfl (ext rfl rfl) <| R rfl (ext rfl rfl) <| R rfl (asg rfl) <| R rfl (asg rfl) <| gNil <| eThen <| gReg <| R rfl (mv rfl) <| R rfl (mv rfl) <| lBind fun x16 h17 => Ef rfl (apn 2 rfl rfl rfl (.own 3 rfl) h17 Try.underlying32 ti5 rfl rfl rfl) fun v18 => R rfl (asg rfl) <| gNil <| eBlk <| eMid (fun aa ww h => ⟨nvl [v18], h.sub [2] (sS rfl <| sS rfl <| sN) (rR rfl rfl <| rN)⟩)
        · skip
          refine gKn 5 rfl h13 <| gSkip <| eBlk <| eMid (fun aa ww h => ⟨nvl [v2], h.sub [2] (sS rfl <| sS rfl <| sN) (rR rfl rfl <| rN)⟩)
    · skip
      refine gKn 17 rfl h6 <| gSeq <| gReg <| R rfl (faB 1 rfl rfl Try.underlying105 rfl (by exact ti5)) <| R rfl (ld 1 rfl rfl ((Foc.here).part (pt_api_Frame_Kind _)) ty5 rfl) <| R rfl (B.eql rfl rfl) <| R rfl (asg rfl) <| gNil <| eThen <| gIf rfl rfl (fun h19 => ?_) (fun h19 => ?_)
      · skip
        refine gKn 51 rfl h19 <| gMid (fun (s20 : Bool) aa ww => Sta (ctx 132 H [] w) [(1, .val (ptrTo v1 0)), (4, .val v2), (5, .rd boolR s20)] [(1, some (v1, .box 105 [.rd R_api_Frame a0])), (2, some (v2, .list u8R 5 [a0.Kind]))] aa ww) ?_ (fun s20 => ?_)
        · skip
          refine gReg <| R rfl (faB 1 rfl rfl Try.underlying105 rfl (by exact ti31)) <| R rfl (ld 1 rfl rfl ((Foc.here).part (pt_api_Frame_N _)) ty31 rfl) <| R rfl (U.eql rfl rfl) <| R rfl (mv rfl) <| lSplit 55 rfl (fun h21 => ?_) (fun h21 => ?_)
          · skip
            refine lKn 54 rfl h21 <| lRun (gd rfl rfl rfl rfl) rfl rfl (faB 1 rfl rfl Try.underlying105 rfl (by exact ti83)) <| lRun (gd rfl rfl rfl rfl) rfl rfl (ld 1 rfl rfl ((Foc.here).part (pt_api_Frame_IDs _)) ty83 rfl) <| lRun (gd rfl rfl rfl rfl) rfl rfl (len' rfl .rd rfl Try.underlying83) <| lRun (gd rfl rfl rfl rfl) rfl rfl (I.eql rfl rfl) <| R rfl (pkT rfl rfl) <| R rfl (mv rfl) <| lSplit 61 rfl (fun h22 => ?_) (fun h22 => ?_)
            · skip
              refine lKn 59 rfl h22 <| lKn 60 rfl h22 <| lRun (gd rfl rfl rfl rfl) rfl rfl (faB 1 rfl rfl Try.underlying105 rfl (by exact ti103)) <| lRun (gd rfl rfl rfl rfl) rfl rfl (ld 1 rfl rfl ((Foc.here).part (pt_api_Frame_Ops _)) ty103 rfl) <| lRun (gd rfl rfl rfl rfl) rfl rfl (len' rfl .rd rfl Try.underlying103) <| lRun (gd rfl rfl rfl rfl) rfl rfl (I.leq rfl rfl) <| R rfl (pkT rfl rfl) <| R rfl (asg rfl) <| lName 5 rfl fun y23 => gNil <| eMid (fun aa ww h => h.sub [1, 2] (sS rfl <| sS rfl <| sS rfl <| sN) (rR rfl rfl <| rR rfl rfl <| rN))
            · skip
              refine lKn 59 rfl h22 <| lKn 60 rfl h22 <| lSkip (gd rfl rfl rfl rfl) rfl rfl <| lSkip (gd rfl rfl rfl rfl) rfl rfl <| lSkip (gd rfl rfl rfl rfl) rfl rfl <| lSkip (gd rfl rfl rfl rfl) rfl rfl <| R rfl (pkF rfl rfl) <| R rfl (asg rfl) <| gNil <| eMid (fun aa ww h => h.sub [1, 2] (sS rfl <| sS rfl <| sS rfl <| sN) (rR rfl rfl <| rR rfl rfl <| rN))
          · skip
            refine lKn 54 rfl h21 <| lSkip (gd rfl rfl rfl rfl) rfl rfl <| lSkip (gd rfl rfl rfl rfl) rfl rfl <| lSkip (gd rfl rfl rfl rfl) rfl rfl <| lSkip (gd rfl rfl rfl rfl) rfl rfl <| R rfl (pkF rfl rfl) <| R rfl (mv rfl) <| lSkip (gd rfl rfl rfl rfl) rfl rfl <| lSkip (gd rfl rfl rfl rfl) rfl rfl <| lSkip (gd rfl rfl rfl rfl) rfl rfl <| lSkip (gd rfl rfl rfl rfl) rfl rfl <| R rfl (pkF rfl rfl) <| R rfl (asg rfl) <| gNil <| eMid (fun aa ww h => h.sub [1, 2] (sS rfl <| sS rfl <| sS rfl <| sN) (rR rfl rfl <| rR rfl rfl <| rN))
        · skip
          refine gSeq <| gReg <| R rfl (mv rfl) <| R rfl (faB 1 rfl rfl Try.underlying105 rfl (by exact ti103)) <| R rfl (ld 1 rfl rfl ((Foc.here).part (pt_api_Frame_Ops _)) ty103 rfl) <| R rfl (len' rfl .rd rfl Try.underlying103) <| R rfl (I.toU rfl Try.underlying3 Try.underlying31) <| call [] [(100, 4)] rfl Try.func31 rfl rfl (wire_Number_ok _) (aQ rfl <| aN) rN fun r24 n25 => lBind fun x26 h27 => Ef rfl (apn 2 rfl rfl rfl (.own 4 rfl) h27 Try.underlying32 ti5 rfl rfl rfl) fun v28 => R rfl (asg rfl) <| gNil <| eThen <| gSeq <| gReg <| R rfl (asg rfl) <| gNil <| eThen <| gLoop (fun (s29 : (List UInt8) × Bool × Int) aa ww => ∃ nv : Nat → Value, Sta (ctx 132 H [] w) [(1, .val (ptrTo v1 0)), (4, .val (nv 0)), (5, .rd boolR s29.2.1), (8, .rd i64R s29.2.2)] [(1, some (v1, .box 105 [.rd R_api_Frame a0])), (2, some ((nv 0), .list u8R 5 s29.1))] aa ww) (fun aa ww h => ⟨nvl [v28], h.sub [1, 2] (sS rfl <| sS rfl <| sS rfl <| sS rfl <| sN) (rR rfl rfl <| rR rfl rfl <| rN)⟩) (fun s29 => ?_)
          refine gEx fun n30 => gSeq <| gSeq <| gReg <| R rfl (mv rfl) <| R rfl (mv rfl) <| lSplit 75 rfl (fun h31 => ?_) (fun h31 => ?_)
          · skip
            refine lKn 5 rfl h31 <| lKn 74 rfl h31 <| lRun (gd rfl rfl rfl rfl) rfl rfl (mv rfl) <| lRun (gd rfl rfl rfl rfl) rfl rfl (faB 1 rfl rfl Try.underlying105 rfl (by exact ti103)) <| lRun (gd rfl rfl rfl rfl) rfl rfl (ld 1 rfl rfl ((Foc.here).part (pt_api_Frame_Ops _)) ty103 rfl) <| lRun (gd rfl rfl rfl rfl) rfl rfl (len' rfl .rd rfl Try.underlying103) <| lRun (gd rfl rfl rfl rfl) rfl rfl (I.lss rfl rfl) <| R rfl (pkT rfl rfl) <| gNil <| eThen <| gIf rfl rfl (fun h32 => ?_) (fun h32 => ?_)
            · skip
              refine gKn 80 rfl h32 <| gSkip <| eThen <| gSeq <| gBlk <| gSeq <| gReg <| R rfl (faB 1 rfl rfl Try.underlying105 rfl (by exact ti103)) <| R rfl (ld 1 rfl rfl ((Foc.here).part (pt_api_Frame_Ops _)) ty103 rfl) <| R rfl (mv rfl) <| lBind fun x33 h34 => R rfl (ixR rfl rfl h34 Try.underlying103 ti32 rfl) <| R rfl (ldR rfl ty32) <| call [] [(100, 5)] rfl Try.func47 rfl rfl (wire_Bytes_ok _) (aQ rfl <| aN) rN fun r35 n36 => R rfl (mv rfl) <| R rfl (ext rfl rfl) <| R rfl (ext rfl rfl) <| R rfl (asg rfl) <| R rfl (asg rfl) <| gNil <| eThen <| gSeq <| gReg <| R rfl (mv rfl) <| R rfl (mv rfl) <| lBind fun x37 h38 => Ef rfl (apn 2 rfl rfl rfl (.own 5 rfl) h38 Try.underlying32 ti5 rfl rfl rfl) fun v39 => R rfl (asg rfl) <| gNil <| eThen <| gReg <| R rfl (faB 1 rfl rfl Try.underlying105 rfl (by exact ti103)) <| R rfl (ld 1 rfl rfl ((Foc.here).part (pt_api_Frame_Ops _)) ty103 rfl) <| R rfl (mv rfl) <| lBind fun x40 h41 => R rfl (ixR rfl rfl h41 Try.underlying103 ti32 rfl) <| R rfl (ldR rfl ty32) <| R rfl (len' rfl .rd rfl Try.underlying32) <| R rfl (I.leq rfl rfl) <| R rfl (asg rfl) <| lName 5 rfl fun y42 => gNil <| eBlk <| eThen <| gReg <| R rfl (mv rfl) <| R rfl (I.add rfl rfl) <| R rfl (asg rfl) <| lName 8 rfl fun y43 => gNil <| eNext (fun aa ww h => ⟨nvl [v39], h.sub [1, 2] (sS rfl <| sS rfl <| sS rfl <| sS rfl <| sN) (rR rfl rfl <| rR rfl rfl <| rN)⟩)
            · skip
              refine gKn 80 rfl h32 <| gExit <| eTexit <| eLeave <| eBlk <| eMid (fun aa ww h => ⟨nvl [(n30 0)], h.sub [2] (sS rfl <| sS rfl <| sN) (rR rfl rfl <| rN)⟩)
          · skip
            refine lKn 5 rfl h31 <| lKn 74 rfl h31 <| lSkip (gd rfl rfl rfl rfl) rfl rfl <| lSkip (gd rfl rfl rfl rfl) rfl rfl <| lSkip (gd rfl rfl rfl rfl) rfl rfl <| lSkip (gd rfl rfl rfl rfl) rfl rfl <| lSkip (gd rfl rfl rfl rfl) rfl rfl <| R rfl (pkF rfl rfl) <| gNil <| eThen <| gFalse rfl <| gExit <| eTexit <| eLeave <| eBlk <| eMid (fun aa ww h => ⟨nvl [(n30 0)], h.sub [2] (sS rfl <| sS rfl <| sN) (rR rfl rfl <| rN)⟩)
      · skip
        refine gKn 51 rfl h19 <| gMid (fun (s44 : Bool) aa ww => Sta (ctx 132 H [] w) [(1, .val (ptrTo v1 0)), (4, .val v2), (5, .rd boolR false), (103, .rd boolR s44)] [(1, some (v1, .box 105 [.rd R_api_Frame a0])), (2, some (v2, .list u8R 5 [a0.Kind]))] aa ww) ?_ (fun s44 => ?_)
        · skip
          refine gSeq <| gReg <| R rfl (faB 1 rfl rfl Try.underlying105 rfl (by exact ti5)) <| R rfl (ld 1 rfl rfl ((Foc.here).part (pt_api_Frame_Kind _)) ty5 rfl) <| R rfl (B.eql rfl rfl) <| R rfl (asg rfl) <| gNil <| eThen <| gIf rfl rfl (fun h45 => ?_) (fun h45 => ?_)
          · skip
            refine gKn 106 rfl h45 <| gSkip <| eMid (fun aa ww h => h.sub [1, 2] (sS rfl <| sS rfl <| sS rfl <| sS rfl <| sN) (rR rfl rfl <| rR rfl rfl <| rN))
          · skip
            refine gKn 106 rfl h45 <| gReg <| R rfl (faB 1 rfl rfl Try.underlying105 rfl (by exact ti5)) <| R rfl (ld 1 rfl rfl ((Foc.here).part (pt_api_Frame_Kind _)) ty5 rfl) <| R rfl (B.eql rfl rfl) <| R rfl (asg rfl) <| gNil <| eMid (fun aa ww h => h.sub [1, 2] (sS rfl <| sS rfl <| sS rfl <| sS rfl <| sN) (rR rfl rfl <| rR rfl rfl <| rN))
        · skip
          refine gIf rfl rfl (fun h46 => ?_) (fun h46 => ?_)
          · skip
            refine gMid (fun (s47 : Bool) aa ww => Sta (ctx 132 H [] w) [(1, .val (ptrTo v1 0)), (4, .val v2), (5, .rd boolR s47)] [(1, some (v1, .box 105 [.rd R_api_Frame a0])), (2, some (v2, .list u8R 5 [a0.Kind]))] aa ww) ?_ (fun s47 => ?_)
            · skip
              refine gReg <| R rfl (faB 1 rfl rfl Try.underlying105 rfl (by exact ti83)) <| R rfl (ld 1 rfl rfl ((Foc.here).part (pt_api_Frame_IDs _)) ty83 rfl) <| R rfl (len' rfl .rd rfl Try.underlying83) <| R rfl (I.eql rfl rfl) <| R rfl (mv rfl) <| lSplit 114 rfl (fun h48 => ?_) (fun h48 => ?_)
              · skip
                refine lKn 113 rfl h48 <| lRun (gd rfl rfl rfl rfl) rfl rfl (faB 1 rfl rfl Try.underlying105 rfl (by exact ti103)) <| lRun (gd rfl rfl rfl rfl) rfl rfl (ld 1 rfl rfl ((Foc.here).part (pt_api_Frame_Ops _)) ty103 rfl) <| lRun (gd rfl rfl rfl rfl) rfl rfl (len' rfl .rd rfl Try.underlying103) <| lRun (gd rfl rfl rfl rfl) rfl rfl (I.eql rfl rfl) <| R rfl (pkT rfl rfl) <| R rfl (asg rfl) <| lName 5 rfl fun y49 => gNil <| eMid (fun aa ww h => h.sub [1, 2] (sS rfl <| sS rfl <| sS rfl <| sN) (rR rfl rfl <| rR rfl rfl <| rN))
              · skip
                refine lKn 113 rfl h48 <| lSkip (gd rfl rfl rfl rfl) rfl rfl <| lSkip (gd rfl rfl rfl rfl) rfl rfl <| lSkip (gd rfl rfl rfl rfl) rfl rfl <| lSkip (gd rfl rfl rfl rfl) rfl rfl <| R rfl (pkF rfl rfl) <| R rfl (asg rfl) <| gNil <| eMid (fun aa ww h => h.sub [1, 2] (sS rfl <| sS rfl <| sS rfl <| sN) (rR rfl rfl <| rR rfl rfl <| rN))
            · skip
              refine gReg <| R rfl (mv rfl) <| R rfl (faB 1 rfl rfl Try.underlying105 rfl (by exact ti31)) <| R rfl (ld 1 rfl rfl ((Foc.here).part (pt_api_Frame_N _)) ty31 rfl) <| call [] [(100, 6)] rfl Try.func31 rfl rfl (wire_Number_ok _) (aQ rfl <| aN) rN fun r50 n51 => lBind fun x52 h53 => Ef rfl (apn 2 rfl rfl rfl (.own 6 rfl) h53 Try.underlying32 ti5 rfl rfl rfl) fun v54 => R rfl (asg rfl) <| gNil <| eBlk <| eMid (fun aa ww h => ⟨nvl [v54], h.sub [2] (sS rfl <| sS rfl <| sN) (rR rfl rfl <| rN)⟩)
          · skip
            refine gSkip <| eBlk <| eMid (fun aa ww h => ⟨nvl [v2], h.sub [2] (sS rfl <| sS rfl <| sN) (rR rfl rfl <| rN)⟩)
  · skip
    refine gEx fun n55 => gSeq <| gReg <| R rfl (mv rfl) <| R rfl (mv rfl) <| R rfl (mv rfl) <| lSplit 127 rfl (fun h56 => ?_) (fun h56 => ?_)
    · skip
      refine lKn 5 rfl h56 <| lKn 126 rfl h56 <| lRun (gd rfl rfl rfl rfl) rfl rfl (mv rfl) <| lRun (gd rfl rfl rfl rfl) rfl rfl (len' rfl (.own 2 rfl) rfl Try.underlying32) <| lRun (gd rfl rfl rfl rfl) rfl rfl (I.leq rfl rfl) <| R rfl (pkT rfl rfl) <| R rfl (asg rfl) <| R rfl (asg rfl) <| lName 3 rfl fun y57 => gNil <| eThen <| gRet <| eRet [(n55 0)] [2] rfl (eE rfl <| eE rfl <| eN) (rR rfl rfl <| rN)
    · skip
      refine lKn 5 rfl h56 <| lKn 126 rfl h56 <| lSkip (gd rfl rfl rfl rfl) rfl rfl <| lSkip (gd rfl rfl rfl rfl) rfl rfl <| lSkip (gd rfl rfl rfl rfl) rfl rfl <| R rfl (pkF rfl rfl) <| R rfl (asg rfl) <| R rfl (asg rfl) <| gNil <| eThen <| gRet <| eRet [(n55 0)] [2] rfl (eE rfl <| eE rfl <| eN) (rR rfl rfl <| rN)


def frame_Check (a0 : api_Frame) : Option (Int) :=
  frame_write a0 >>= fun r2 =>
  if !r2.2 then
    some 8
  else
    some 0
set_option maxRecDepth 100000 in
theorem frame_Check_ok (a0 : api_Frame) : Spec Try.prog 76 [.rd R_api_Frame a0] [] (frame_Check a0) (fun r nv => ⟨[.rd i64R r], []⟩) := by
  refine spec 12 Try.func76 rfl rfl rfl fun H w => ?_
  refine gSeq <| gReg <| Eb rfl (bx 1 rfl) fun v1 => R rfl (asg rfl) <| gNil <| eThen <| gSeq <| gSeq <| gReg <| R rfl (ld 1 rfl rfl Foc.here ty105 rfl) <| call [] [(100, 2)] rfl Try.func119 rfl rfl (frame_write_ok _) (aQ rfl <| aN) rN fun r2 n3 => R rfl (mv rfl) <| R rfl (ext rfl rfl) <| R rfl (ext rfl rfl) <| R rfl (asg rfl) <| R rfl (asg rfl) <| gNil <| eThen <| gSeq <| gReg <| R rfl (mv rfl) <| R rfl (not' rfl) <| gNil <| eThen <| gIf rfl rfl (fun h4 => ?_) (fun h4 => ?_)
  · skip
    refine gSeq <| gReg <| R rfl (asg rfl) <| gNil <| eThen <| gRet <| eTret <| eRet [] [] rfl (eE rfl <| eN) (rN)
  · skip
    refine gSkip <| eThen <| gSeq <| gReg <| R rfl (asg rfl) <| gNil <| eThen <| gRet <| eRet [] [] rfl (eE rfl <| eN) (rN)


def session_over (a0 : api_Session) : Option (Bool) :=
  some (decide (4 ≤ a0.State)) >>= fun y2 =>
  some y2
set_option maxRecDepth 100000 in
theorem session_over_ok (a0 : api_Session) : Spec Try.prog 109 [.rd R_api_Session a0] [] (session_over a0) (fun r nv => ⟨[.rd boolR r], []⟩) := by
  refine spec 6 Try.func109 rfl rfl rfl fun H w => ?_
  refine gSeq <| gReg <| Eb rfl (bx 1 rfl) fun v1 => R rfl (asg rfl) <| gNil <| eThen <| gSeq <| gReg <| R rfl (faB 1 rfl rfl Try.underlying66 rfl (by exact ti5)) <| R rfl (ld 1 rfl rfl ((Foc.here).part (pt_api_Session_State _)) ty5 rfl) <| R rfl (B.geq rfl rfl) <| R rfl (asg rfl) <| lName 2 rfl fun y2 => gNil <| eThen <| gRet <| eRet [] [] rfl (eE rfl <| eN) (rN)


def session_rules  : Option ((List session_rule)) :=
  some [(⟨1, 1, 2, 1⟩ : session_rule), (⟨1, 6, 4, 6⟩ : session_rule), (⟨2, 2, 3, 3⟩ : session_rule), (⟨2, 6, 4, 6⟩ : session_rule), (⟨3, 2, 3, 3⟩ : session_rule), (⟨3, 3, 3, 4⟩ : session_rule), (⟨3, 4, 3, 3⟩ : session_rule), (⟨3, 5, 3, 5⟩ : session_rule), (⟨3, 6, 4, 6⟩ : session_rule)]
set_option maxRecDepth 100000 in
theorem session_rules_ok  : Spec Try.prog 131 [] [] (session_rules) (fun r nv => ⟨[.val (nv 0)], [(100, some (nv 0, .list R_session_rule 161 r))]⟩) := by
  refine spec 11 Try.func131 rfl rfl rfl fun H w => ?_
  refine gSeq <| gReg <| R rfl (asg rfl) <| gNil <| eThen <| gSeq <| gReg <| R rfl (bld (x' := (⟨1, 1, 2, 1⟩ : session_rule)) [(0, 1), (1, 1), (2, 1), (3, 1)] Try.underlying161 ti161 rfl zr161 rfl (Bld.cons (pt_session_rule_state _) rfl rfl <| Bld.cons (pt_session_rule_kind _) rfl rfl <| Bld.cons (pt_session_rule_next _) rfl rfl <| Bld.cons (pt_session_rule_do_ _) rfl rfl <| Bld.done rfl)) <| R rfl (bld (x' := (⟨1, 6, 4, 6⟩ : session_rule)) [(0, 1), (1, 1), (2, 1), (3, 1)] Try.underlying161 ti161 rfl zr161 rfl (Bld.cons (pt_session_rule_state _) rfl rfl <| Bld.cons (pt_session_rule_kind _) rfl rfl <| Bld.cons (pt_session_rule_next _) rfl rfl <| Bld.cons (pt_session_rule_do_ _) rfl rfl <| Bld.done rfl)) <| R rfl (bld (x' := (⟨2, 2, 3, 3⟩ : session_rule)) [(0, 1), (1, 1), (2, 1), (3, 1)] Try.underlying161 ti161 rfl zr161 rfl (Bld.cons (pt_session_rule_state _) rfl rfl <| Bld.cons (pt_session_rule_kind _) rfl rfl <| Bld.cons (pt_session_rule_next _) rfl rfl <| Bld.cons (pt_session_rule_do_ _) rfl rfl <| Bld.done rfl)) <| R rfl (bld (x' := (⟨2, 6, 4, 6⟩ : session_rule)) [(0, 1), (1, 1), (2, 1), (3, 1)] Try.underlying161 ti161 rfl zr161 rfl (Bld.cons (pt_session_rule_state _) rfl rfl <| Bld.cons (pt_session_rule_kind _) rfl rfl <| Bld.cons (pt_session_rule_next _) rfl rfl <| Bld.cons (pt_session_rule_do_ _) rfl rfl <| Bld.done rfl)) <| R rfl (bld (x' := (⟨3, 2, 3, 3⟩ : session_rule)) [(0, 1), (1, 1), (2, 1), (3, 1)] Try.underlying161 ti161 rfl zr161 rfl (Bld.cons (pt_session_rule_state _) rfl rfl <| Bld.cons (pt_session_rule_kind _) rfl rfl <| Bld.cons (pt_session_rule_next _) rfl rfl <| Bld.cons (pt_session_rule_do_ _) rfl rfl <| Bld.done rfl)) <| R rfl (bld (x' := (⟨3, 3, 3, 4⟩ : session_rule)) [(0, 1), (1, 1), (2, 1), (3, 1)] Try.underlying161 ti161 rfl zr161 rfl (Bld.cons (pt_session_rule_state _) rfl rfl <| Bld.cons (pt_session_rule_kind _) rfl rfl <| Bld.cons (pt_session_rule_next _) rfl rfl <| Bld.cons (pt_session_rule_do_ _) rfl rfl <| Bld.done rfl)) <| R rfl (bld (x' := (⟨3, 4, 3, 3⟩ : session_rule)) [(0, 1), (1, 1), (2, 1), (3, 1)] Try.underlying161 ti161 rfl zr161 rfl (Bld.cons (pt_session_rule_state _) rfl rfl <| Bld.cons (pt_session_rule_kind _) rfl rfl <| Bld.cons (pt_session_rule_next _) rfl rfl <| Bld.cons (pt_session_rule_do_ _) rfl rfl <| Bld.done rfl)) <| R rfl (bld (x' := (⟨3, 5, 3, 5⟩ : session_rule)) [(0, 1), (1, 1), (2, 1), (3, 1)] Try.underlying161 ti161 rfl zr161 rfl (Bld.cons (pt_session_rule_state _) rfl rfl <| Bld.cons (pt_session_rule_kind _) rfl rfl <| Bld.cons (pt_session_rule_next _) rfl rfl <| Bld.cons (pt_session_rule_do_ _) rfl rfl <| Bld.done rfl)) <| R rfl (bld (x' := (⟨3, 6, 4, 6⟩ : session_rule)) [(0, 1), (1, 1), (2, 1), (3, 1)] Try.underlying161 ti161 rfl zr161 rfl (Bld.cons (pt_session_rule_state _) rfl rfl <| Bld.cons (pt_session_rule_kind _) rfl rfl <| Bld.cons (pt_session_rule_next _) rfl rfl <| Bld.cons (pt_session_rule_do_ _) rfl rfl <| Bld.done rfl)) <| Ef rfl (lit (R := R_session_rule) ([(⟨1, 1, 2, 1⟩ : session_rule), (⟨1, 6, 4, 6⟩ : session_rule), (⟨2, 2, 3, 3⟩ : session_rule), (⟨2, 6, 4, 6⟩ : session_rule), (⟨3, 2, 3, 3⟩ : session_rule), (⟨3, 3, 3, 4⟩ : session_rule), (⟨3, 4, 3, 3⟩ : session_rule), (⟨3, 5, 3, 5⟩ : session_rule), (⟨3, 6, 4, 6⟩ : session_rule)] : List session_rule) 1 (pP rfl rfl <| pP rfl rfl <| pP rfl rfl <| pP rfl rfl <| pP rfl rfl <| pP rfl rfl <| pP rfl rfl <| pP rfl rfl <| pP rfl rfl <| pN) rfl Try.underlying180 ti161 rfl rfl) fun v1 => R rfl (asg rfl) <| gNil <| eThen <| gRet <| eRet [v1] [1] rfl (eE rfl <| eN) (rR rfl rfl <| rN)


def session_find_1 (a0 : session_rule) (c1_0 : UInt8) (c2_0 : UInt8) : Option (Bool) :=
  if a0.state == c1_0 then
    some (a0.kind == c2_0) >>= fun y3 =>
    some y3
  else
    some false
set_option maxRecDepth 100000 in
theorem session_find_1_ok (a0 : session_rule) (p1_0 : Value) (c1_0 : UInt8) (p2_0 : Value) (c2_0 : UInt8) : Spec Try.prog 133 [.rd R_session_rule a0, .val (ptrTo p1_0 0), .val (ptrTo p2_0 0)] [(1, some (p1_0, .box 5 [.rd u8R c1_0])), (2, some (p2_0, .box 5 [.rd u8R c2_0]))] (session_find_1 a0 c1_0 c2_0) (fun r nv => ⟨[.rd boolR r], [(1, some (p1_0, .box 5 [.rd u8R c1_0])), (2, some (p2_0, .box 5 [.rd u8R c2_0]))]⟩) := by
  refine spec 15 Try.func133 rfl rfl rfl fun H w => ?_
  refine gSeq <| gReg <| Eb rfl (bx 3 rfl) fun v1 => R rfl (asg rfl) <| gNil <| eThen <| gSeq <| gReg <| R rfl (faB 3 rfl rfl Try.underlying161 rfl (by exact ti5)) <| R rfl (ld 3 rfl rfl ((Foc.here).part (pt_session_rule_state _)) ty5 rfl) <| R rfl (ld 1 rfl rfl Foc.here ty5 rfl) <| R rfl (B.eql rfl rfl) <| R rfl (mv rfl) <| lSplit 9 rfl (fun h2 => ?_) (fun h2 => ?_)
  · skip
    refine lKn 8 rfl h2 <| lRun (gd rfl rfl rfl rfl) rfl rfl (faB 3 rfl rfl Try.underlying161 rfl (by exact ti5)) <| lRun (gd rfl rfl rfl rfl) rfl rfl (ld 3 rfl rfl ((Foc.here).part (pt_session_rule_kind _)) ty5 rfl) <| lRun (gd rfl rfl rfl rfl) rfl rfl (ld 2 rfl rfl Foc.here ty5 rfl) <| lRun (gd rfl rfl rfl rfl) rfl rfl (B.eql rfl rfl) <| R rfl (pkT rfl rfl) <| R rfl (asg rfl) <| lName 4 rfl fun y3 => gNil <| eThen <| gRet <| eRet [] [1, 2] rfl (eE rfl <| eN) (rR rfl rfl <| rR rfl rfl <| rN)
  · skip
    refine lKn 8 rfl h2 <| lSkip (gd rfl rfl rfl rfl) rfl rfl <| lSkip (gd rfl rfl rfl rfl) rfl rfl <| lSkip (gd rfl rfl rfl rfl) rfl rfl <| lSkip (gd rfl rfl rfl rfl) rfl rfl <| R rfl (pkF rfl rfl) <| R rfl (asg rfl) <| gNil <| eThen <| gRet <| eRet [] [1, 2] rfl (eE rfl <| eN) (rR rfl rfl <| rR rfl rfl <| rN)

def slices_IndexFunc_session_rule_session_rule_session_find_1_L0 (a0 : List session_rule) (c1_0 : UInt8) (c1_1 : UInt8) (s2 : Int) : Option (Sum (Sum Int Unit) Int) :=
  if decide (s2 < (a0.length : Int)) then
    idx a0 s2 >>= fun x4 =>
    session_find_1 x4 c1_0 c1_1 >>= fun r6 =>
    if r6 then
      some (.inl (.inl s2))
    else
      some (.inr (w64 (s2 + 1)))
  else
    some (.inl (.inr ()))
def slices_IndexFunc_session_rule_session_rule_session_find_1 (a0 : List session_rule) (c1_0 : UInt8) (c1_1 : UInt8) : Option (Int) :=
  orRet (iter (slices_IndexFunc_session_rule_session_rule_session_find_1_L0 a0 c1_0 c1_1) 0) fun s1 =>
  some (-1)
set_option maxRecDepth 100000 in
theorem slices_IndexFunc_session_rule_session_rule_session_find_1_ok (a0 : List session_rule) (p1_0 : Value) (c1_0 : UInt8) (p1_1 : Value) (c1_1 : UInt8) : Spec Try.prog 132 [.rd (sliceR R_session_rule) a0, .val (.func (.func 133) #[] #[ptrTo p1_0 0, ptrTo p1_1 0])] [(1, some (p1_0, .box 5 [.rd u8R c1_0])), (2, some (p1_1, .box 5 [.rd u8R c1_1]))] (slices_IndexFunc_session_rule_session_rule_session_find_1 a0 c1_0 c1_1) (fun r nv => ⟨[.rd i64R r], [(1, some (p1_0, .box 5 [.rd u8R c1_0])), (2, some (p1_1, .box 5 [.rd u8R c1_1]))]⟩) := by
  refine spec 19 Try.func132 rfl rfl rfl fun H w => ?_
  refine gSeq <| gReg <| R rfl (asg rfl) <| gNil <| eThen <| gMidR (fun (s1 : Unit) aa ww => Sta (ctx 19 H [(1, some (p1_0, .box 5 [.rd u8R c1_0])), (2, some (p1_1, .box 5 [.rd u8R c1_1]))] w) [] [(1, some (p1_0, .box 5 [.rd u8R c1_0])), (2, some (p1_1, .box 5 [.rd u8R c1_1]))] aa ww) ?_ (fun s1 => ?_)
  · skip
    refine gSeq <| gReg <| R rfl (mv rfl) <| R rfl (len' rfl .rd rfl Try.underlying180) <| R rfl (mv rfl) <| gNil <| eThen <| gLoop (fun (s2 : Int) aa ww => Sta (ctx 19 H [(1, some (p1_0, .box 5 [.rd u8R c1_0])), (2, some (p1_1, .box 5 [.rd u8R c1_1]))] w) [(0, .rd (sliceR R_session_rule) a0), (1, .val (.func (.func 133) #[] #[ptrTo p1_0 0, ptrTo p1_1 0])), (7, .rd i64R (a0.length : Int)), (8, .rd i64R s2)] [(1, some (p1_0, .box 5 [.rd u8R c1_0])), (2, some (p1_1, .box 5 [.rd u8R c1_1]))] aa ww) (fun aa ww h => h.sub [1, 2] (sS rfl <| sS rfl <| sS rfl <| sS rfl <| sN) (rR rfl rfl <| rR rfl rfl <| rN)) (fun s2 => ?_)
    refine gSeq <| gReg <| R rfl (I.lss rfl rfl) <| gNil <| eThen <| gSeq <| gIf rfl rfl (fun h3 => ?_) (fun h3 => ?_)
    · skip
      refine gSkip <| eThen <| gSeq <| gBlk <| gSeq <| gReg <| R rfl (mv rfl) <| R rfl (asg rfl) <| gNil <| eThen <| gSeq <| gReg <| R rfl (mv rfl) <| R rfl (mv rfl) <| R rfl (mv rfl) <| lBind fun x4 h5 => R rfl (ixR rfl rfl h5 Try.underlying180 ti161 rfl) <| R rfl (ldR rfl ty161) <| callv [1, 2] [(1, 1), (2, 2)] (gd0 rfl) rfl rfl Try.func133 rfl rfl (session_find_1_ok _ _ _ _ _) (aQ rfl <| aN) (cQ 1 rfl <| cQ 2 rfl <| cN) (rR rfl rfl <| rR rfl rfl <| rN) fun r6 n7 => gNil <| eThen <| gIf rfl rfl (fun h8 => ?_) (fun h8 => ?_)
      · skip
        refine gSeq <| gReg <| R rfl (mv rfl) <| R rfl (asg rfl) <| gNil <| eThen <| gRet <| eBret <| eTret <| eLret <| eMret <| eRet [] [1, 2] rfl (eE rfl <| eN) (rR rfl rfl <| rR rfl rfl <| rN)
      · skip
        refine gSkip <| eBlk <| eThen <| gReg <| R rfl (I.add rfl rfl) <| R rfl (mv rfl) <| gNil <| eNext (fun aa ww h => h.sub [1, 2] (sS rfl <| sS rfl <| sS rfl <| sS rfl <| sN) (rR rfl rfl <| rR rfl rfl <| rN))
    · skip
      refine gExit <| eTexit <| eLeave <| eMidR (fun aa ww h => h.sub [1, 2] (sN) (rR rfl rfl <| rR rfl rfl <| rN))
  · skip
    refine gSeq <| gReg <| R rfl (asg rfl) <| gNil <| eThen <| gRet <| eRet [] [1, 2] rfl (eE rfl <| eN) (rR rfl rfl <| rR rfl rfl <| rN)


def session_find (a0 : UInt8) (a1 : UInt8) : Option (session_rule × Bool) :=
  session_rules >>= fun r4 =>
  slices_IndexFunc_session_rule_session_rule_session_find_1 r4 a0 a1 >>= fun r6 =>
  if decide (r6 < 0) then
    some ((⟨0, 0, 0, 0⟩ : session_rule), false)
  else
    idx r4 r6 >>= fun x9 =>
    some (x9, true)
set_option maxRecDepth 100000 in
theorem session_find_ok (a0 : UInt8) (a1 : UInt8) : Spec Try.prog 113 [.rd u8R a0, .rd u8R a1] [] (session_find a0 a1) (fun r nv => ⟨[.rd R_session_rule r.1, .rd boolR r.2], []⟩) := by
  refine spec 19 Try.func113 rfl rfl rfl fun H w => ?_
  refine gSeq <| gReg <| Eb rfl (bx 1 rfl) fun v1 => Eb rfl (bx 2 rfl) fun v2 => Eb rfl (allc 3 ti161 (.zr zr161)) fun v3 => R rfl (asg rfl) <| gNil <| eThen <| gSeq <| gReg <| call [] [(100, 4)] rfl Try.func131 rfl rfl (session_rules_ok) (aN) rN fun r4 n5 => R rfl (asg rfl) <| gNil <| eThen <| gSeq <| gReg <| R rfl (mv rfl) <| R rfl (mkf mp0 (mp2 rfl rfl)) <| lFrz 4 [8, 6, 9] rfl (fS rfl <| fS rfl <| fS rfl <| fN) <| call [1, 2] [(1, 1), (2, 2)] rfl Try.func132 rfl rfl (slices_IndexFunc_session_rule_session_rule_session_find_1_ok _ _ _ _ _) (aQ rfl <| aQ rfl <| aN) (rR rfl rfl <| rR rfl rfl <| rN) fun r6 n7 => R rfl (asg rfl) <| gNil <| eThen <| gSeq <| gSeq <| gReg <| R rfl (mv rfl) <| R rfl (I.lss rfl rfl) <| gNil <| eThen <| gIf rfl rfl (fun h8 => ?_) (fun h8 => ?_)
  · skip
    refine gSeq <| gReg <| R rfl (bld (x' := (⟨0, 0, 0, 0⟩ : session_rule)) [(0, 1), (1, 1), (2, 1), (3, 1)] Try.underlying161 ti161 rfl zr161 rfl (Bld.done rfl)) <| Es (sto 3 rfl rfl Foc.here rfl ti161) <| R rfl (asg rfl) <| gNil <| eThen <| gRet <| eTret <| eRet [] [] rfl (eC 3 rfl rfl ty161 <| eE rfl <| eN) (rN)
  · skip
    refine gSkip <| eThen <| gSeq <| gReg <| R rfl (mv rfl) <| R rfl (mv rfl) <| lBind fun x9 h10 => R rfl (ixR rfl rfl h10 Try.underlying180 ti161 rfl) <| R rfl (ldR rfl ty161) <| Es (sto 3 rfl rfl Foc.here rfl ti161) <| R rfl (asg rfl) <| gNil <| eThen <| gRet <| eRet [] [] rfl (eC 3 rfl rfl ty161 <| eE rfl <| eN) (rN)


def session_bye (a0 : api_Session) (a1 : UInt8) (a2 : UInt64) : Option (api_Session × (List api_Doing) × Int) :=
  some ({ a0 with State := a1 }, [(⟨1, (⟨6, a2, [], []⟩ : api_Frame)⟩ : api_Doing), (⟨6, (⟨0, 0, [], []⟩ : api_Frame)⟩ : api_Doing)], 0)
set_option maxRecDepth 100000 in
theorem session_bye_ok (a0 : api_Session) (a1 : UInt8) (a2 : UInt64) : Spec Try.prog 110 [.rd R_api_Session a0, .rd u8R a1, .rd u64R a2] [] (session_bye a0 a1 a2) (fun r nv => ⟨[.rd R_api_Session r.1, .val (nv 0), .rd i64R r.2.2], [(100, some (nv 0, .list R_api_Doing 136 r.2.1))]⟩) := by
  refine spec 17 Try.func110 rfl rfl rfl fun H w => ?_
  refine gSeq <| gReg <| Eb rfl (bx 1 rfl) fun v1 => Eb rfl (allc 2 ti66 (.zr zr66)) fun v2 => R rfl (asg rfl) <| R rfl (asg rfl) <| gNil <| eThen <| gSeq <| gReg <| R rfl (mv rfl) <| R rfl (faB 1 rfl rfl Try.underlying66 rfl (by exact ti5)) <| Es (sto 1 rfl rfl ((Foc.here).part (pt_api_Session_State _)) rfl ti5) <| gNil <| eThen <| gSeq <| gReg <| R rfl (ld 1 rfl rfl Foc.here ty66 rfl) <| R rfl (mv rfl) <| R rfl (bld (x' := (⟨6, a2, [], []⟩ : api_Frame)) [(0, 1), (1, 1), (2, 1), (3, 1)] Try.underlying105 ti105 rfl zr105 rfl (Bld.cons (pt_api_Frame_Kind _) rfl rfl <| Bld.cons (pt_api_Frame_N _) rfl rfl <| Bld.done rfl)) <| R rfl (bld (x' := (⟨1, (⟨6, a2, [], []⟩ : api_Frame)⟩ : api_Doing)) [(0, 1), (1, 4)] Try.underlying136 ti136 rfl zr136 rfl (Bld.cons (pt_api_Doing_Kind _) rfl rfl <| Bld.cons (pt_api_Doing_Frame _) rfl rfl <| Bld.done rfl)) <| R rfl (bld (x' := (⟨6, (⟨0, 0, [], []⟩ : api_Frame)⟩ : api_Doing)) [(0, 1), (1, 4)] Try.underlying136 ti136 rfl zr136 rfl (Bld.cons (pt_api_Doing_Kind _) rfl rfl <| Bld.done rfl)) <| Ef rfl (lit (R := R_api_Doing) ([(⟨1, (⟨6, a2, [], []⟩ : api_Frame)⟩ : api_Doing), (⟨6, (⟨0, 0, [], []⟩ : api_Frame)⟩ : api_Doing)] : List api_Doing) 3 (pP rfl rfl <| pP rfl rfl <| pN) rfl Try.underlying67 ti136 rfl rfl) fun v3 => Es (sto 2 rfl rfl Foc.here rfl ti66) <| R rfl (asg rfl) <| R rfl (asg rfl) <| gNil <| eThen <| gRet <| eRet [v3] [3] rfl (eC 2 rfl rfl ty66 <| eE rfl <| eE rfl <| eN) (rR rfl rfl <| rN)


def slices_Clone_api_ID_api_ID (a0 : List (Vector UInt8 32)) : Option ((List (Vector UInt8 32))) :=
  app 32 ([] : List (Vector UInt8 32)) a0 >>= fun x3 =>
  some x3
set_option maxRecDepth 100000 in
theorem slices_Clone_api_ID_api_ID_ok (a0 : List (Vector UInt8 32)) : Spec Try.prog 124 [.rd (sliceR (arrR 32 u8R)) a0] [] (slices_Clone_api_ID_api_ID a0) (fun r nv => ⟨[.val (nv 0)], [(100, some (nv 0, .list (arrR 32 u8R) 102 r))]⟩) := by
  refine spec 8 Try.func124 rfl rfl rfl fun H w => ?_
  refine gSeq <| gReg <| R rfl (asg rfl) <| gNil <| eThen <| gSeq <| gSeq <| gReg <| R rfl (mv rfl) <| lNilE rfl rfl .rd rfl Try.underlying83 (fun h1 => ?_) ?_
  · skip
    subst h1
    refine gNil <| eThen <| gTrue rfl <| gSeq <| gReg <| R rfl (asg rfl) <| gNil <| eThen <| gRet <| eTret <| eNew (arrR 32 u8R) 102 1 <| eRet [(.slice none 0 0)] [1] rfl (eE rfl <| eN) (rR rfl rfl <| rN)
  · skip
    refine gNil <| eThen <| gFalse rfl <| gSkip <| eThen <| gSeq <| gReg <| Ef rfl (lit (R := (arrR 32 u8R)) (([] : List (Vector UInt8 32)) : List (Vector UInt8 32)) 2 (pN) rfl Try.underlying83 ti102 rfl rfl) fun v2 => R rfl (mv rfl) <| lBind fun x3 h4 => Ef rfl (apn 2 rfl rfl rfl .rd h4 Try.underlying83 ti102 rfl rfl rfl) fun v5 => R rfl (asg rfl) <| gNil <| eThen <| gRet <| eRet [v5] [2] rfl (eE rfl <| eN) (rR rfl rfl <| rN)


def slices_Clone_byte_byte (a0 : List (List UInt8)) : Option ((List (List UInt8))) :=
  app 24 ([] : List (List UInt8)) a0 >>= fun x3 =>
  some x3
set_option maxRecDepth 100000 in
theorem slices_Clone_byte_byte_ok (a0 : List (List UInt8)) : Spec Try.prog 138 [.rd (sliceR (sliceR u8R)) a0] [] (slices_Clone_byte_byte a0) (fun r nv => ⟨[.val (nv 0)], [(100, some (nv 0, .list (sliceR u8R) 32 r))]⟩) := by
  refine spec 8 Try.func138 rfl rfl rfl fun H w => ?_
  refine gSeq <| gReg <| R rfl (asg rfl) <| gNil <| eThen <| gSeq <| gSeq <| gReg <| R rfl (mv rfl) <| lNilE rfl rfl .rd rfl Try.underlying103 (fun h1 => ?_) ?_
  · skip
    subst h1
    refine gNil <| eThen <| gTrue rfl <| gSeq <| gReg <| R rfl (asg rfl) <| gNil <| eThen <| gRet <| eTret <| eNew (sliceR u8R) 32 1 <| eRet [(.slice none 0 0)] [1] rfl (eE rfl <| eN) (rR rfl rfl <| rN)
  · skip
    refine gNil <| eThen <| gFalse rfl <| gSkip <| eThen <| gSeq <| gReg <| Ef rfl (lit (R := (sliceR u8R)) (([] : List (List UInt8)) : List (List UInt8)) 2 (pN) rfl Try.underlying103 ti32 rfl rfl) fun v2 => R rfl (mv rfl) <| lBind fun x3 h4 => Ef rfl (apn 2 rfl rfl rfl .rd h4 Try.underlying103 ti32 rfl rfl rfl) fun v5 => R rfl (asg rfl) <| gNil <| eThen <| gRet <| eRet [v5] [2] rfl (eE rfl <| eN) (rR rfl rfl <| rN)


def bytes_Clone (a0 : List UInt8) : Option ((List UInt8)) :=
  app 1 ([] : List UInt8) a0 >>= fun x3 =>
  some x3
set_option maxRecDepth 100000 in
theorem bytes_Clone_ok (a0 : List UInt8) : Spec Try.prog 108 [.rd (sliceR u8R) a0] [] (bytes_Clone a0) (fun r nv => ⟨[.val (nv 0)], [(100, some (nv 0, .list u8R 5 r))]⟩) := by
  refine spec 8 Try.func108 rfl rfl rfl fun H w => ?_
  refine gSeq <| gReg <| R rfl (asg rfl) <| gNil <| eThen <| gSeq <| gSeq <| gReg <| R rfl (mv rfl) <| lNilE rfl rfl .rd rfl Try.underlying32 (fun h1 => ?_) ?_
  · skip
    subst h1
    refine gNil <| eThen <| gTrue rfl <| gSeq <| gReg <| R rfl (asg rfl) <| gNil <| eThen <| gRet <| eTret <| eNew u8R 5 1 <| eRet [(.slice none 0 0)] [1] rfl (eE rfl <| eN) (rR rfl rfl <| rN)
  · skip
    refine gNil <| eThen <| gFalse rfl <| gSkip <| eThen <| gSeq <| gReg <| Ef rfl (lit (R := u8R) (([] : List UInt8) : List UInt8) 2 (pN) rfl Try.underlying32 ti5 rfl rfl) fun v2 => R rfl (mv rfl) <| lBind fun x3 h4 => Ef rfl (apn 2 rfl rfl rfl .rd h4 Try.underlying32 ti5 rfl rfl rfl) fun v5 => R rfl (asg rfl) <| gNil <| eThen <| gRet <| eRet [v5] [2] rfl (eE rfl <| eN) (rR rfl rfl <| rN)

def session_clone_L0 (r5 : (List (List UInt8))) (s8 : (List (List UInt8)) × Int) : Option (Sum ((List (List UInt8))) ((List (List UInt8)) × Int)) :=
  if decide (s8.2 < (r5.length : Int)) then
    idx s8.1 s8.2 >>= fun x10 =>
    bytes_Clone x10 >>= fun r12 =>
    idx s8.1 s8.2 >>= fun x14 =>
    some (.inr (s8.1.set (s8.2 : Int).toNat r12, w64 (s8.2 + 1)))
  else
    some (.inl s8.1)
def session_clone (a0 : api_Frame) : Option (api_Frame) :=
  slices_Clone_api_ID_api_ID a0.IDs >>= fun r3 =>
  slices_Clone_byte_byte a0.Ops >>= fun r5 =>
  (iter (session_clone_L0 r5) (r5, 0)) >>= fun s7 =>
  some (⟨a0.Kind, a0.N, r3, s7⟩ : api_Frame)
set_option maxRecDepth 100000 in
theorem session_clone_ok (a0 : api_Frame) : Spec Try.prog 128 [.rd R_api_Frame a0] [] (session_clone a0) (fun r nv => ⟨[.rd R_api_Frame r], []⟩) := by
  refine spec 29 Try.func128 rfl rfl rfl fun H w => ?_
  refine gSeq <| gReg <| Eb rfl (bx 1 rfl) fun v1 => Eb rfl (allc 2 ti105 (ZrE.rd (R := u8R) (x := 0) (Zr.num rfl) (ZrE.rd (R := u64R) (x := 0) (Zr.num rfl) (ZrE.nilS (ZrE.nilS ZrE.nil)) rfl) rfl)) fun v2 => gNil <| eThen <| gSeq <| gReg <| R rfl (faB 1 rfl rfl Try.underlying105 rfl (by exact ti83)) <| R rfl (ld 1 rfl rfl ((Foc.here).part (pt_api_Frame_IDs _)) ty83 rfl) <| call [] [(100, 3)] rfl Try.func124 rfl rfl (slices_Clone_api_ID_api_ID_ok _) (aQ rfl <| aN) rN fun r3 n4 => R rfl (faB 1 rfl rfl Try.underlying105 rfl (by exact ti83)) <| lSpl (R := R_api_Frame) 1 rfl (Sp.via (Sp.prod (Sp.prod (Sp.prod (Sp.prod Sp.unit))))) <| Es (stoE 1 rfl rfl (Swap.cast (Swap.next fills_rd (Swap.next fills_rd (Swap.here fills_rd))) rfl) rfl ones_val fills_val ti83) <| gNil <| eThen <| gSeq <| gReg <| R rfl (faB 1 rfl rfl Try.underlying105 rfl (by exact ti103)) <| R rfl (ld 1 rfl rfl (Foc.cast (Foc.next fills_rd (Foc.next fills_rd (Foc.next fills_val Foc.here))) rfl) ty103 rfl) <| call [] [(100, 4)] rfl Try.func138 rfl rfl (slices_Clone_byte_byte_ok _) (aQ rfl <| aN) rN fun r5 n6 => R rfl (faB 1 rfl rfl Try.underlying105 rfl (by exact ti103)) <| Es (stoE 1 rfl rfl (Swap.cast (Swap.next fills_rd (Swap.next fills_rd (Swap.next fills_val (Swap.here fills_rd)))) rfl) rfl ones_val fills_val ti103) <| gNil <| eThen <| gMid (fun (s7 : (List (List UInt8))) aa ww => Sta (ctx 29 H [] w) [(1, .val (ptrTo v1 0)), (2, .val (ptrTo v2 0))] [(3, some ((n4 0), .list (arrR 32 u8R) 102 r3)), (4, some ((n6 0), .list (sliceR u8R) 32 s7)), (1, some (v1, .box 105 [.rd u8R a0.Kind, .rd u64R a0.N, .val (n4 0), .val (n6 0)])), (2, some (v2, .box 105 [.rd u8R 0, .rd u64R 0, .val (.slice none 0 0), .val (.slice none 0 0)]))] aa ww) ?_ (fun s7 => ?_)
  · skip
    refine gSeq <| gReg <| R rfl (faB 1 rfl rfl Try.underlying105 rfl (by exact ti103)) <| R rfl (ldV 1 rfl rfl (At.cast (At.next fills_rd (At.next fills_rd (At.next fills_val At.here))) rfl) sc103 rfl) <| R rfl (len' rfl (.own 4 rfl) rfl Try.underlying103) <| R rfl (mv rfl) <| gNil <| eThen <| gLoop (fun (s8 : (List (List UInt8)) × Int) aa ww => Sta (ctx 29 H [] w) [(1, .val (ptrTo v1 0)), (2, .val (ptrTo v2 0)), (14, .val (n6 0)), (15, .rd i64R (r5.length : Int)), (16, .rd i64R s8.2)] [(3, some ((n4 0), .list (arrR 32 u8R) 102 r3)), (4, some ((n6 0), .list (sliceR u8R) 32 s8.1)), (1, some (v1, .box 105 [.rd u8R a0.Kind, .rd u64R a0.N, .val (n4 0), .val (n6 0)])), (2, some (v2, .box 105 [.rd u8R 0, .rd u64R 0, .val (.slice none 0 0), .val (.slice none 0 0)]))] aa ww) (fun aa ww h => h.sub [3, 4, 1, 2] (sS rfl <| sS rfl <| sS rfl <| sS rfl <| sS rfl <| sN) (rR rfl rfl <| rR rfl rfl <| rR rfl rfl <| rR rfl rfl <| rN)) (fun s8 => ?_)
    refine gSeq <| gReg <| R rfl (I.lss rfl rfl) <| gNil <| eThen <| gSeq <| gIf rfl rfl (fun h9 => ?_) (fun h9 => ?_)
    · skip
      refine gSkip <| eThen <| gSeq <| gBlk <| gSeq <| gReg <| R rfl (mv rfl) <| lBind fun x10 h11 => R rfl (ixO 4 rfl rfl rfl h11 Try.underlying103 ti32) <| R rfl (ld 4 rfl rfl (Foc.el h11) ty32 rfl) <| R rfl (asg rfl) <| R rfl (asg rfl) <| gNil <| eThen <| gRegH [4, 17] mixed rfl rfl <| hTake 0 rfl (by kernel_rfl) (by kernel_rfl) (by kernel_rfl) (gd0 rfl) rfl rfl (faB 1 rfl rfl Try.underlying105 rfl (by exact ti103)) <| hTake 1 rfl (by kernel_rfl) (by kernel_rfl) (by kernel_rfl) (gd0 rfl) rfl rfl (ldV 1 rfl rfl (At.cast (At.next fills_rd (At.next fills_rd (At.next fills_val At.here))) rfl) sc103 rfl) <| hTake 2 rfl (by kernel_rfl) (by kernel_rfl) (by kernel_rfl) (gd0 rfl) rfl rfl (mv rfl) <| hTake 3 rfl (by kernel_rfl) (by kernel_rfl) (by kernel_rfl) (gd0 rfl) rfl rfl (mv rfl) <| hCallF 4 [] [(100, 17)] rfl (by kernel_rfl) rfl (gd0 rfl) rfl Try.func108 rfl rfl (bytes_Clone_ok _) (aQ rfl <| aN) rN rfl (fun _ _ => flat_val) fun r12 n13 => hBind fun x14 h15 => hTake 5 rfl (by kernel_rfl) (by kernel_rfl) (by kernel_rfl) (gd0 rfl) rfl rfl (ixO 4 rfl rfl rfl h15 Try.underlying103 ti32) <| hFrz 17 [25] rfl (fS rfl <| fN) <| hDoS 6 rfl (by kernel_rfl) (gd0 rfl) rfl rfl rfl rfl (sto 4 rfl rfl (Foc.el h15) rfl ti32) <| hDone (by kernel_rfl) <| eBlk <| eThen <| gReg <| R rfl (I.add rfl rfl) <| R rfl (mv rfl) <| gNil <| eNext (fun aa ww h => h.sub [3, 4, 1, 2] (sS rfl <| sS rfl <| sS rfl <| sS rfl <| sS rfl <| sN) (rR rfl rfl <| rR rfl rfl <| rR rfl rfl <| rR rfl rfl <| rN))
    · skip
      refine gExit <| eTexit <| eLeave <| eMid (fun aa ww h => h.sub [3, 4, 1, 2] (sS rfl <| sS rfl <| sN) (rR rfl rfl <| rR rfl rfl <| rR rfl rfl <| rR rfl rfl <| rN))
  · skip
    refine gSeq <| gReg <| lPow [.rd u8R a0.Kind, .rd u64R a0.N, .rd (sliceR (arrR 32 u8R)) r3, .val (n6 0)] 1 3 [.rd u8R a0.Kind, .rd u64R a0.N] [.val (n6 0)] rfl rfl rfl rfl rfl <| lPow [.rd u8R a0.Kind, .rd u64R a0.N, .rd (sliceR (arrR 32 u8R)) r3, .rd (sliceR (sliceR u8R)) s7] 1 4 [.rd u8R a0.Kind, .rd u64R a0.N, .rd (sliceR (arrR 32 u8R)) r3] [] rfl rfl rfl rfl rfl <| lJoi (R := R_api_Frame) (⟨a0.Kind, a0.N, r3, s7⟩ : api_Frame) 1 rfl (Sp.via (Sp.prod (Sp.prod (Sp.prod (Sp.prod Sp.unit))))) <| R rfl (ld 1 rfl rfl Foc.here ty105 rfl) <| lPnl (arrR 32 u8R) [.rd u8R 0, .rd u64R 0, .rd (sliceR (arrR 32 u8R)) [], .val (.slice none 0 0)] 2 [.rd u8R 0, .rd u64R 0] [.val (.slice none 0 0)] rfl rfl rfl <| lPnl (sliceR u8R) [.rd u8R 0, .rd u64R 0, .rd (sliceR (arrR 32 u8R)) [], .rd (sliceR (sliceR u8R)) []] 2 [.rd u8R 0, .rd u64R 0, .rd (sliceR (arrR 32 u8R)) []] [] rfl rfl rfl <| lJoi (R := R_api_Frame) (⟨0, 0, [], []⟩ : api_Frame) 2 rfl (Sp.via (Sp.prod (Sp.prod (Sp.prod (Sp.prod Sp.unit))))) <| Es (sto 2 rfl rfl Foc.here rfl ti105) <| gNil <| eThen <| gRet <| eRet [] [] rfl (eC 2 rfl rfl ty105 <| eN) (rN)


def session_Take (a0 : api_Session) (a1 : api_Frame) : Option (api_Session × (List api_Doing) × Int) :=
  session_Check a0 >>= fun r4 =>
  if r4 != 0 then
    some ((⟨0, 0, 0, 0⟩ : api_Session), [], r4)
  else
    frame_Check a1 >>= fun r7 =>
    if r7 != 0 then
      some ((⟨0, 0, 0, 0⟩ : api_Session), [], 8)
    else
      session_over a0 >>= fun r10 =>
      if r10 then
        some (a0, [], 0)
      else
        session_find (({ { a0 with Frames := min (w64 (a0.Frames + 1)) 1000000000 } with Ops := min (w64 ((({ a0 with Frames := min (w64 (a0.Frames + 1)) 1000000000 }).Ops) + (a1.Ops.length : Int))) 1000000000 }).State) a1.Kind >>= fun r13 =>
        if !r13.2 then
          session_bye ({ { a0 with Frames := min (w64 (a0.Frames + 1)) 1000000000 } with Ops := min (w64 ((({ a0 with Frames := min (w64 (a0.Frames + 1)) 1000000000 }).Ops) + (a1.Ops.length : Int))) 1000000000 }) 4 2 >>= fun r17 =>
          some (r17.1, r17.2.1, r17.2.2)
        else
          (if r13.1.do_ == 1 then
            some ({ { a0 with Frames := min (w64 (a0.Frames + 1)) 1000000000 } with Ops := min (w64 ((({ a0 with Frames := min (w64 (a0.Frames + 1)) 1000000000 }).Ops) + (a1.Ops.length : Int))) 1000000000 }, a1.N != 1)
          else
            some ({ { a0 with Frames := min (w64 (a0.Frames + 1)) 1000000000 } with Ops := min (w64 ((({ a0 with Frames := min (w64 (a0.Frames + 1)) 1000000000 }).Ops) + (a1.Ops.length : Int))) 1000000000 }, false)) >>= fun s19 =>
          if s19.2 then
            session_bye s19.1 4 1 >>= fun r22 =>
            some (r22.1, r22.2.1, r22.2.2)
          else
            (if r13.1.do_ != 6 then
              session_clone a1 >>= fun r27 =>
              some ({ (⟨r13.1.do_, (⟨0, 0, [], []⟩ : api_Frame)⟩ : api_Doing) with Frame := r27 })
            else
              some (⟨r13.1.do_, (⟨0, 0, [], []⟩ : api_Frame)⟩ : api_Doing)) >>= fun s25 =>
            if r13.1.do_ == 1 then
              some ({ s19.1 with State := r13.1.next }, [s25, (⟨2, (⟨0, 0, [], []⟩ : api_Frame)⟩ : api_Doing)], 0)
            else
              some ({ s19.1 with State := r13.1.next }, [s25], 0)
set_option maxRecDepth 100000 in
theorem session_Take_ok (a0 : api_Session) (a1 : api_Frame) : Spec Try.prog 83 [.rd R_api_Session a0, .rd R_api_Frame a1] [] (session_Take a0 a1) (fun r nv => ⟨[.rd R_api_Session r.1, .val (nv 0), .rd i64R r.2.2], [(100, some (nv 0, .list R_api_Doing 136 r.2.1))]⟩) := by
  refine spec 89 Try.func83 rfl rfl rfl fun H w => ?_
  refine gSeq <| gReg <| Eb rfl (bx 1 rfl) fun v1 => Eb rfl (bx 2 rfl) fun v2 => Eb rfl (allc 3 ti66 (.zr zr66)) fun v3 => R rfl (asg rfl) <| R rfl (asg rfl) <| gNil <| eThen <| gSeq <| gSeq <| gReg <| R rfl (ld 1 rfl rfl Foc.here ty66 rfl) <| call [] [] rfl Try.func85 rfl rfl (session_Check_ok _) (aQ rfl <| aN) rN fun r4 n5 => R rfl (asg rfl) <| gNil <| eThen <| gSeq <| gReg <| R rfl (mv rfl) <| R rfl (I.neq rfl rfl) <| gNil <| eThen <| gIf rfl rfl (fun h6 => ?_) (fun h6 => ?_)
  · skip
    refine gSeq <| gReg <| R rfl (bld (x' := (⟨0, 0, 0, 0⟩ : api_Session)) [(0, 1), (1, 1), (2, 1), (3, 1)] Try.underlying66 ti66 rfl zr66 rfl (Bld.done rfl)) <| R rfl (mv rfl) <| Es (sto 3 rfl rfl Foc.here rfl ti66) <| R rfl (asg rfl) <| R rfl (asg rfl) <| gNil <| eThen <| gRet <| eTret <| eNew R_api_Doing 136 4 <| eRet [(.slice none 0 0)] [4] rfl (eC 3 rfl rfl ty66 <| eE rfl <| eE rfl <| eN) (rR rfl rfl <| rN)
  · skip
    refine gSkip <| eThen <| gSeq <| gSeq <| gReg <| R rfl (ld 2 rfl rfl Foc.here ty105 rfl) <| call [] [] rfl Try.func76 rfl rfl (frame_Check_ok _) (aQ rfl <| aN) rN fun r7 n8 => R rfl (I.neq rfl rfl) <| gNil <| eThen <| gIf rfl rfl (fun h9 => ?_) (fun h9 => ?_)
    · skip
      refine gSeq <| gReg <| R rfl (bld (x' := (⟨0, 0, 0, 0⟩ : api_Session)) [(0, 1), (1, 1), (2, 1), (3, 1)] Try.underlying66 ti66 rfl zr66 rfl (Bld.done rfl)) <| Es (sto 3 rfl rfl Foc.here rfl ti66) <| R rfl (asg rfl) <| R rfl (asg rfl) <| gNil <| eThen <| gRet <| eTret <| eNew R_api_Doing 136 5 <| eRet [(.slice none 0 0)] [5] rfl (eC 3 rfl rfl ty66 <| eE rfl <| eE rfl <| eN) (rR rfl rfl <| rN)
    · skip
      refine gSkip <| eThen <| gSeq <| gSeq <| gReg <| R rfl (ld 1 rfl rfl Foc.here ty66 rfl) <| call [] [] rfl Try.func109 rfl rfl (session_over_ok _) (aQ rfl <| aN) rN fun r10 n11 => gNil <| eThen <| gIf rfl rfl (fun h12 => ?_) (fun h12 => ?_)
      · skip
        refine gSeq <| gReg <| R rfl (ld 1 rfl rfl Foc.here ty66 rfl) <| Es (sto 3 rfl rfl Foc.here rfl ti66) <| R rfl (asg rfl) <| R rfl (asg rfl) <| gNil <| eThen <| gRet <| eTret <| eNew R_api_Doing 136 6 <| eRet [(.slice none 0 0)] [6] rfl (eC 3 rfl rfl ty66 <| eE rfl <| eE rfl <| eN) (rR rfl rfl <| rN)
      · skip
        refine gSkip <| eThen <| gSeq <| gReg <| R rfl (faB 1 rfl rfl Try.underlying66 rfl (by exact ti3)) <| R rfl (ld 1 rfl rfl ((Foc.here).part (pt_api_Session_Frames _)) ty3 rfl) <| R rfl (I.add rfl rfl) <| R rfl (I.min rfl rfl) <| R rfl (faB 1 rfl rfl Try.underlying66 rfl (by exact ti3)) <| Es (sto 1 rfl rfl ((Foc.here).part (pt_api_Session_Frames _)) rfl ti3) <| gNil <| eThen <| gSeq <| gReg <| R rfl (faB 1 rfl rfl Try.underlying66 rfl (by exact ti3)) <| R rfl (ld 1 rfl rfl ((Foc.here).part (pt_api_Session_Ops _)) ty3 rfl) <| R rfl (faB 2 rfl rfl Try.underlying105 rfl (by exact ti103)) <| R rfl (ld 2 rfl rfl ((Foc.here).part (pt_api_Frame_Ops _)) ty103 rfl) <| R rfl (len' rfl .rd rfl Try.underlying103) <| R rfl (I.add rfl rfl) <| R rfl (I.min rfl rfl) <| R rfl (faB 1 rfl rfl Try.underlying66 rfl (by exact ti3)) <| Es (sto 1 rfl rfl ((Foc.here).part (pt_api_Session_Ops _)) rfl ti3) <| gNil <| eThen <| gSeq <| gReg <| R rfl (faB 1 rfl rfl Try.underlying66 rfl (by exact ti5)) <| R rfl (ld 1 rfl rfl ((Foc.here).part (pt_api_Session_State _)) ty5 rfl) <| R rfl (faB 2 rfl rfl Try.underlying105 rfl (by exact ti5)) <| R rfl (ld 2 rfl rfl ((Foc.here).part (pt_api_Frame_Kind _)) ty5 rfl) <| call [] [] rfl Try.func113 rfl rfl (session_find_ok _ _) (aQ rfl <| aQ rfl <| aN) rN fun r13 n14 => R rfl (mv rfl) <| R rfl (ext rfl rfl) <| R rfl (ext rfl rfl) <| Eb rfl (allc 7 ti161 (.zr zr161)) fun v15 => Es (sto 7 rfl rfl Foc.here rfl ti161) <| R rfl (asg rfl) <| gNil <| eThen <| gSeq <| gBlk <| gSeq <| gReg <| R rfl (mv rfl) <| R rfl (not' rfl) <| R rfl (asg rfl) <| gNil <| eThen <| gIf rfl rfl (fun h16 => ?_) (fun h16 => ?_)
        · skip
          refine gKn 47 rfl h16 <| gSeq <| gReg <| R rfl (ld 1 rfl rfl Foc.here ty66 rfl) <| call [] [(100, 8)] rfl Try.func110 rfl rfl (session_bye_ok _ _ _) (aQ rfl <| aQ rfl <| aQ rfl <| aN) rN fun r17 n18 => R rfl (ext rfl rfl) <| R rfl (ext rfl rfl) <| R rfl (ext rfl rfl) <| Es (sto 3 rfl rfl Foc.here rfl ti66) <| R rfl (asg rfl) <| R rfl (asg rfl) <| gNil <| eThen <| gRet <| eBret <| eTret <| eRet [(n18 0)] [8] rfl (eC 3 rfl rfl ty66 <| eE rfl <| eE rfl <| eN) (rR rfl rfl <| rN)
        · skip
          refine gKn 47 rfl h16 <| gMid (fun (s19 : api_Session × Bool) aa ww => Sta (ctx 89 H [] w) [(2, .val (ptrTo v1 0)), (3, .val (ptrTo v2 0)), (4, .val (ptrTo v3 0)), (8, .val (ptrTo v15 0)), (53, .rd boolR s19.2)] [(1, some (v1, .box 66 [.rd R_api_Session s19.1])), (2, some (v2, .box 105 [.rd R_api_Frame a1])), (3, some (v3, .box 66 [.rd R_api_Session (⟨0, 0, 0, 0⟩ : api_Session)])), (7, some (v15, .box 161 [.rd R_session_rule r13.1]))] aa ww) ?_ (fun s19 => ?_)
          · skip
            refine gReg <| R rfl (faB 7 rfl rfl Try.underlying161 rfl (by exact ti5)) <| R rfl (ld 7 rfl rfl ((Foc.here).part (pt_session_rule_do_ _)) ty5 rfl) <| R rfl (B.eql rfl rfl) <| R rfl (mv rfl) <| lSplit 57 rfl (fun h20 => ?_) (fun h20 => ?_)
            · skip
              refine lKn 56 rfl h20 <| lRun (gd rfl rfl rfl rfl) rfl rfl (faB 2 rfl rfl Try.underlying105 rfl (by exact ti31)) <| lRun (gd rfl rfl rfl rfl) rfl rfl (ld 2 rfl rfl ((Foc.here).part (pt_api_Frame_N _)) ty31 rfl) <| lRun (gd rfl rfl rfl rfl) rfl rfl (U.neq rfl rfl) <| R rfl (pkT rfl rfl) <| R rfl (asg rfl) <| gNil <| eMid (fun aa ww h => h.sub [1, 2, 3, 7] (sS rfl <| sS rfl <| sS rfl <| sS rfl <| sS rfl <| sN) (rR rfl rfl <| rR rfl rfl <| rR rfl rfl <| rR rfl rfl <| rN))
            · skip
              refine lKn 56 rfl h20 <| lSkip (gd rfl rfl rfl rfl) rfl rfl <| lSkip (gd rfl rfl rfl rfl) rfl rfl <| lSkip (gd rfl rfl rfl rfl) rfl rfl <| R rfl (pkF rfl rfl) <| R rfl (asg rfl) <| gNil <| eMid (fun aa ww h => h.sub [1, 2, 3, 7] (sS rfl <| sS rfl <| sS rfl <| sS rfl <| sS rfl <| sN) (rR rfl rfl <| rR rfl rfl <| rR rfl rfl <| rR rfl rfl <| rN))
          · skip
            refine gIf rfl rfl (fun h21 => ?_) (fun h21 => ?_)
            · skip
              refine gSeq <| gReg <| R rfl (ld 1 rfl rfl Foc.here ty66 rfl) <| call [] [(100, 9)] rfl Try.func110 rfl rfl (session_bye_ok _ _ _) (aQ rfl <| aQ rfl <| aQ rfl <| aN) rN fun r22 n23 => R rfl (ext rfl rfl) <| R rfl (ext rfl rfl) <| R rfl (ext rfl rfl) <| Es (sto 3 rfl rfl Foc.here rfl ti66) <| R rfl (asg rfl) <| R rfl (asg rfl) <| gNil <| eThen <| gRet <| eBret <| eTret <| eRet [(n23 0)] [9] rfl (eC 3 rfl rfl ty66 <| eE rfl <| eE rfl <| eN) (rR rfl rfl <| rN)
            · skip
              refine gSkip <| eBlk <| eThen <| gSeq <| gReg <| R rfl (faB 7 rfl rfl Try.underlying161 rfl (by exact ti5)) <| R rfl (ld 7 rfl rfl ((Foc.here).part (pt_session_rule_next _)) ty5 rfl) <| R rfl (faB 1 rfl rfl Try.underlying66 rfl (by exact ti5)) <| Es (sto 1 rfl rfl ((Foc.here).part (pt_api_Session_State _)) rfl ti5) <| gNil <| eThen <| gSeq <| gReg <| R rfl (faB 7 rfl rfl Try.underlying161 rfl (by exact ti5)) <| R rfl (ld 7 rfl rfl ((Foc.here).part (pt_session_rule_do_ _)) ty5 rfl) <| R rfl (bld (x' := (⟨r13.1.do_, (⟨0, 0, [], []⟩ : api_Frame)⟩ : api_Doing)) [(0, 1), (1, 4)] Try.underlying136 ti136 rfl zr136 rfl (Bld.cons (pt_api_Doing_Kind _) rfl rfl <| Bld.done rfl)) <| Eb rfl (allc 10 ti136 (.zr zr136)) fun v24 => Es (sto 10 rfl rfl Foc.here rfl ti136) <| gNil <| eThen <| gMid (fun (s25 : api_Doing) aa ww => Sta (ctx 89 H [] w) [(2, .val (ptrTo v1 0)), (4, .val (ptrTo v3 0)), (8, .val (ptrTo v15 0)), (10, .val (ptrTo v24 0))] [(1, some (v1, .box 66 [.rd R_api_Session ({ s19.1 with State := r13.1.next })])), (3, some (v3, .box 66 [.rd R_api_Session (⟨0, 0, 0, 0⟩ : api_Session)])), (7, some (v15, .box 161 [.rd R_session_rule r13.1])), (10, some (v24, .box 136 [.rd R_api_Doing s25]))] aa ww) ?_ (fun s25 => ?_)
              · skip
                refine gSeq <| gReg <| R rfl (faB 7 rfl rfl Try.underlying161 rfl (by exact ti5)) <| R rfl (ld 7 rfl rfl ((Foc.here).part (pt_session_rule_do_ _)) ty5 rfl) <| R rfl (B.neq rfl rfl) <| gNil <| eThen <| gIf rfl rfl (fun h26 => ?_) (fun h26 => ?_)
                · skip
                  refine gReg <| R rfl (ld 2 rfl rfl Foc.here ty105 rfl) <| call [] [] rfl Try.func128 rfl rfl (session_clone_ok _) (aQ rfl <| aN) rN fun r27 n28 => R rfl (faB 10 rfl rfl Try.underlying136 rfl (by exact ti105)) <| Es (sto 10 rfl rfl ((Foc.here).part (pt_api_Doing_Frame _)) rfl ti105) <| gNil <| eMid (fun aa ww h => h.sub [1, 3, 7, 10] (sS rfl <| sS rfl <| sS rfl <| sS rfl <| sN) (rR rfl rfl <| rR rfl rfl <| rR rfl rfl <| rR rfl rfl <| rN))
                · skip
                  refine gSkip <| eMid (fun aa ww h => h.sub [1, 3, 7, 10] (sS rfl <| sS rfl <| sS rfl <| sS rfl <| sN) (rR rfl rfl <| rR rfl rfl <| rR rfl rfl <| rR rfl rfl <| rN))
              · skip
                refine gSeq <| gSeq <| gReg <| R rfl (faB 7 rfl rfl Try.underlying161 rfl (by exact ti5)) <| R rfl (ld 7 rfl rfl ((Foc.here).part (pt_session_rule_do_ _)) ty5 rfl) <| R rfl (B.eql rfl rfl) <| gNil <| eThen <| gIf rfl rfl (fun h29 => ?_) (fun h29 => ?_)
                · skip
                  refine gSeq <| gRegH [3, 20] mixed rfl rfl <| hTake 0 rfl (by kernel_rfl) (by kernel_rfl) (by kernel_rfl) (gd0 rfl) rfl rfl (ld 1 rfl rfl Foc.here ty66 rfl) <| hTake 1 rfl (by kernel_rfl) (by kernel_rfl) (by kernel_rfl) (gd0 rfl) rfl rfl (ld 10 rfl rfl Foc.here ty136 rfl) <| hTake 2 rfl (by kernel_rfl) (by kernel_rfl) (by kernel_rfl) (gd0 rfl) rfl rfl (bld (x' := (⟨2, (⟨0, 0, [], []⟩ : api_Frame)⟩ : api_Doing)) [(0, 1), (1, 4)] Try.underlying136 ti136 rfl zr136 rfl (Bld.cons (pt_api_Doing_Kind _) rfl rfl <| Bld.done rfl)) <| hAlt [3, 4] (by kernel_rfl) rfl ⟨?_, ?_, trivial⟩
                  · skip
                    refine oDo 3 rfl (gd0 rfl) rfl rfl rfl (lit (R := R_api_Doing) ([s25, (⟨2, (⟨0, 0, [], []⟩ : api_Frame)⟩ : api_Doing)] : List api_Doing) 20 (pP rfl rfl <| pP rfl rfl <| pN) rfl Try.underlying67 ti136 rfl rfl) (fun _ => rfl) fun v30 => hDoS 4 rfl (by kernel_rfl) (gd0 rfl) rfl rfl rfl rfl (sto 3 rfl rfl Foc.here rfl ti66) <| hTakeF 5 rfl (by kernel_rfl) (by kernel_rfl) (by kernel_rfl) (gd0 rfl) rfl rfl flat_val (asg rfl) <| hTake 6 rfl (by kernel_rfl) (by kernel_rfl) (by kernel_rfl) (gd0 rfl) rfl rfl (asg rfl) <| hDone (by kernel_rfl) <| eThen <| gRet <| eTret <| eRet [v30] [20] rfl (eC 3 rfl rfl ty66 <| eE rfl <| eE rfl <| eN) (rR rfl rfl <| rN)
                  · skip
                    refine oDoS 4 rfl (gd0 rfl) rfl rfl rfl rfl (sto 3 rfl rfl Foc.here rfl ti66) <| hDo 3 rfl (by kernel_rfl) (gd0 rfl) rfl rfl rfl (lit (R := R_api_Doing) ([s25, (⟨2, (⟨0, 0, [], []⟩ : api_Frame)⟩ : api_Doing)] : List api_Doing) 20 (pP rfl rfl <| pP rfl rfl <| pN) rfl Try.underlying67 ti136 rfl rfl) (fun _ => rfl) fun v31 => hTakeF 5 rfl (by kernel_rfl) (by kernel_rfl) (by kernel_rfl) (gd0 rfl) rfl rfl flat_val (asg rfl) <| hTake 6 rfl (by kernel_rfl) (by kernel_rfl) (by kernel_rfl) (gd0 rfl) rfl rfl (asg rfl) <| hDone (by kernel_rfl) <| eThen <| gRet <| eTret <| eRet [v31] [20] rfl (eC 3 rfl rfl ty66 <| eE rfl <| eE rfl <| eN) (rR rfl rfl <| rN)
                · skip
                  refine gSkip <| eThen <| gSeq <| gRegH [3, 41] mixed rfl rfl <| hTake 0 rfl (by kernel_rfl) (by kernel_rfl) (by kernel_rfl) (gd0 rfl) rfl rfl (ld 1 rfl rfl Foc.here ty66 rfl) <| hTake 1 rfl (by kernel_rfl) (by kernel_rfl) (by kernel_rfl) (gd0 rfl) rfl rfl (ld 10 rfl rfl Foc.here ty136 rfl) <| hAlt [2, 3] (by kernel_rfl) rfl ⟨?_, ?_, trivial⟩
                  · skip
                    refine oDo 2 rfl (gd0 rfl) rfl rfl rfl (lit (R := R_api_Doing) ([s25] : List api_Doing) 41 (pP rfl rfl <| pN) rfl Try.underlying67 ti136 rfl rfl) (fun _ => rfl) fun v32 => hDoS 3 rfl (by kernel_rfl) (gd0 rfl) rfl rfl rfl rfl (sto 3 rfl rfl Foc.here rfl ti66) <| hTakeF 4 rfl (by kernel_rfl) (by kernel_rfl) (by kernel_rfl) (gd0 rfl) rfl rfl flat_val (asg rfl) <| hTake 5 rfl (by kernel_rfl) (by kernel_rfl) (by kernel_rfl) (gd0 rfl) rfl rfl (asg rfl) <| hDone (by kernel_rfl) <| eThen <| gRet <| eRet [v32] [41] rfl (eC 3 rfl rfl ty66 <| eE rfl <| eE rfl <| eN) (rR rfl rfl <| rN)
                  · skip
                    refine oDoS 3 rfl (gd0 rfl) rfl rfl rfl rfl (sto 3 rfl rfl Foc.here rfl ti66) <| hDo 2 rfl (by kernel_rfl) (gd0 rfl) rfl rfl rfl (lit (R := R_api_Doing) ([s25] : List api_Doing) 41 (pP rfl rfl <| pN) rfl Try.underlying67 ti136 rfl rfl) (fun _ => rfl) fun v33 => hTakeF 4 rfl (by kernel_rfl) (by kernel_rfl) (by kernel_rfl) (gd0 rfl) rfl rfl flat_val (asg rfl) <| hTake 5 rfl (by kernel_rfl) (by kernel_rfl) (by kernel_rfl) (gd0 rfl) rfl rfl (asg rfl) <| hDone (by kernel_rfl) <| eThen <| gRet <| eRet [v33] [41] rfl (eC 3 rfl rfl ty66 <| eE rfl <| eE rfl <| eN) (rR rfl rfl <| rN)


def braidref25_Check (a0 : api_Session) : Option (Int) :=
  (if decide (a0.State < 1) then
    some true
  else
    if decide (5 < a0.State) then
      some true
    else
      if decide (a0.Faults < 0) then
        some true
      else
        if decide (3 < a0.Faults) then
          some true
        else
          some ((a0.Faults == 3) != (a0.State == 5))) >>= fun s2 =>
  if s2 then
    some 8
  else
    (if decide (a0.Frames < 0) then
      some true
    else
      if decide (1000000000 < a0.Frames) then
        some true
      else
        if decide (a0.Ops < 0) then
          some true
        else
          some (decide (1000000000 < a0.Ops))) >>= fun s8 =>
    if s8 then
      some 8
    else
      some 0
set_option maxRecDepth 100000 in
theorem braidref25_Check_ok (a0 : api_Session) : Spec Try.prog 86 [.rd R_api_Session a0] [] (braidref25_Check a0) (fun r nv => ⟨[.rd i64R r], []⟩) := by
  refine spec 48 Try.func86 rfl rfl rfl fun H w => ?_
  refine gSeq <| gReg <| Eb rfl (bx 1 rfl) fun v1 => R rfl (asg rfl) <| gNil <| eThen <| gSeq <| gMid (fun (s2 : Bool) aa ww => Sta (ctx 48 H [] w) [(1, .val (ptrTo v1 0)), (29, .rd boolR s2)] [(1, some (v1, .box 66 [.rd R_api_Session a0]))] aa ww) ?_ (fun s2 => ?_)
  · skip
    refine gReg <| R rfl (faB 1 rfl rfl Try.underlying66 rfl (by exact ti5)) <| R rfl (ld 1 rfl rfl ((Foc.here).part (pt_api_Session_State _)) ty5 rfl) <| R rfl (B.lss rfl rfl) <| R rfl (mv rfl) <| lSplit 6 rfl (fun h3 => ?_) (fun h3 => ?_)
    · skip
      refine lKn 5 rfl h3 <| lSkip (gd rfl rfl rfl rfl) rfl rfl <| lSkip (gd rfl rfl rfl rfl) rfl rfl <| lSkip (gd rfl rfl rfl rfl) rfl rfl <| R rfl (pkT rfl rfl) <| R rfl (mv rfl) <| lSkip (gd rfl rfl rfl rfl) rfl rfl <| lSkip (gd rfl rfl rfl rfl) rfl rfl <| lSkip (gd rfl rfl rfl rfl) rfl rfl <| R rfl (pkT rfl rfl) <| R rfl (mv rfl) <| lSkip (gd rfl rfl rfl rfl) rfl rfl <| lSkip (gd rfl rfl rfl rfl) rfl rfl <| lSkip (gd rfl rfl rfl rfl) rfl rfl <| R rfl (pkT rfl rfl) <| R rfl (mv rfl) <| lSkip (gd rfl rfl rfl rfl) rfl rfl <| lSkip (gd rfl rfl rfl rfl) rfl rfl <| lSkip (gd rfl rfl rfl rfl) rfl rfl <| lSkip (gd rfl rfl rfl rfl) rfl rfl <| lSkip (gd rfl rfl rfl rfl) rfl rfl <| lSkip (gd rfl rfl rfl rfl) rfl rfl <| lSkip (gd rfl rfl rfl rfl) rfl rfl <| R rfl (pkT rfl rfl) <| gNil <| eMid (fun aa ww h => h.sub [1] (sS rfl <| sS rfl <| sN) (rR rfl rfl <| rN))
    · skip
      refine lKn 5 rfl h3 <| lRun (gd rfl rfl rfl rfl) rfl rfl (faB 1 rfl rfl Try.underlying66 rfl (by exact ti5)) <| lRun (gd rfl rfl rfl rfl) rfl rfl (ld 1 rfl rfl ((Foc.here).part (pt_api_Session_State _)) ty5 rfl) <| lRun (gd rfl rfl rfl rfl) rfl rfl (B.gtr rfl rfl) <| R rfl (pkF rfl rfl) <| R rfl (mv rfl) <| lSplit 11 rfl (fun h4 => ?_) (fun h4 => ?_)
      · skip
        refine lKn 9 rfl h4 <| lKn 10 rfl h4 <| lSkip (gd rfl rfl rfl rfl) rfl rfl <| lSkip (gd rfl rfl rfl rfl) rfl rfl <| lSkip (gd rfl rfl rfl rfl) rfl rfl <| R rfl (pkT rfl rfl) <| R rfl (mv rfl) <| lSkip (gd rfl rfl rfl rfl) rfl rfl <| lSkip (gd rfl rfl rfl rfl) rfl rfl <| lSkip (gd rfl rfl rfl rfl) rfl rfl <| R rfl (pkT rfl rfl) <| R rfl (mv rfl) <| lSkip (gd rfl rfl rfl rfl) rfl rfl <| lSkip (gd rfl rfl rfl rfl) rfl rfl <| lSkip (gd rfl rfl rfl rfl) rfl rfl <| lSkip (gd rfl rfl rfl rfl) rfl rfl <| lSkip (gd rfl rfl rfl rfl) rfl rfl <| lSkip (gd rfl rfl rfl rfl) rfl rfl <| lSkip (gd rfl rfl rfl rfl) rfl rfl <| R rfl (pkT rfl rfl) <| gNil <| eMid (fun aa ww h => h.sub [1] (sS rfl <| sS rfl <| sN) (rR rfl rfl <| rN))
      · skip
        refine lKn 9 rfl h4 <| lKn 10 rfl h4 <| lRun (gd rfl rfl rfl rfl) rfl rfl (faB 1 rfl rfl Try.underlying66 rfl (by exact ti3)) <| lRun (gd rfl rfl rfl rfl) rfl rfl (ld 1 rfl rfl ((Foc.here).part (pt_api_Session_Faults _)) ty3 rfl) <| lRun (gd rfl rfl rfl rfl) rfl rfl (I.lss rfl rfl) <| R rfl (pkF rfl rfl) <| R rfl (mv rfl) <| lSplit 16 rfl (fun h5 => ?_) (fun h5 => ?_)
        · skip
          refine lKn 14 rfl h5 <| lKn 15 rfl h5 <| lSkip (gd rfl rfl rfl rfl) rfl rfl <| lSkip (gd rfl rfl rfl rfl) rfl rfl <| lSkip (gd rfl rfl rfl rfl) rfl rfl <| R rfl (pkT rfl rfl) <| R rfl (mv rfl) <| lSkip (gd rfl rfl rfl rfl) rfl rfl <| lSkip (gd rfl rfl rfl rfl) rfl rfl <| lSkip (gd rfl rfl rfl rfl) rfl rfl <| lSkip (gd rfl rfl rfl rfl) rfl rfl <| lSkip (gd rfl rfl rfl rfl) rfl rfl <| lSkip (gd rfl rfl rfl rfl) rfl rfl <| lSkip (gd rfl rfl rfl rfl) rfl rfl <| R rfl (pkT rfl rfl) <| gNil <| eMid (fun aa ww h => h.sub [1] (sS rfl <| sS rfl <| sN) (rR rfl rfl <| rN))
        · skip
          refine lKn 14 rfl h5 <| lKn 15 rfl h5 <| lRun (gd rfl rfl rfl rfl) rfl rfl (faB 1 rfl rfl Try.underlying66 rfl (by exact ti3)) <| lRun (gd rfl rfl rfl rfl) rfl rfl (ld 1 rfl rfl ((Foc.here).part (pt_api_Session_Faults _)) ty3 rfl) <| lRun (gd rfl rfl rfl rfl) rfl rfl (I.gtr rfl rfl) <| R rfl (pkF rfl rfl) <| R rfl (mv rfl) <| lSplit 21 rfl (fun h6 => ?_) (fun h6 => ?_)
          · skip
            refine lKn 19 rfl h6 <| lKn 20 rfl h6 <| lSkip (gd rfl rfl rfl rfl) rfl rfl <| lSkip (gd rfl rfl rfl rfl) rfl rfl <| lSkip (gd rfl rfl rfl rfl) rfl rfl <| lSkip (gd rfl rfl rfl rfl) rfl rfl <| lSkip (gd rfl rfl rfl rfl) rfl rfl <| lSkip (gd rfl rfl rfl rfl) rfl rfl <| lSkip (gd rfl rfl rfl rfl) rfl rfl <| R rfl (pkT rfl rfl) <| gNil <| eMid (fun aa ww h => h.sub [1] (sS rfl <| sS rfl <| sN) (rR rfl rfl <| rN))
          · skip
            refine lKn 19 rfl h6 <| lKn 20 rfl h6 <| lRun (gd rfl rfl rfl rfl) rfl rfl (faB 1 rfl rfl Try.underlying66 rfl (by exact ti3)) <| lRun (gd rfl rfl rfl rfl) rfl rfl (ld 1 rfl rfl ((Foc.here).part (pt_api_Session_Faults _)) ty3 rfl) <| lRun (gd rfl rfl rfl rfl) rfl rfl (I.eql rfl rfl) <| lRun (gd rfl rfl rfl rfl) rfl rfl (faB 1 rfl rfl Try.underlying66 rfl (by exact ti5)) <| lRun (gd rfl rfl rfl rfl) rfl rfl (ld 1 rfl rfl ((Foc.here).part (pt_api_Session_State _)) ty5 rfl) <| lRun (gd rfl rfl rfl rfl) rfl rfl (B.eql rfl rfl) <| lRun (gd rfl rfl rfl rfl) rfl rfl (neB Try.underlying4 rfl rfl) <| R rfl (pkF rfl rfl) <| gNil <| eMid (fun aa ww h => h.sub [1] (sS rfl <| sS rfl <| sN) (rR rfl rfl <| rN))
  · skip
    refine gIf rfl rfl (fun h7 => ?_) (fun h7 => ?_)
    · skip
      refine gSeq <| gReg <| R rfl (asg rfl) <| gNil <| eThen <| gRet <| eTret <| eRet [] [] rfl (eE rfl <| eN) (rN)
    · skip
      refine gSkip <| eThen <| gSeq <| gMid (fun (s8 : Bool) aa ww => Sta (ctx 48 H [] w) [(47, .rd boolR s8)] [] aa ww) ?_ (fun s8 => ?_)
      · skip
        refine gReg <| R rfl (faB 1 rfl rfl Try.underlying66 rfl (by exact ti3)) <| R rfl (ld 1 rfl rfl ((Foc.here).part (pt_api_Session_Frames _)) ty3 rfl) <| R rfl (I.lss rfl rfl) <| R rfl (mv rfl) <| lSplit 33 rfl (fun h9 => ?_) (fun h9 => ?_)
        · skip
          refine lKn 32 rfl h9 <| lSkip (gd rfl rfl rfl rfl) rfl rfl <| lSkip (gd rfl rfl rfl rfl) rfl rfl <| lSkip (gd rfl rfl rfl rfl) rfl rfl <| R rfl (pkT rfl rfl) <| R rfl (mv rfl) <| lSkip (gd rfl rfl rfl rfl) rfl rfl <| lSkip (gd rfl rfl rfl rfl) rfl rfl <| lSkip (gd rfl rfl rfl rfl) rfl rfl <| R rfl (pkT rfl rfl) <| R rfl (mv rfl) <| lSkip (gd rfl rfl rfl rfl) rfl rfl <| lSkip (gd rfl rfl rfl rfl) rfl rfl <| lSkip (gd rfl rfl rfl rfl) rfl rfl <| R rfl (pkT rfl rfl) <| gNil <| eMid (fun aa ww h => h.sub [] (sS rfl <| sN) (rN))
        · skip
          refine lKn 32 rfl h9 <| lRun (gd rfl rfl rfl rfl) rfl rfl (faB 1 rfl rfl Try.underlying66 rfl (by exact ti3)) <| lRun (gd rfl rfl rfl rfl) rfl rfl (ld 1 rfl rfl ((Foc.here).part (pt_api_Session_Frames _)) ty3 rfl) <| lRun (gd rfl rfl rfl rfl) rfl rfl (I.gtr rfl rfl) <| R rfl (pkF rfl rfl) <| R rfl (mv rfl) <| lSplit 38 rfl (fun h10 => ?_) (fun h10 => ?_)
          · skip
            refine lKn 36 rfl h10 <| lKn 37 rfl h10 <| lSkip (gd rfl rfl rfl rfl) rfl rfl <| lSkip (gd rfl rfl rfl rfl) rfl rfl <| lSkip (gd rfl rfl rfl rfl) rfl rfl <| R rfl (pkT rfl rfl) <| R rfl (mv rfl) <| lSkip (gd rfl rfl rfl rfl) rfl rfl <| lSkip (gd rfl rfl rfl rfl) rfl rfl <| lSkip (gd rfl rfl rfl rfl) rfl rfl <| R rfl (pkT rfl rfl) <| gNil <| eMid (fun aa ww h => h.sub [] (sS rfl <| sN) (rN))
          · skip
            refine lKn 36 rfl h10 <| lKn 37 rfl h10 <| lRun (gd rfl rfl rfl rfl) rfl rfl (faB 1 rfl rfl Try.underlying66 rfl (by exact ti3)) <| lRun (gd rfl rfl rfl rfl) rfl rfl (ld 1 rfl rfl ((Foc.here).part (pt_api_Session_Ops _)) ty3 rfl) <| lRun (gd rfl rfl rfl rfl) rfl rfl (I.lss rfl rfl) <| R rfl (pkF rfl rfl) <| R rfl (mv rfl) <| lSplit 43 rfl (fun h11 => ?_) (fun h11 => ?_)
            · skip
              refine lKn 41 rfl h11 <| lKn 42 rfl h11 <| lSkip (gd rfl rfl rfl rfl) rfl rfl <| lSkip (gd rfl rfl rfl rfl) rfl rfl <| lSkip (gd rfl rfl rfl rfl) rfl rfl <| R rfl (pkT rfl rfl) <| gNil <| eMid (fun aa ww h => h.sub [] (sS rfl <| sN) (rN))
            · skip
              refine lKn 41 rfl h11 <| lKn 42 rfl h11 <| lRun (gd rfl rfl rfl rfl) rfl rfl (faB 1 rfl rfl Try.underlying66 rfl (by exact ti3)) <| lRun (gd rfl rfl rfl rfl) rfl rfl (ld 1 rfl rfl ((Foc.here).part (pt_api_Session_Ops _)) ty3 rfl) <| lRun (gd rfl rfl rfl rfl) rfl rfl (I.gtr rfl rfl) <| R rfl (pkF rfl rfl) <| gNil <| eMid (fun aa ww h => h.sub [] (sS rfl <| sN) (rN))
      · skip
        refine gIf rfl rfl (fun h12 => ?_) (fun h12 => ?_)
        · skip
          refine gSeq <| gReg <| R rfl (asg rfl) <| gNil <| eThen <| gRet <| eTret <| eRet [] [] rfl (eE rfl <| eN) (rN)
        · skip
          refine gSkip <| eThen <| gSeq <| gReg <| R rfl (asg rfl) <| gNil <| eThen <| gRet <| eRet [] [] rfl (eE rfl <| eN) (rN)


def braidref07_Listed (a0 : UInt8) : Option (Bool) :=
  if a0 == 2 then
    some true
  else
    if a0 == 3 then
      some true
    else
      some (a0 == 4)
set_option maxRecDepth 100000 in
theorem braidref07_Listed_ok (a0 : UInt8) : Spec Try.prog 93 [.rd u8R a0] [] (braidref07_Listed a0) (fun r nv => ⟨[.rd boolR r], []⟩) := by
  refine spec 13 Try.func93 rfl rfl rfl fun H w => ?_
  refine gSeq <| gReg <| R rfl (asg rfl) <| gNil <| eThen <| gSeq <| gReg <| R rfl (mv rfl) <| R rfl (B.eql rfl rfl) <| R rfl (mv rfl) <| lSplit 5 rfl (fun h1 => ?_) (fun h1 => ?_)
  · skip
    refine lKn 4 rfl h1 <| lSkip (gd rfl rfl rfl rfl) rfl rfl <| lSkip (gd rfl rfl rfl rfl) rfl rfl <| R rfl (pkT rfl rfl) <| R rfl (mv rfl) <| lSkip (gd rfl rfl rfl rfl) rfl rfl <| lSkip (gd rfl rfl rfl rfl) rfl rfl <| R rfl (pkT rfl rfl) <| R rfl (asg rfl) <| gNil <| eThen <| gRet <| eRet [] [] rfl (eE rfl <| eN) (rN)
  · skip
    refine lKn 4 rfl h1 <| lRun (gd rfl rfl rfl rfl) rfl rfl (mv rfl) <| lRun (gd rfl rfl rfl rfl) rfl rfl (B.eql rfl rfl) <| R rfl (pkF rfl rfl) <| R rfl (mv rfl) <| lSplit 9 rfl (fun h2 => ?_) (fun h2 => ?_)
    · skip
      refine lKn 7 rfl h2 <| lKn 8 rfl h2 <| lSkip (gd rfl rfl rfl rfl) rfl rfl <| lSkip (gd rfl rfl rfl rfl) rfl rfl <| R rfl (pkT rfl rfl) <| R rfl (asg rfl) <| gNil <| eThen <| gRet <| eRet [] [] rfl (eE rfl <| eN) (rN)
    · skip
      refine lKn 7 rfl h2 <| lKn 8 rfl h2 <| lRun (gd rfl rfl rfl rfl) rfl rfl (mv rfl) <| lRun (gd rfl rfl rfl rfl) rfl rfl (B.eql rfl rfl) <| R rfl (pkF rfl rfl) <| R rfl (asg rfl) <| gNil <| eThen <| gRet <| eRet [] [] rfl (eE rfl <| eN) (rN)

def braidref01_Cmp_L0 (a0 : Vector UInt8 32) (a1 : Vector UInt8 32) (s4 : Int) : Option (Sum (Sum Int Unit) Int) :=
  if decide (s4 < 32) then
    vidx a0 s4 >>= fun x6 =>
    vidx a1 s4 >>= fun x8 =>
    if decide (x6 < x8) then
      some (.inl (.inl (-1)))
    else
      vidx a0 s4 >>= fun x11 =>
      vidx a1 s4 >>= fun x13 =>
      if decide (x13 < x11) then
        some (.inl (.inl 1))
      else
        some (.inr (w64 (s4 + 1)))
  else
    some (.inl (.inr ()))
def braidref01_Cmp (a0 : Vector UInt8 32) (a1 : Vector UInt8 32) : Option (Int) :=
  orRet (iter (braidref01_Cmp_L0 a0 a1) 0) fun s3 =>
  some 0
set_option maxRecDepth 100000 in
theorem braidref01_Cmp_ok (a0 : Vector UInt8 32) (a1 : Vector UInt8 32) : Spec Try.prog 116 [.rd (arrR 32 u8R) a0, .rd (arrR 32 u8R) a1] [] (braidref01_Cmp a0 a1) (fun r nv => ⟨[.rd i64R r], []⟩) := by
  refine spec 24 Try.func116 rfl rfl rfl fun H w => ?_
  refine gSeq <| gReg <| Eb rfl (bx 1 rfl) fun v1 => Eb rfl (bx 2 rfl) fun v2 => R rfl (asg rfl) <| gNil <| eThen <| gMidR (fun (s3 : Unit) aa ww => Sta (ctx 24 H [] w) [] [] aa ww) ?_ (fun s3 => ?_)
  · skip
    refine gSeq <| gReg <| R rfl (asg rfl) <| gNil <| eThen <| gLoop (fun (s4 : Int) aa ww => Sta (ctx 24 H [] w) [(2, .val (ptrTo v1 0)), (3, .val (ptrTo v2 0)), (5, .rd i64R s4)] [(1, some (v1, .box 102 [.rd (arrR 32 u8R) a0])), (2, some (v2, .box 102 [.rd (arrR 32 u8R) a1]))] aa ww) (fun aa ww h => h.sub [1, 2] (sS rfl <| sS rfl <| sS rfl <| sN) (rR rfl rfl <| rR rfl rfl <| rN)) (fun s4 => ?_)
    refine gSeq <| gSeq <| gReg <| R rfl (mv rfl) <| R rfl (I.lss rfl rfl) <| gNil <| eThen <| gIf rfl rfl (fun h5 => ?_) (fun h5 => ?_)
    · skip
      refine gSkip <| eThen <| gSeq <| gBlk <| gSeq <| gSeq <| gRegQ mixed (by kernel_rfl) <| Rq rfl (mv rfl) <| qBind fun x6 h7 => Rq rfl (ixB 1 rfl rfl rfl h7 Try.underlying102 ti5) <| Rq rfl (ld 1 rfl rfl ((Foc.here).part (.el h7)) ty5 rfl) <| Rq rfl (mv rfl) <| qBind fun x8 h9 => Rq rfl (ixB 2 rfl rfl rfl h9 Try.underlying102 ti5) <| Rq rfl (ld 2 rfl rfl ((Foc.here).part (.el h9)) ty5 rfl) <| Rq rfl (B.lss rfl rfl) <| qNil <| eThen <| gIf rfl rfl (fun h10 => ?_) (fun h10 => ?_)
      · skip
        refine gSeq <| gReg <| R rfl (asg rfl) <| gNil <| eThen <| gRet <| eTret <| eBret <| eTret <| eLret <| eMret <| eRet [] [] rfl (eE rfl <| eN) (rN)
      · skip
        refine gSkip <| eThen <| gSeq <| gRegQ mixed (by kernel_rfl) <| Rq rfl (mv rfl) <| qBind fun x11 h12 => Rq rfl (ixB 1 rfl rfl rfl h12 Try.underlying102 ti5) <| Rq rfl (ld 1 rfl rfl ((Foc.here).part (.el h12)) ty5 rfl) <| Rq rfl (mv rfl) <| qBind fun x13 h14 => Rq rfl (ixB 2 rfl rfl rfl h14 Try.underlying102 ti5) <| Rq rfl (ld 2 rfl rfl ((Foc.here).part (.el h14)) ty5 rfl) <| Rq rfl (B.gtr rfl rfl) <| qNil <| eThen <| gIf rfl rfl (fun h15 => ?_) (fun h15 => ?_)
        · skip
          refine gSeq <| gReg <| R rfl (asg rfl) <| gNil <| eThen <| gRet <| eBret <| eTret <| eLret <| eMret <| eRet [] [] rfl (eE rfl <| eN) (rN)
        · skip
          refine gSkip <| eBlk <| eThen <| gReg <| R rfl (mv rfl) <| R rfl (I.add rfl rfl) <| R rfl (asg rfl) <| gNil <| eNext (fun aa ww h => h.sub [1, 2] (sS rfl <| sS rfl <| sS rfl <| sN) (rR rfl rfl <| rR rfl rfl <| rN))
    · skip
      refine gExit <| eTexit <| eLeave <| eMidR (fun aa ww h => h.sub [] (sN) (rN))
  · skip
    refine gSeq <| gReg <| R rfl (asg rfl) <| gNil <| eThen <| gRet <| eRet [] [] rfl (eE rfl <| eN) (rN)

def braidref04_Rising_L0 (a0 : List (Vector UInt8 32)) (s2 : Int) : Option (Sum (Sum Bool Unit) Int) :=
  if decide (s2 < (a0.length : Int)) then
    idx a0 (w64 (s2 - 1)) >>= fun x4 =>
    idx a0 s2 >>= fun x6 =>
    braidref01_Cmp x4 x6 >>= fun r8 =>
    if decide (0 ≤ r8) then
      some (.inl (.inl false))
    else
      some (.inr (w64 (s2 + 1)))
  else
    some (.inl (.inr ()))
def braidref04_Rising (a0 : List (Vector UInt8 32)) : Option (Bool) :=
  orRet (iter (braidref04_Rising_L0 a0) 1) fun s1 =>
  some true
set_option maxRecDepth 100000 in
theorem braidref04_Rising_ok (a0 : List (Vector UInt8 32)) : Spec Try.prog 60 [.rd (sliceR (arrR 32 u8R)) a0] [] (braidref04_Rising a0) (fun r nv => ⟨[.rd boolR r], []⟩) := by
  refine spec 21 Try.func60 rfl rfl rfl fun H w => ?_
  refine gSeq <| gReg <| R rfl (asg rfl) <| gNil <| eThen <| gMidR (fun (s1 : Unit) aa ww => Sta (ctx 21 H [] w) [] [] aa ww) ?_ (fun s1 => ?_)
  · skip
    refine gSeq <| gReg <| R rfl (asg rfl) <| gNil <| eThen <| gLoop (fun (s2 : Int) aa ww => Sta (ctx 21 H [] w) [(0, .rd (sliceR (arrR 32 u8R)) a0), (3, .rd i64R s2)] [] aa ww) (fun aa ww h => h.sub [] (sS rfl <| sS rfl <| sN) (rN)) (fun s2 => ?_)
    refine gSeq <| gSeq <| gReg <| R rfl (mv rfl) <| R rfl (mv rfl) <| R rfl (len' rfl .rd rfl Try.underlying83) <| R rfl (I.lss rfl rfl) <| gNil <| eThen <| gIf rfl rfl (fun h3 => ?_) (fun h3 => ?_)
    · skip
      refine gSkip <| eThen <| gSeq <| gBlk <| gSeq <| gRegH [] mixed rfl rfl <| hTake 0 rfl (by kernel_rfl) (by kernel_rfl) (by kernel_rfl) (gd0 rfl) rfl rfl (mv rfl) <| hTake 1 rfl (by kernel_rfl) (by kernel_rfl) (by kernel_rfl) (gd0 rfl) rfl rfl (mv rfl) <| hTake 2 rfl (by kernel_rfl) (by kernel_rfl) (by kernel_rfl) (gd0 rfl) rfl rfl (I.sub rfl rfl) <| hBind fun x4 h5 => hTake 3 rfl (by kernel_rfl) (by kernel_rfl) (by kernel_rfl) (gd0 rfl) rfl rfl (ixR rfl rfl h5 Try.underlying83 ti102 rfl) <| hTake 4 rfl (by kernel_rfl) (by kernel_rfl) (by kernel_rfl) (gd0 rfl) rfl rfl (ldR rfl ty102) <| hTake 5 rfl (by kernel_rfl) (by kernel_rfl) (by kernel_rfl) (gd0 rfl) rfl rfl (mv rfl) <| hTake 6 rfl (by kernel_rfl) (by kernel_rfl) (by kernel_rfl) (gd0 rfl) rfl rfl (mv rfl) <| hBind fun x6 h7 => hTake 7 rfl (by kernel_rfl) (by kernel_rfl) (by kernel_rfl) (gd0 rfl) rfl rfl (ixR rfl rfl h7 Try.underlying83 ti102 rfl) <| hTake 8 rfl (by kernel_rfl) (by kernel_rfl) (by kernel_rfl) (gd0 rfl) rfl rfl (ldR rfl ty102) <| hCallF 9 [] [] rfl (by kernel_rfl) rfl (gd0 rfl) rfl Try.func116 rfl rfl (braidref01_Cmp_ok _ _) (aQ rfl <| aQ rfl <| aN) rN rfl (fun _ _ => flat_num) fun r8 n9 => hTake 10 rfl (by kernel_rfl) (by kernel_rfl) (by kernel_rfl) (gd0 rfl) rfl rfl (I.geq rfl rfl) <| hDone (by kernel_rfl) <| eThen <| gIf rfl rfl (fun h10 => ?_) (fun h10 => ?_)
      · skip
        refine gSeq <| gReg <| R rfl (asg rfl) <| gNil <| eThen <| gRet <| eBret <| eTret <| eLret <| eMret <| eRet [] [] rfl (eE rfl <| eN) (rN)
      · skip
        refine gSkip <| eBlk <| eThen <| gReg <| R rfl (mv rfl) <| R rfl (I.add rfl rfl) <| R rfl (asg rfl) <| gNil <| eNext (fun aa ww h => h.sub [] (sS rfl <| sS rfl <| sN) (rN))
    · skip
      refine gExit <| eTexit <| eLeave <| eMidR (fun aa ww h => h.sub [] (sN) (rN))
  · skip
    refine gSeq <| gReg <| R rfl (asg rfl) <| gNil <| eThen <| gRet <| eRet [] [] rfl (eE rfl <| eN) (rN)

def braidref04_Number_L0 (s4 : UInt64 × (List UInt8)) : Option (Sum ((List UInt8)) (UInt64 × (List UInt8))) :=
  if decide (0 < s4.1) then
    app 1 s4.2 [(s4.1 % 256).toUInt8] >>= fun x8 =>
    some (.inr (s4.1 / 256, x8))
  else
    some (.inl s4.2)
def braidref04_Number_L2 (s3 : (List UInt8)) (s15 : (List UInt8) × Int) : Option (Sum ((List UInt8)) ((List UInt8) × Int)) :=
  if decide (0 ≤ s15.2) then
    idx s3 s15.2 >>= fun x18 =>
    app 1 s15.1 [x18] >>= fun x21 =>
    some (w64 (s15.2 - 1)) >>= fun y24 =>
    some (.inr (x21, y24))
  else
    some (.inl s15.1)
def braidref04_Number (a0 : UInt64) : Option ((List UInt8)) :=
  if decide (a0 ≤ 247) then
    some [a0.toUInt8]
  else
    (iter (braidref04_Number_L0) (a0, [])) >>= fun s3 =>
    (some (w64 ((s3.length : Int) - 1)) >>= fun y14 =>
    iter (braidref04_Number_L2 s3) ([UInt8.ofInt (w64 (247 + (s3.length : Int)))], y14)) >>= fun s13 =>
    some s13
set_option maxRecDepth 100000 in
theorem braidref04_Number_ok (a0 : UInt64) : Spec Try.prog 32 [.rd u64R a0] [] (braidref04_Number a0) (fun r nv => ⟨[.val (nv 0)], [(100, some (nv 0, .list u8R 5 r))]⟩) := by
  refine spec 41 Try.func32 rfl rfl rfl fun H w => ?_
  refine gSeq <| gReg <| R rfl (asg rfl) <| gNil <| eThen <| gSeq <| gSeq <| gReg <| R rfl (mv rfl) <| R rfl (U.leq rfl rfl) <| gNil <| eThen <| gIf rfl rfl (fun h1 => ?_) (fun h1 => ?_)
  · skip
    refine gSeq <| gReg <| R rfl (mv rfl) <| R rfl (U.toB rfl Try.underlying31 Try.underlying5) <| Ef rfl (lit (R := u8R) ([a0.toUInt8] : List UInt8) 1 (pP rfl rfl <| pN) rfl Try.underlying32 ti5 rfl rfl) fun v2 => R rfl (asg rfl) <| gNil <| eThen <| gRet <| eTret <| eRet [v2] [1] rfl (eE rfl <| eN) (rR rfl rfl <| rN)
  · skip
    refine gSkip <| eThen <| gSeq <| gReg <| R rfl (asg rfl) <| gNil <| eThen <| gMid (fun (s3 : (List UInt8)) aa ww => ∃ nv : Nat → Value, Sta (ctx 41 H [] w) [(3, .val (nv 0))] [(3, some ((nv 0), .list u8R 5 s3))] aa ww) ?_ (fun s3 => ?_)
    · skip
      refine gNew u8R 5 6 <| gLoop (fun (s4 : UInt64 × (List UInt8)) aa ww => ∃ nv : Nat → Value, Sta (ctx 41 H [] w) [(0, .rd u64R s4.1), (3, .val (nv 0))] [(5, some ((nv 0), .list u8R 5 s4.2))] aa ww) (fun aa ww h => ⟨nvl [(.slice none 0 0)], h.sub [6] (sS rfl <| sS rfl <| sN) (rR rfl rfl <| rN)⟩) (fun s4 => ?_)
      refine gEx fun n5 => gSeq <| gSeq <| gReg <| R rfl (mv rfl) <| R rfl (U.gtr rfl rfl) <| gNil <| eThen <| gIf rfl rfl (fun h6 => ?_) (fun h6 => ?_)
      · skip
        refine gSkip <| eThen <| gBlk <| gSeq <| gReg <| R rfl (mv rfl) <| R rfl (mv rfl) <| R rfl (U.rem rfl rfl (by decide)) <| R rfl (U.toB rfl Try.underlying31 Try.underlying5) <| Ef rfl (lit (R := u8R) ([(s4.1 % 256).toUInt8] : List UInt8) 7 (pP rfl rfl <| pN) rfl Try.underlying32 ti5 rfl rfl) fun v7 => lBind fun x8 h9 => Ef rfl (apn 5 rfl rfl rfl (.own 7 rfl) h9 Try.underlying32 ti5 rfl rfl rfl) fun v10 => R rfl (asg rfl) <| gNil <| eThen <| gReg <| R rfl (mv rfl) <| R rfl (U.quo rfl rfl (by decide)) <| R rfl (asg rfl) <| gNil <| eBlk <| eNext (fun aa ww h => ⟨nvl [v10], h.sub [5] (sS rfl <| sS rfl <| sN) (rR rfl rfl <| rN)⟩)
      · skip
        refine gExit <| eTexit <| eLeave <| eMid (fun aa ww h => ⟨nvl [(n5 0)], h.sub [5] (sS rfl <| sN) (rR rfl rfl <| rN)⟩)
    · skip
      refine gEx fun n11 => gSeq <| gReg <| R rfl (mv rfl) <| R rfl (len' rfl (.own 3 rfl) rfl Try.underlying32) <| R rfl (I.add rfl rfl) <| R rfl (I.toB rfl Try.underlying3 Try.underlying5) <| Ef rfl (lit (R := u8R) ([UInt8.ofInt (w64 (247 + (s3.length : Int)))] : List UInt8) 8 (pP rfl rfl <| pN) rfl Try.underlying32 ti5 rfl rfl) fun v12 => R rfl (asg rfl) <| gNil <| eThen <| gMid (fun (s13 : (List UInt8)) aa ww => ∃ nv : Nat → Value, Sta (ctx 41 H [] w) [(4, .val (nv 0))] [(8, some ((nv 0), .list u8R 5 s13))] aa ww) ?_ (fun s13 => ?_)
      · skip
        refine gSeq <| gReg <| R rfl (mv rfl) <| R rfl (len' rfl (.own 3 rfl) rfl Try.underlying32) <| R rfl (I.sub rfl rfl) <| R rfl (asg rfl) <| lName 5 rfl fun y14 => gNil <| eThen <| gLoop (fun (s15 : (List UInt8) × Int) aa ww => ∃ nv : Nat → Value, Sta (ctx 41 H [] w) [(3, .val (n11 0)), (4, .val (nv 0)), (5, .rd i64R s15.2)] [(3, some ((n11 0), .list u8R 5 s3)), (8, some ((nv 0), .list u8R 5 s15.1))] aa ww) (fun aa ww h => ⟨nvl [v12], h.sub [3, 8] (sS rfl <| sS rfl <| sS rfl <| sN) (rR rfl rfl <| rR rfl rfl <| rN)⟩) (fun s15 => ?_)
        refine gEx fun n16 => gSeq <| gSeq <| gReg <| R rfl (mv rfl) <| R rfl (I.geq rfl rfl) <| gNil <| eThen <| gIf rfl rfl (fun h17 => ?_) (fun h17 => ?_)
        · skip
          refine gSkip <| eThen <| gSeq <| gBlk <| gReg <| R rfl (mv rfl) <| R rfl (mv rfl) <| R rfl (mv rfl) <| lBind fun x18 h19 => R rfl (ixO 3 rfl rfl rfl h19 Try.underlying32 ti5) <| R rfl (ld 3 rfl rfl (Foc.el h19) ty5 rfl) <| Ef rfl (lit (R := u8R) ([x18] : List UInt8) 9 (pP rfl rfl <| pN) rfl Try.underlying32 ti5 rfl rfl) fun v20 => lBind fun x21 h22 => Ef rfl (apn 8 rfl rfl rfl (.own 9 rfl) h22 Try.underlying32 ti5 rfl rfl rfl) fun v23 => R rfl (asg rfl) <| gNil <| eBlk <| eThen <| gReg <| R rfl (mv rfl) <| R rfl (I.sub rfl rfl) <| R rfl (asg rfl) <| lName 5 rfl fun y24 => gNil <| eNext (fun aa ww h => ⟨nvl [v23], h.sub [3, 8] (sS rfl <| sS rfl <| sS rfl <| sN) (rR rfl rfl <| rR rfl rfl <| rN)⟩)
        · skip
          refine gExit <| eTexit <| eLeave <| eMid (fun aa ww h => ⟨nvl [(n16 0)], h.sub [8] (sS rfl <| sN) (rR rfl rfl <| rN)⟩)
      · skip
        refine gEx fun n25 => gSeq <| gReg <| R rfl (mv rfl) <| R rfl (asg rfl) <| gNil <| eThen <| gRet <| eRet [(n25 0)] [8] rfl (eE rfl <| eN) (rR rfl rfl <| rN)

def braidref04_List_L0 (a0 : List (Vector UInt8 32)) (s4 : (List UInt8) × Int) : Option (Sum ((List UInt8)) ((List UInt8) × Int)) :=
  if decide (s4.2 < (a0.length : Int)) then
    idx a0 s4.2 >>= fun x7 =>
    app 1 s4.1 x7.toList >>= fun x9 =>
    some (w64 (s4.2 + 1)) >>= fun y12 =>
    some (.inr (x9, y12))
  else
    some (.inl s4.1)
def braidref04_List (a0 : List (Vector UInt8 32)) : Option ((List UInt8)) :=
  braidref04_Number (UInt64.ofInt (a0.length : Int)) >>= fun r1 =>
  (iter (braidref04_List_L0 a0) (r1, 0)) >>= fun s3 =>
  some s3
set_option maxRecDepth 100000 in
theorem braidref04_List_ok (a0 : List (Vector UInt8 32)) : Spec Try.prog 118 [.rd (sliceR (arrR 32 u8R)) a0] [] (braidref04_List a0) (fun r nv => ⟨[.val (nv 0)], [(100, some (nv 0, .list u8R 5 r))]⟩) := by
  refine spec 22 Try.func118 rfl rfl rfl fun H w => ?_
  refine gSeq <| gReg <| R rfl (asg rfl) <| gNil <| eThen <| gSeq <| gReg <| R rfl (mv rfl) <| R rfl (len' rfl .rd rfl Try.underlying83) <| R rfl (I.toU rfl Try.underlying3 Try.underlying31) <| call [] [(100, 1)] rfl Try.func32 rfl rfl (braidref04_Number_ok _) (aQ rfl <| aN) rN fun r1 n2 => R rfl (asg rfl) <| gNil <| eThen <| gMid (fun (s3 : (List UInt8)) aa ww => ∃ nv : Nat → Value, Sta (ctx 22 H [] w) [(3, .val (nv 0))] [(1, some ((nv 0), .list u8R 5 s3))] aa ww) ?_ (fun s3 => ?_)
  · skip
    refine gSeq <| gReg <| R rfl (asg rfl) <| gNil <| eThen <| gLoop (fun (s4 : (List UInt8) × Int) aa ww => ∃ nv : Nat → Value, Sta (ctx 22 H [] w) [(0, .rd (sliceR (arrR 32 u8R)) a0), (3, .val (nv 0)), (4, .rd i64R s4.2)] [(1, some ((nv 0), .list u8R 5 s4.1))] aa ww) (fun aa ww h => ⟨nvl [(n2 0)], h.sub [1] (sS rfl <| sS rfl <| sS rfl <| sN) (rR rfl rfl <| rN)⟩) (fun s4 => ?_)
    refine gEx fun n5 => gSeq <| gSeq <| gReg <| R rfl (mv rfl) <| R rfl (mv rfl) <| R rfl (len' rfl .rd rfl Try.underlying83) <| R rfl (I.lss rfl rfl) <| gNil <| eThen <| gIf rfl rfl (fun h6 => ?_) (fun h6 => ?_)
    · skip
      refine gSkip <| eThen <| gSeq <| gBlk <| gReg <| R rfl (mv rfl) <| R rfl (mv rfl) <| R rfl (mv rfl) <| lBind fun x7 h8 => R rfl (ixR rfl rfl h8 Try.underlying83 ti102 rfl) <| R rfl (cutV rfl Try.underlying102 ti5 rfl rfl rfl) <| lBind fun x9 h10 => Ef rfl (apn 1 rfl rfl rfl .rd h10 Try.underlying32 ti5 rfl rfl rfl) fun v11 => R rfl (asg rfl) <| gNil <| eBlk <| eThen <| gReg <| R rfl (mv rfl) <| R rfl (I.add rfl rfl) <| R rfl (asg rfl) <| lName 4 rfl fun y12 => gNil <| eNext (fun aa ww h => ⟨nvl [v11], h.sub [1] (sS rfl <| sS rfl <| sS rfl <| sN) (rR rfl rfl <| rN)⟩)
    · skip
      refine gExit <| eTexit <| eLeave <| eMid (fun aa ww h => ⟨nvl [(n5 0)], h.sub [1] (sS rfl <| sN) (rR rfl rfl <| rN)⟩)
  · skip
    refine gEx fun n13 => gSeq <| gReg <| R rfl (mv rfl) <| R rfl (asg rfl) <| gNil <| eThen <| gRet <| eRet [(n13 0)] [1] rfl (eE rfl <| eN) (rR rfl rfl <| rN)


def braidref04_Text (a0 : List UInt8) : Option ((List UInt8)) :=
  braidref04_Number (UInt64.ofInt (a0.length : Int)) >>= fun r1 =>
  app 1 r1 a0 >>= fun x3 =>
  some x3
set_option maxRecDepth 100000 in
theorem braidref04_Text_ok (a0 : List UInt8) : Spec Try.prog 117 [.rd (sliceR u8R) a0] [] (braidref04_Text a0) (fun r nv => ⟨[.val (nv 0)], [(100, some (nv 0, .list u8R 5 r))]⟩) := by
  refine spec 9 Try.func117 rfl rfl rfl fun H w => ?_
  refine gSeq <| gReg <| R rfl (asg rfl) <| gNil <| eThen <| gSeq <| gReg <| R rfl (mv rfl) <| R rfl (len' rfl .rd rfl Try.underlying32) <| R rfl (I.toU rfl Try.underlying3 Try.underlying31) <| call [] [(100, 1)] rfl Try.func32 rfl rfl (braidref04_Number_ok _) (aQ rfl <| aN) rN fun r1 n2 => R rfl (mv rfl) <| lBind fun x3 h4 => Ef rfl (apn 1 rfl rfl rfl .rd h4 Try.underlying32 ti5 rfl rfl rfl) fun v5 => R rfl (asg rfl) <| gNil <| eThen <| gRet <| eRet [v5] [1] rfl (eE rfl <| eN) (rR rfl rfl <| rN)

def braidref07_Bytes_L0 (a0 : api_Frame) (s23 : (List UInt8) × Int) : Option (Sum ((List UInt8)) ((List UInt8) × Int)) :=
  if decide (s23.2 < (a0.Ops.length : Int)) then
    idx a0.Ops s23.2 >>= fun x26 =>
    braidref04_Text x26 >>= fun r28 =>
    app 1 s23.1 r28 >>= fun x30 =>
    some (w64 (s23.2 + 1)) >>= fun y33 =>
    some (.inr (x30, y33))
  else
    some (.inl s23.1)
def braidref07_Bytes (a0 : api_Frame) : Option ((List UInt8)) :=
  braidref07_Listed a0.Kind >>= fun r3 =>
  if r3 then
    braidref04_List a0.IDs >>= fun r6 =>
    app 1 [a0.Kind] r6 >>= fun x8 =>
    some x8
  else
    if a0.Kind != 5 then
      braidref04_Number a0.N >>= fun r12 =>
      app 1 [a0.Kind] r12 >>= fun x14 =>
      some x14
    else
      braidref04_Number (UInt64.ofInt (a0.Ops.length : Int)) >>= fun r17 =>
      app 1 [a0.Kind] r17 >>= fun x19 =>
      (iter (braidref07_Bytes_L0 a0) (x19, 0)) >>= fun s22 =>
      some s22
set_option maxRecDepth 100000 in
theorem braidref07_Bytes_ok (a0 : api_Frame) : Spec Try.prog 120 [.rd R_api_Frame a0] [] (braidref07_Bytes a0) (fun r nv => ⟨[.val (nv 0)], [(100, some (nv 0, .list u8R 5 r))]⟩) := by
  refine spec 47 Try.func120 rfl rfl rfl fun H w => ?_
  refine gSeq <| gReg <| Eb rfl (bx 1 rfl) fun v1 => R rfl (asg rfl) <| gNil <| eThen <| gSeq <| gReg <| R rfl (faB 1 rfl rfl Try.underlying105 rfl (by exact ti5)) <| R rfl (ld 1 rfl rfl ((Foc.here).part (pt_api_Frame_Kind _)) ty5 rfl) <| Ef rfl (lit (R := u8R) ([a0.Kind] : List UInt8) 2 (pP rfl rfl <| pN) rfl Try.underlying32 ti5 rfl rfl) fun v2 => R rfl (asg rfl) <| gNil <| eThen <| gSeq <| gSeq <| gReg <| R rfl (faB 1 rfl rfl Try.underlying105 rfl (by exact ti5)) <| R rfl (ld 1 rfl rfl ((Foc.here).part (pt_api_Frame_Kind _)) ty5 rfl) <| call [] [] rfl Try.func93 rfl rfl (braidref07_Listed_ok _) (aQ rfl <| aN) rN fun r3 n4 => gNil <| eThen <| gIf rfl rfl (fun h5 => ?_) (fun h5 => ?_)
  · skip
    refine gSeq <| gReg <| R rfl (mv rfl) <| R rfl (faB 1 rfl rfl Try.underlying105 rfl (by exact ti83)) <| R rfl (ld 1 rfl rfl ((Foc.here).part (pt_api_Frame_IDs _)) ty83 rfl) <| call [] [(100, 3)] rfl Try.func118 rfl rfl (braidref04_List_ok _) (aQ rfl <| aN) rN fun r6 n7 => lBind fun x8 h9 => Ef rfl (apn 2 rfl rfl rfl (.own 3 rfl) h9 Try.underlying32 ti5 rfl rfl rfl) fun v10 => R rfl (asg rfl) <| gNil <| eThen <| gRet <| eTret <| eRet [v10] [2] rfl (eE rfl <| eN) (rR rfl rfl <| rN)
  · skip
    refine gSkip <| eThen <| gSeq <| gSeq <| gReg <| R rfl (faB 1 rfl rfl Try.underlying105 rfl (by exact ti5)) <| R rfl (ld 1 rfl rfl ((Foc.here).part (pt_api_Frame_Kind _)) ty5 rfl) <| R rfl (B.neq rfl rfl) <| gNil <| eThen <| gIf rfl rfl (fun h11 => ?_) (fun h11 => ?_)
    · skip
      refine gSeq <| gReg <| R rfl (mv rfl) <| R rfl (faB 1 rfl rfl Try.underlying105 rfl (by exact ti31)) <| R rfl (ld 1 rfl rfl ((Foc.here).part (pt_api_Frame_N _)) ty31 rfl) <| call [] [(100, 4)] rfl Try.func32 rfl rfl (braidref04_Number_ok _) (aQ rfl <| aN) rN fun r12 n13 => lBind fun x14 h15 => Ef rfl (apn 2 rfl rfl rfl (.own 4 rfl) h15 Try.underlying32 ti5 rfl rfl rfl) fun v16 => R rfl (asg rfl) <| gNil <| eThen <| gRet <| eTret <| eRet [v16] [2] rfl (eE rfl <| eN) (rR rfl rfl <| rN)
    · skip
      refine gSkip <| eThen <| gSeq <| gReg <| R rfl (mv rfl) <| R rfl (faB 1 rfl rfl Try.underlying105 rfl (by exact ti103)) <| R rfl (ld 1 rfl rfl ((Foc.here).part (pt_api_Frame_Ops _)) ty103 rfl) <| R rfl (len' rfl .rd rfl Try.underlying103) <| R rfl (I.toU rfl Try.underlying3 Try.underlying31) <| call [] [(100, 5)] rfl Try.func32 rfl rfl (braidref04_Number_ok _) (aQ rfl <| aN) rN fun r17 n18 => lBind fun x19 h20 => Ef rfl (apn 2 rfl rfl rfl (.own 5 rfl) h20 Try.underlying32 ti5 rfl rfl rfl) fun v21 => R rfl (asg rfl) <| gNil <| eThen <| gMid (fun (s22 : (List UInt8)) aa ww => ∃ nv : Nat → Value, Sta (ctx 47 H [] w) [(3, .val (nv 0))] [(2, some ((nv 0), .list u8R 5 s22))] aa ww) ?_ (fun s22 => ?_)
      · skip
        refine gSeq <| gReg <| R rfl (asg rfl) <| gNil <| eThen <| gLoop (fun (s23 : (List UInt8) × Int) aa ww => ∃ nv : Nat → Value, Sta (ctx 47 H [] w) [(1, .val (ptrTo v1 0)), (3, .val (nv 0)), (4, .rd i64R s23.2)] [(1, some (v1, .box 105 [.rd R_api_Frame a0])), (2, some ((nv 0), .list u8R 5 s23.1))] aa ww) (fun aa ww h => ⟨nvl [v21], h.sub [1, 2] (sS rfl <| sS rfl <| sS rfl <| sN) (rR rfl rfl <| rR rfl rfl <| rN)⟩) (fun s23 => ?_)
        refine gEx fun n24 => gSeq <| gSeq <| gReg <| R rfl (mv rfl) <| R rfl (faB 1 rfl rfl Try.underlying105 rfl (by exact ti103)) <| R rfl (ld 1 rfl rfl ((Foc.here).part (pt_api_Frame_Ops _)) ty103 rfl) <| R rfl (len' rfl .rd rfl Try.underlying103) <| R rfl (I.lss rfl rfl) <| gNil <| eThen <| gIf rfl rfl (fun h25 => ?_) (fun h25 => ?_)
        · skip
          refine gSkip <| eThen <| gSeq <| gBlk <| gReg <| R rfl (mv rfl) <| R rfl (faB 1 rfl rfl Try.underlying105 rfl (by exact ti103)) <| R rfl (ld 1 rfl rfl ((Foc.here).part (pt_api_Frame_Ops _)) ty103 rfl) <| R rfl (mv rfl) <| lBind fun x26 h27 => R rfl (ixR rfl rfl h27 Try.underlying103 ti32 rfl) <| R rfl (ldR rfl ty32) <| call [] [(100, 6)] rfl Try.func117 rfl rfl (braidref04_Text_ok _) (aQ rfl <| aN) rN fun r28 n29 => lBind fun x30 h31 => Ef rfl (apn 2 rfl rfl rfl (.own 6 rfl) h31 Try.underlying32 ti5 rfl rfl rfl) fun v32 => R rfl (asg rfl) <| gNil <| eBlk <| eThen <| gReg <| R rfl (mv rfl) <| R rfl (I.add rfl rfl) <| R rfl (asg rfl) <| lName 4 rfl fun y33 => gNil <| eNext (fun aa ww h => ⟨nvl [v32], h.sub [1, 2] (sS rfl <| sS rfl <| sS rfl <| sN) (rR rfl rfl <| rR rfl rfl <| rN)⟩)
        · skip
          refine gExit <| eTexit <| eLeave <| eMid (fun aa ww h => ⟨nvl [(n24 0)], h.sub [2] (sS rfl <| sN) (rR rfl rfl <| rN)⟩)
      · skip
        refine gEx fun n34 => gSeq <| gReg <| R rfl (mv rfl) <| R rfl (asg rfl) <| gNil <| eThen <| gRet <| eRet [(n34 0)] [2] rfl (eE rfl <| eN) (rR rfl rfl <| rN)

def braidref07_Check_L0 (a0 : api_Frame) (s32 : Int) : Option (Sum (Sum Int Unit) Int) :=
  if decide (s32 < (a0.Ops.length : Int)) then
    idx a0.Ops s32 >>= fun x34 =>
    if decide (400 < (x34.length : Int)) then
      some (.inl (.inl 8))
    else
      some (w64 (s32 + 1)) >>= fun y37 =>
      some (.inr y37)
  else
    some (.inl (.inr ()))
def braidref07_Check (a0 : api_Frame) : Option (Int) :=
  if decide (a0.Kind < 1) then
    some 8
  else
    if decide (6 < a0.Kind) then
      some 8
    else
      (if a0.Kind == 1 then
        some true
      else
        some (a0.Kind == 6)) >>= fun s4 =>
      orRet (if !s4 then
        if a0.N != 0 then
          some (.inl 8)
        else
          braidref07_Listed a0.Kind >>= fun r9 =>
          if !r9 then
            if decide (0 < (a0.IDs.length : Int)) then
              some (.inl 8)
            else
              if a0.Kind != 5 then
                if decide (0 < (a0.Ops.length : Int)) then
                  some (.inl 8)
                else
                  some (.inr ())
              else
                some (.inr ())
          else
            if a0.Kind != 5 then
              if decide (0 < (a0.Ops.length : Int)) then
                some (.inl 8)
              else
                some (.inr ())
            else
              some (.inr ())
      else
        braidref07_Listed a0.Kind >>= fun r17 =>
        if !r17 then
          if decide (0 < (a0.IDs.length : Int)) then
            some (.inl 8)
          else
            if a0.Kind != 5 then
              if decide (0 < (a0.Ops.length : Int)) then
                some (.inl 8)
              else
                some (.inr ())
            else
              some (.inr ())
        else
          if a0.Kind != 5 then
            if decide (0 < (a0.Ops.length : Int)) then
              some (.inl 8)
            else
              some (.inr ())
          else
            some (.inr ())) fun s6 =>
      (if decide (40 < (a0.IDs.length : Int)) then
        some true
      else
        braidref04_Rising a0.IDs >>= fun r27 =>
        if !r27 then
          some true
        else
          some (decide (8 < (a0.Ops.length : Int)))) >>= fun s25 =>
      if s25 then
        some 8
      else
        orRet (iter (braidref07_Check_L0 a0) 0) fun s31 =>
        braidref07_Bytes a0 >>= fun r38 =>
        if decide (2000 < (r38.length : Int)) then
          some 8
        else
          some 0
set_option maxRecDepth 100000 in
theorem braidref07_Check_ok (a0 : api_Frame) : Spec Try.prog 77 [.rd R_api_Frame a0] [] (braidref07_Check a0) (fun r nv => ⟨[.rd i64R r], []⟩) := by
  refine spec 85 Try.func77 rfl rfl rfl fun H w => ?_
  refine gSeq <| gReg <| Eb rfl (bx 1 rfl) fun v1 => R rfl (asg rfl) <| gNil <| eThen <| gSeq <| gSeq <| gReg <| R rfl (faB 1 rfl rfl Try.underlying105 rfl (by exact ti5)) <| R rfl (ld 1 rfl rfl ((Foc.here).part (pt_api_Frame_Kind _)) ty5 rfl) <| R rfl (B.lss rfl rfl) <| R rfl (mv rfl) <| lSplit 8 rfl (fun h2 => ?_) (fun h2 => ?_)
  · skip
    refine lKn 7 rfl h2 <| lSkip (gd rfl rfl rfl rfl) rfl rfl <| lSkip (gd rfl rfl rfl rfl) rfl rfl <| lSkip (gd rfl rfl rfl rfl) rfl rfl <| R rfl (pkT rfl rfl) <| gNil <| eThen <| gTrue rfl <| gSeq <| gReg <| R rfl (asg rfl) <| gNil <| eThen <| gRet <| eTret <| eRet [] [] rfl (eE rfl <| eN) (rN)
  · skip
    refine lKn 7 rfl h2 <| lRun (gd rfl rfl rfl rfl) rfl rfl (faB 1 rfl rfl Try.underlying105 rfl (by exact ti5)) <| lRun (gd rfl rfl rfl rfl) rfl rfl (ld 1 rfl rfl ((Foc.here).part (pt_api_Frame_Kind _)) ty5 rfl) <| lRun (gd rfl rfl rfl rfl) rfl rfl (B.gtr rfl rfl) <| R rfl (pkF rfl rfl) <| gNil <| eThen <| gIf rfl rfl (fun h3 => ?_) (fun h3 => ?_)
    · skip
      refine gKn 11 rfl h3 <| gSeq <| gReg <| R rfl (asg rfl) <| gNil <| eThen <| gRet <| eTret <| eRet [] [] rfl (eE rfl <| eN) (rN)
    · skip
      refine gKn 11 rfl h3 <| gSkip <| eThen <| gMid (fun (s4 : Bool) aa ww => Sta (ctx 85 H [] w) [(1, .val (ptrTo v1 0)), (3, .rd boolR s4)] [(1, some (v1, .box 105 [.rd R_api_Frame a0]))] aa ww) ?_ (fun s4 => ?_)
      · skip
        refine gReg <| R rfl (faB 1 rfl rfl Try.underlying105 rfl (by exact ti5)) <| R rfl (ld 1 rfl rfl ((Foc.here).part (pt_api_Frame_Kind _)) ty5 rfl) <| R rfl (B.eql rfl rfl) <| R rfl (mv rfl) <| lSplit 16 rfl (fun h5 => ?_) (fun h5 => ?_)
        · skip
          refine lKn 15 rfl h5 <| lSkip (gd rfl rfl rfl rfl) rfl rfl <| lSkip (gd rfl rfl rfl rfl) rfl rfl <| lSkip (gd rfl rfl rfl rfl) rfl rfl <| R rfl (pkT rfl rfl) <| R rfl (asg rfl) <| gNil <| eMid (fun aa ww h => h.sub [1] (sS rfl <| sS rfl <| sN) (rR rfl rfl <| rN))
        · skip
          refine lKn 15 rfl h5 <| lRun (gd rfl rfl rfl rfl) rfl rfl (faB 1 rfl rfl Try.underlying105 rfl (by exact ti5)) <| lRun (gd rfl rfl rfl rfl) rfl rfl (ld 1 rfl rfl ((Foc.here).part (pt_api_Frame_Kind _)) ty5 rfl) <| lRun (gd rfl rfl rfl rfl) rfl rfl (B.eql rfl rfl) <| R rfl (pkF rfl rfl) <| R rfl (asg rfl) <| gNil <| eMid (fun aa ww h => h.sub [1] (sS rfl <| sS rfl <| sN) (rR rfl rfl <| rN))
      · skip
        refine gMidR (fun (s6 : Unit) aa ww => Sta (ctx 85 H [] w) [(1, .val (ptrTo v1 0))] [(1, some (v1, .box 105 [.rd R_api_Frame a0]))] aa ww) ?_ (fun s6 => ?_)
        · skip
          refine gSeq <| gReg <| R rfl (mv rfl) <| R rfl (not' rfl) <| R rfl (mv rfl) <| lSplit 23 rfl (fun h7 => ?_) (fun h7 => ?_)
          · skip
            refine lKn 22 rfl h7 <| lRun (gd rfl rfl rfl rfl) rfl rfl (faB 1 rfl rfl Try.underlying105 rfl (by exact ti31)) <| lRun (gd rfl rfl rfl rfl) rfl rfl (ld 1 rfl rfl ((Foc.here).part (pt_api_Frame_N _)) ty31 rfl) <| lRun (gd rfl rfl rfl rfl) rfl rfl (U.neq rfl rfl) <| R rfl (pkT rfl rfl) <| R rfl (mv rfl) <| lSplit 28 rfl (fun h8 => ?_) (fun h8 => ?_)
            · skip
              refine lKn 26 rfl h8 <| lKn 27 rfl h8 <| lSkip (gd rfl rfl rfl rfl) rfl rfl <| lSkip (gd rfl rfl rfl rfl) rfl rfl <| lSkip (gd rfl rfl rfl rfl) rfl rfl <| lSkip (gd rfl rfl rfl rfl) rfl rfl <| lSkip (gd rfl rfl rfl rfl) rfl rfl <| lSkip (gdU rfl rfl rfl) rfl rfl <| lSkip (gdU rfl rfl rfl) rfl rfl <| lSkip (gdU rfl rfl rfl) rfl rfl <| lSkip (gdU rfl rfl rfl) rfl rfl <| lSkip (gd rfl rfl rfl rfl) rfl rfl <| R rfl (pkT rfl rfl) <| R rfl (mv rfl) <| lSkip (gd rfl rfl rfl rfl) rfl rfl <| lSkip (gd rfl rfl rfl rfl) rfl rfl <| lSkip (gd rfl rfl rfl rfl) rfl rfl <| lSkip (gd rfl rfl rfl rfl) rfl rfl <| lSkip (gdU rfl rfl rfl) rfl rfl <| lSkip (gdU rfl rfl rfl) rfl rfl <| lSkip (gdU rfl rfl rfl) rfl rfl <| lSkip (gdU rfl rfl rfl) rfl rfl <| lSkip (gd rfl rfl rfl rfl) rfl rfl <| R rfl (pkT rfl rfl) <| gNil <| eThen <| gTrue rfl <| gSeq <| gReg <| R rfl (asg rfl) <| gNil <| eThen <| gRet <| eMret <| eRet [] [] rfl (eE rfl <| eN) (rN)
            · skip
              refine lKn 26 rfl h8 <| lKn 27 rfl h8 <| lRun (gd rfl rfl rfl rfl) rfl rfl (faB 1 rfl rfl Try.underlying105 rfl (by exact ti5)) <| lRun (gd rfl rfl rfl rfl) rfl rfl (ld 1 rfl rfl ((Foc.here).part (pt_api_Frame_Kind _)) ty5 rfl) <| callg [] [] (gd rfl rfl rfl rfl) rfl Try.func93 rfl rfl (braidref07_Listed_ok _) (aQ rfl <| aN) rN fun r9 n10 => lRun (gd rfl rfl rfl rfl) rfl rfl (not' rfl) <| lRun (gd rfl rfl rfl rfl) rfl rfl (mv rfl) <| lSplit 33 rfl (fun h11 => ?_) (fun h11 => ?_)
              · skip
                refine lKn 32 rfl h11 <| lRun (gd rfl rfl rfl rfl) rfl rfl (faB 1 rfl rfl Try.underlying105 rfl (by exact ti83)) <| lRun (gd rfl rfl rfl rfl) rfl rfl (ld 1 rfl rfl ((Foc.here).part (pt_api_Frame_IDs _)) ty83 rfl) <| lRun (gd rfl rfl rfl rfl) rfl rfl (len' rfl .rd rfl Try.underlying83) <| lRun (gd rfl rfl rfl rfl) rfl rfl (I.gtr rfl rfl) <| lRun (gd rfl rfl rfl rfl) rfl rfl (pkT rfl rfl) <| R rfl (pkF rfl rfl) <| R rfl (mv rfl) <| lSplit 40 rfl (fun h12 => ?_) (fun h12 => ?_)
                · skip
                  refine lKn 37 rfl h12 <| lKn 38 rfl h12 <| lKn 39 rfl h12 <| lSkip (gd rfl rfl rfl rfl) rfl rfl <| lSkip (gd rfl rfl rfl rfl) rfl rfl <| lSkip (gd rfl rfl rfl rfl) rfl rfl <| lSkip (gd rfl rfl rfl rfl) rfl rfl <| lSkip (gdU rfl rfl rfl) rfl rfl <| lSkip (gdU rfl rfl rfl) rfl rfl <| lSkip (gdU rfl rfl rfl) rfl rfl <| lSkip (gdU rfl rfl rfl) rfl rfl <| lSkip (gd rfl rfl rfl rfl) rfl rfl <| R rfl (pkT rfl rfl) <| gNil <| eThen <| gTrue rfl <| gSeq <| gReg <| R rfl (asg rfl) <| gNil <| eThen <| gRet <| eMret <| eRet [] [] rfl (eE rfl <| eN) (rN)
                · skip
                  refine lKn 37 rfl h12 <| lKn 38 rfl h12 <| lKn 39 rfl h12 <| lRun (gd rfl rfl rfl rfl) rfl rfl (faB 1 rfl rfl Try.underlying105 rfl (by exact ti5)) <| lRun (gd rfl rfl rfl rfl) rfl rfl (ld 1 rfl rfl ((Foc.here).part (pt_api_Frame_Kind _)) ty5 rfl) <| lRun (gd rfl rfl rfl rfl) rfl rfl (B.neq rfl rfl) <| lRun (gd rfl rfl rfl rfl) rfl rfl (mv rfl) <| lSplit 44 rfl (fun h13 => ?_) (fun h13 => ?_)
                  · skip
                    refine lKn 43 rfl h13 <| lRun (gd rfl rfl rfl rfl) rfl rfl (faB 1 rfl rfl Try.underlying105 rfl (by exact ti103)) <| lRun (gd rfl rfl rfl rfl) rfl rfl (ld 1 rfl rfl ((Foc.here).part (pt_api_Frame_Ops _)) ty103 rfl) <| lRun (gd rfl rfl rfl rfl) rfl rfl (len' rfl .rd rfl Try.underlying103) <| lRun (gd rfl rfl rfl rfl) rfl rfl (I.gtr rfl rfl) <| lRun (gd rfl rfl rfl rfl) rfl rfl (pkT rfl rfl) <| R rfl (pkF rfl rfl) <| gNil <| eThen <| gIf rfl rfl (fun h14 => ?_) (fun h14 => ?_)
                    · skip
                      refine gKn 48 rfl h14 <| gKn 49 rfl h14 <| gSeq <| gReg <| R rfl (asg rfl) <| gNil <| eThen <| gRet <| eMret <| eRet [] [] rfl (eE rfl <| eN) (rN)
                    · skip
                      refine gKn 48 rfl h14 <| gKn 49 rfl h14 <| gSkip <| eMidR (fun aa ww h => h.sub [1] (sS rfl <| sN) (rR rfl rfl <| rN))
                  · skip
                    refine lKn 43 rfl h13 <| lSkip (gd rfl rfl rfl rfl) rfl rfl <| lSkip (gd rfl rfl rfl rfl) rfl rfl <| lSkip (gd rfl rfl rfl rfl) rfl rfl <| lSkip (gd rfl rfl rfl rfl) rfl rfl <| lRun (gd rfl rfl rfl rfl) rfl rfl (pkF rfl rfl) <| R rfl (pkF rfl rfl) <| gNil <| eThen <| gFalse rfl <| gSkip <| eMidR (fun aa ww h => h.sub [1] (sS rfl <| sN) (rR rfl rfl <| rN))
              · skip
                refine lKn 32 rfl h11 <| lSkip (gd rfl rfl rfl rfl) rfl rfl <| lSkip (gd rfl rfl rfl rfl) rfl rfl <| lSkip (gd rfl rfl rfl rfl) rfl rfl <| lSkip (gd rfl rfl rfl rfl) rfl rfl <| lRun (gd rfl rfl rfl rfl) rfl rfl (pkF rfl rfl) <| R rfl (pkF rfl rfl) <| R rfl (mv rfl) <| lRun (gd rfl rfl rfl rfl) rfl rfl (faB 1 rfl rfl Try.underlying105 rfl (by exact ti5)) <| lRun (gd rfl rfl rfl rfl) rfl rfl (ld 1 rfl rfl ((Foc.here).part (pt_api_Frame_Kind _)) ty5 rfl) <| lRun (gd rfl rfl rfl rfl) rfl rfl (B.neq rfl rfl) <| lRun (gd rfl rfl rfl rfl) rfl rfl (mv rfl) <| lSplit 44 rfl (fun h15 => ?_) (fun h15 => ?_)
                · skip
                  refine lKn 43 rfl h15 <| lRun (gd rfl rfl rfl rfl) rfl rfl (faB 1 rfl rfl Try.underlying105 rfl (by exact ti103)) <| lRun (gd rfl rfl rfl rfl) rfl rfl (ld 1 rfl rfl ((Foc.here).part (pt_api_Frame_Ops _)) ty103 rfl) <| lRun (gd rfl rfl rfl rfl) rfl rfl (len' rfl .rd rfl Try.underlying103) <| lRun (gd rfl rfl rfl rfl) rfl rfl (I.gtr rfl rfl) <| lRun (gd rfl rfl rfl rfl) rfl rfl (pkT rfl rfl) <| R rfl (pkF rfl rfl) <| gNil <| eThen <| gIf rfl rfl (fun h16 => ?_) (fun h16 => ?_)
                  · skip
                    refine gKn 48 rfl h16 <| gKn 49 rfl h16 <| gSeq <| gReg <| R rfl (asg rfl) <| gNil <| eThen <| gRet <| eMret <| eRet [] [] rfl (eE rfl <| eN) (rN)
                  · skip
                    refine gKn 48 rfl h16 <| gKn 49 rfl h16 <| gSkip <| eMidR (fun aa ww h => h.sub [1] (sS rfl <| sN) (rR rfl rfl <| rN))
                · skip
                  refine lKn 43 rfl h15 <| lSkip (gd rfl rfl rfl rfl) rfl rfl <| lSkip (gd rfl rfl rfl rfl) rfl rfl <| lSkip (gd rfl rfl rfl rfl) rfl rfl <| lSkip (gd rfl rfl rfl rfl) rfl rfl <| lRun (gd rfl rfl rfl rfl) rfl rfl (pkF rfl rfl) <| R rfl (pkF rfl rfl) <| gNil <| eThen <| gFalse rfl <| gSkip <| eMidR (fun aa ww h => h.sub [1] (sS rfl <| sN) (rR rfl rfl <| rN))
          · skip
            refine lKn 22 rfl h7 <| lSkip (gd rfl rfl rfl rfl) rfl rfl <| lSkip (gd rfl rfl rfl rfl) rfl rfl <| lSkip (gd rfl rfl rfl rfl) rfl rfl <| R rfl (pkF rfl rfl) <| R rfl (mv rfl) <| lRun (gd rfl rfl rfl rfl) rfl rfl (faB 1 rfl rfl Try.underlying105 rfl (by exact ti5)) <| lRun (gd rfl rfl rfl rfl) rfl rfl (ld 1 rfl rfl ((Foc.here).part (pt_api_Frame_Kind _)) ty5 rfl) <| callg [] [] (gd rfl rfl rfl rfl) rfl Try.func93 rfl rfl (braidref07_Listed_ok _) (aQ rfl <| aN) rN fun r17 n18 => lRun (gd rfl rfl rfl rfl) rfl rfl (not' rfl) <| lRun (gd rfl rfl rfl rfl) rfl rfl (mv rfl) <| lSplit 33 rfl (fun h19 => ?_) (fun h19 => ?_)
            · skip
              refine lKn 32 rfl h19 <| lRun (gd rfl rfl rfl rfl) rfl rfl (faB 1 rfl rfl Try.underlying105 rfl (by exact ti83)) <| lRun (gd rfl rfl rfl rfl) rfl rfl (ld 1 rfl rfl ((Foc.here).part (pt_api_Frame_IDs _)) ty83 rfl) <| lRun (gd rfl rfl rfl rfl) rfl rfl (len' rfl .rd rfl Try.underlying83) <| lRun (gd rfl rfl rfl rfl) rfl rfl (I.gtr rfl rfl) <| lRun (gd rfl rfl rfl rfl) rfl rfl (pkT rfl rfl) <| R rfl (pkF rfl rfl) <| R rfl (mv rfl) <| lSplit 40 rfl (fun h20 => ?_) (fun h20 => ?_)
              · skip
                refine lKn 37 rfl h20 <| lKn 38 rfl h20 <| lKn 39 rfl h20 <| lSkip (gd rfl rfl rfl rfl) rfl rfl <| lSkip (gd rfl rfl rfl rfl) rfl rfl <| lSkip (gd rfl rfl rfl rfl) rfl rfl <| lSkip (gd rfl rfl rfl rfl) rfl rfl <| lSkip (gdU rfl rfl rfl) rfl rfl <| lSkip (gdU rfl rfl rfl) rfl rfl <| lSkip (gdU rfl rfl rfl) rfl rfl <| lSkip (gdU rfl rfl rfl) rfl rfl <| lSkip (gd rfl rfl rfl rfl) rfl rfl <| R rfl (pkT rfl rfl) <| gNil <| eThen <| gTrue rfl <| gSeq <| gReg <| R rfl (asg rfl) <| gNil <| eThen <| gRet <| eMret <| eRet [] [] rfl (eE rfl <| eN) (rN)
              · skip
                refine lKn 37 rfl h20 <| lKn 38 rfl h20 <| lKn 39 rfl h20 <| lRun (gd rfl rfl rfl rfl) rfl rfl (faB 1 rfl rfl Try.underlying105 rfl (by exact ti5)) <| lRun (gd rfl rfl rfl rfl) rfl rfl (ld 1 rfl rfl ((Foc.here).part (pt_api_Frame_Kind _)) ty5 rfl) <| lRun (gd rfl rfl rfl rfl) rfl rfl (B.neq rfl rfl) <| lRun (gd rfl rfl rfl rfl) rfl rfl (mv rfl) <| lSplit 44 rfl (fun h21 => ?_) (fun h21 => ?_)
                · skip
                  refine lKn 43 rfl h21 <| lRun (gd rfl rfl rfl rfl) rfl rfl (faB 1 rfl rfl Try.underlying105 rfl (by exact ti103)) <| lRun (gd rfl rfl rfl rfl) rfl rfl (ld 1 rfl rfl ((Foc.here).part (pt_api_Frame_Ops _)) ty103 rfl) <| lRun (gd rfl rfl rfl rfl) rfl rfl (len' rfl .rd rfl Try.underlying103) <| lRun (gd rfl rfl rfl rfl) rfl rfl (I.gtr rfl rfl) <| lRun (gd rfl rfl rfl rfl) rfl rfl (pkT rfl rfl) <| R rfl (pkF rfl rfl) <| gNil <| eThen <| gIf rfl rfl (fun h22 => ?_) (fun h22 => ?_)
                  · skip
                    refine gKn 48 rfl h22 <| gKn 49 rfl h22 <| gSeq <| gReg <| R rfl (asg rfl) <| gNil <| eThen <| gRet <| eMret <| eRet [] [] rfl (eE rfl <| eN) (rN)
                  · skip
                    refine gKn 48 rfl h22 <| gKn 49 rfl h22 <| gSkip <| eMidR (fun aa ww h => h.sub [1] (sS rfl <| sN) (rR rfl rfl <| rN))
                · skip
                  refine lKn 43 rfl h21 <| lSkip (gd rfl rfl rfl rfl) rfl rfl <| lSkip (gd rfl rfl rfl rfl) rfl rfl <| lSkip (gd rfl rfl rfl rfl) rfl rfl <| lSkip (gd rfl rfl rfl rfl) rfl rfl <| lRun (gd rfl rfl rfl rfl) rfl rfl (pkF rfl rfl) <| R rfl (pkF rfl rfl) <| gNil <| eThen <| gFalse rfl <| gSkip <| eMidR (fun aa ww h => h.sub [1] (sS rfl <| sN) (rR rfl rfl <| rN))
            · skip
              refine lKn 32 rfl h19 <| lSkip (gd rfl rfl rfl rfl) rfl rfl <| lSkip (gd rfl rfl rfl rfl) rfl rfl <| lSkip (gd rfl rfl rfl rfl) rfl rfl <| lSkip (gd rfl rfl rfl rfl) rfl rfl <| lRun (gd rfl rfl rfl rfl) rfl rfl (pkF rfl rfl) <| R rfl (pkF rfl rfl) <| R rfl (mv rfl) <| lRun (gd rfl rfl rfl rfl) rfl rfl (faB 1 rfl rfl Try.underlying105 rfl (by exact ti5)) <| lRun (gd rfl rfl rfl rfl) rfl rfl (ld 1 rfl rfl ((Foc.here).part (pt_api_Frame_Kind _)) ty5 rfl) <| lRun (gd rfl rfl rfl rfl) rfl rfl (B.neq rfl rfl) <| lRun (gd rfl rfl rfl rfl) rfl rfl (mv rfl) <| lSplit 44 rfl (fun h23 => ?_) (fun h23 => ?_)
              · skip
                refine lKn 43 rfl h23 <| lRun (gd rfl rfl rfl rfl) rfl rfl (faB 1 rfl rfl Try.underlying105 rfl (by exact ti103)) <| lRun (gd rfl rfl rfl rfl) rfl rfl (ld 1 rfl rfl ((Foc.here).part (pt_api_Frame_Ops _)) ty103 rfl) <| lRun (gd rfl rfl rfl rfl) rfl rfl (len' rfl .rd rfl Try.underlying103) <| lRun (gd rfl rfl rfl rfl) rfl rfl (I.gtr rfl rfl) <| lRun (gd rfl rfl rfl rfl) rfl rfl (pkT rfl rfl) <| R rfl (pkF rfl rfl) <| gNil <| eThen <| gIf rfl rfl (fun h24 => ?_) (fun h24 => ?_)
                · skip
                  refine gKn 48 rfl h24 <| gKn 49 rfl h24 <| gSeq <| gReg <| R rfl (asg rfl) <| gNil <| eThen <| gRet <| eMret <| eRet [] [] rfl (eE rfl <| eN) (rN)
                · skip
                  refine gKn 48 rfl h24 <| gKn 49 rfl h24 <| gSkip <| eMidR (fun aa ww h => h.sub [1] (sS rfl <| sN) (rR rfl rfl <| rN))
              · skip
                refine lKn 43 rfl h23 <| lSkip (gd rfl rfl rfl rfl) rfl rfl <| lSkip (gd rfl rfl rfl rfl) rfl rfl <| lSkip (gd rfl rfl rfl rfl) rfl rfl <| lSkip (gd rfl rfl rfl rfl) rfl rfl <| lRun (gd rfl rfl rfl rfl) rfl rfl (pkF rfl rfl) <| R rfl (pkF rfl rfl) <| gNil <| eThen <| gFalse rfl <| gSkip <| eMidR (fun aa ww h => h.sub [1] (sS rfl <| sN) (rR rfl rfl <| rN))
        · skip
          refine gSeq <| gMid (fun (s25 : Bool) aa ww => Sta (ctx 85 H [] w) [(1, .val (ptrTo v1 0)), (66, .rd boolR s25)] [(1, some (v1, .box 105 [.rd R_api_Frame a0]))] aa ww) ?_ (fun s25 => ?_)
          · skip
            refine gReg <| R rfl (faB 1 rfl rfl Try.underlying105 rfl (by exact ti83)) <| R rfl (ld 1 rfl rfl ((Foc.here).part (pt_api_Frame_IDs _)) ty83 rfl) <| R rfl (len' rfl .rd rfl Try.underlying83) <| R rfl (I.gtr rfl rfl) <| R rfl (mv rfl) <| lSplit 55 rfl (fun h26 => ?_) (fun h26 => ?_)
            · skip
              refine lKn 54 rfl h26 <| lSkip (gd rfl rfl rfl rfl) rfl rfl <| lSkip (gd rfl rfl rfl rfl) rfl rfl <| lSkip (gd rfl rfl rfl rfl) rfl rfl <| lSkip (gd rfl rfl rfl rfl) rfl rfl <| R rfl (pkT rfl rfl) <| R rfl (mv rfl) <| lSkip (gd rfl rfl rfl rfl) rfl rfl <| lSkip (gd rfl rfl rfl rfl) rfl rfl <| lSkip (gd rfl rfl rfl rfl) rfl rfl <| lSkip (gd rfl rfl rfl rfl) rfl rfl <| R rfl (pkT rfl rfl) <| gNil <| eMid (fun aa ww h => h.sub [1] (sS rfl <| sS rfl <| sN) (rR rfl rfl <| rN))
            · skip
              refine lKn 54 rfl h26 <| lRun (gd rfl rfl rfl rfl) rfl rfl (faB 1 rfl rfl Try.underlying105 rfl (by exact ti83)) <| lRun (gd rfl rfl rfl rfl) rfl rfl (ld 1 rfl rfl ((Foc.here).part (pt_api_Frame_IDs _)) ty83 rfl) <| callg [] [] (gd rfl rfl rfl rfl) rfl Try.func60 rfl rfl (braidref04_Rising_ok _) (aQ rfl <| aN) rN fun r27 n28 => lRun (gd rfl rfl rfl rfl) rfl rfl (not' rfl) <| R rfl (pkF rfl rfl) <| R rfl (mv rfl) <| lSplit 61 rfl (fun h29 => ?_) (fun h29 => ?_)
              · skip
                refine lKn 59 rfl h29 <| lKn 60 rfl h29 <| lSkip (gd rfl rfl rfl rfl) rfl rfl <| lSkip (gd rfl rfl rfl rfl) rfl rfl <| lSkip (gd rfl rfl rfl rfl) rfl rfl <| lSkip (gd rfl rfl rfl rfl) rfl rfl <| R rfl (pkT rfl rfl) <| gNil <| eMid (fun aa ww h => h.sub [1] (sS rfl <| sS rfl <| sN) (rR rfl rfl <| rN))
              · skip
                refine lKn 59 rfl h29 <| lKn 60 rfl h29 <| lRun (gd rfl rfl rfl rfl) rfl rfl (faB 1 rfl rfl Try.underlying105 rfl (by exact ti103)) <| lRun (gd rfl rfl rfl rfl) rfl rfl (ld 1 rfl rfl ((Foc.here).part (pt_api_Frame_Ops _)) ty103 rfl) <| lRun (gd rfl rfl rfl rfl) rfl rfl (len' rfl .rd rfl Try.underlying103) <| lRun (gd rfl rfl rfl rfl) rfl rfl (I.gtr rfl rfl) <| R rfl (pkF rfl rfl) <| gNil <| eMid (fun aa ww h => h.sub [1] (sS rfl <| sS rfl <| sN) (rR rfl rfl <| rN))
          · skip
            refine gIf rfl rfl (fun h30 => ?_) (fun h30 => ?_)
            · skip
              refine gSeq <| gReg <| R rfl (asg rfl) <| gNil <| eThen <| gRet <| eTret <| eRet [] [] rfl (eE rfl <| eN) (rN)
            · skip
              refine gSkip <| eThen <| gMidR (fun (s31 : Unit) aa ww => Sta (ctx 85 H [] w) [(1, .val (ptrTo v1 0))] [(1, some (v1, .box 105 [.rd R_api_Frame a0]))] aa ww) ?_ (fun s31 => ?_)
              · skip
                refine gSeq <| gReg <| R rfl (asg rfl) <| gNil <| eThen <| gLoop (fun (s32 : Int) aa ww => Sta (ctx 85 H [] w) [(1, .val (ptrTo v1 0)), (4, .rd i64R s32)] [(1, some (v1, .box 105 [.rd R_api_Frame a0]))] aa ww) (fun aa ww h => h.sub [1] (sS rfl <| sS rfl <| sN) (rR rfl rfl <| rN)) (fun s32 => ?_)
                refine gSeq <| gSeq <| gReg <| R rfl (mv rfl) <| R rfl (faB 1 rfl rfl Try.underlying105 rfl (by exact ti103)) <| R rfl (ld 1 rfl rfl ((Foc.here).part (pt_api_Frame_Ops _)) ty103 rfl) <| R rfl (len' rfl .rd rfl Try.underlying103) <| R rfl (I.lss rfl rfl) <| gNil <| eThen <| gIf rfl rfl (fun h33 => ?_) (fun h33 => ?_)
                · skip
                  refine gSkip <| eThen <| gSeq <| gBlk <| gSeq <| gReg <| R rfl (faB 1 rfl rfl Try.underlying105 rfl (by exact ti103)) <| R rfl (ld 1 rfl rfl ((Foc.here).part (pt_api_Frame_Ops _)) ty103 rfl) <| R rfl (mv rfl) <| lBind fun x34 h35 => R rfl (ixR rfl rfl h35 Try.underlying103 ti32 rfl) <| R rfl (ldR rfl ty32) <| R rfl (len' rfl .rd rfl Try.underlying32) <| R rfl (I.gtr rfl rfl) <| gNil <| eThen <| gIf rfl rfl (fun h36 => ?_) (fun h36 => ?_)
                  · skip
                    refine gSeq <| gReg <| R rfl (asg rfl) <| gNil <| eThen <| gRet <| eBret <| eTret <| eLret <| eMret <| eRet [] [] rfl (eE rfl <| eN) (rN)
                  · skip
                    refine gSkip <| eBlk <| eThen <| gReg <| R rfl (mv rfl) <| R rfl (I.add rfl rfl) <| R rfl (asg rfl) <| lName 4 rfl fun y37 => gNil <| eNext (fun aa ww h => h.sub [1] (sS rfl <| sS rfl <| sN) (rR rfl rfl <| rN))
                · skip
                  refine gExit <| eTexit <| eLeave <| eMidR (fun aa ww h => h.sub [1] (sS rfl <| sN) (rR rfl rfl <| rN))
              · skip
                refine gSeq <| gSeq <| gReg <| R rfl (ld 1 rfl rfl Foc.here ty105 rfl) <| call [] [(100, 2)] rfl Try.func120 rfl rfl (braidref07_Bytes_ok _) (aQ rfl <| aN) rN fun r38 n39 => R rfl (len' rfl (.own 2 rfl) rfl Try.underlying32) <| R rfl (I.gtr rfl rfl) <| gNil <| eThen <| gIf rfl rfl (fun h40 => ?_) (fun h40 => ?_)
                · skip
                  refine gSeq <| gReg <| R rfl (asg rfl) <| gNil <| eThen <| gRet <| eTret <| eRet [] [] rfl (eE rfl <| eN) (rN)
                · skip
                  refine gSkip <| eThen <| gSeq <| gReg <| R rfl (asg rfl) <| gNil <| eThen <| gRet <| eRet [] [] rfl (eE rfl <| eN) (rN)


def braidref25_Over (a0 : api_Session) : Option (Bool) :=
  if a0.State == 4 then
    some true
  else
    some (a0.State == 5) >>= fun y3 =>
    some y3
set_option maxRecDepth 100000 in
theorem braidref25_Over_ok (a0 : api_Session) : Spec Try.prog 90 [.rd R_api_Session a0] [] (braidref25_Over a0) (fun r nv => ⟨[.rd boolR r], []⟩) := by
  refine spec 11 Try.func90 rfl rfl rfl fun H w => ?_
  refine gSeq <| gReg <| Eb rfl (bx 1 rfl) fun v1 => R rfl (asg rfl) <| gNil <| eThen <| gSeq <| gReg <| R rfl (faB 1 rfl rfl Try.underlying66 rfl (by exact ti5)) <| R rfl (ld 1 rfl rfl ((Foc.here).part (pt_api_Session_State _)) ty5 rfl) <| R rfl (B.eql rfl rfl) <| R rfl (mv rfl) <| lSplit 6 rfl (fun h2 => ?_) (fun h2 => ?_)
  · skip
    refine lKn 5 rfl h2 <| lSkip (gd rfl rfl rfl rfl) rfl rfl <| lSkip (gd rfl rfl rfl rfl) rfl rfl <| lSkip (gd rfl rfl rfl rfl) rfl rfl <| R rfl (pkT rfl rfl) <| R rfl (asg rfl) <| gNil <| eThen <| gRet <| eRet [] [] rfl (eE rfl <| eN) (rN)
  · skip
    refine lKn 5 rfl h2 <| lRun (gd rfl rfl rfl rfl) rfl rfl (faB 1 rfl rfl Try.underlying66 rfl (by exact ti5)) <| lRun (gd rfl rfl rfl rfl) rfl rfl (ld 1 rfl rfl ((Foc.here).part (pt_api_Session_State _)) ty5 rfl) <| lRun (gd rfl rfl rfl rfl) rfl rfl (B.eql rfl rfl) <| R rfl (pkF rfl rfl) <| R rfl (asg rfl) <| lName 2 rfl fun y3 => gNil <| eThen <| gRet <| eRet [] [] rfl (eE rfl <| eN) (rN)


def braidref25_State (a0 : UInt8) (a1 : UInt8) : Option (UInt8 × UInt8) :=
  (if a0 == 4 then
    some true
  else
    some (a0 == 5)) >>= fun s1 =>
  if s1 then
    some (a0, 0)
  else
    if a1 == 6 then
      some (4, 6)
    else
      (if a0 == 1 then
        some (a1 == 1)
      else
        some false) >>= fun s5 =>
      if s5 then
        some (2, 1)
      else
        (if a0 == 1 then
          some true
        else
          some (a1 == 1)) >>= fun s8 =>
        if s8 then
          some (4, 0)
        else
          if a1 == 2 then
            some (3, 3)
          else
            if a0 == 2 then
              some (4, 0)
            else
              if a1 == 3 then
                some (3, 4)
              else
                if a1 == 4 then
                  some (3, 3)
                else
                  some (3, 5)
set_option maxRecDepth 100000 in
theorem braidref25_State_ok (a0 : UInt8) (a1 : UInt8) : Spec Try.prog 114 [.rd u8R a0, .rd u8R a1] [] (braidref25_State a0 a1) (fun r nv => ⟨[.rd u8R r.1, .rd u8R r.2], []⟩) := by
  refine spec 43 Try.func114 rfl rfl rfl fun H w => ?_
  refine gSeq <| gReg <| R rfl (asg rfl) <| R rfl (asg rfl) <| gNil <| eThen <| gSeq <| gBlk <| gMid (fun (s1 : Bool) aa ww => Sta (ctx 43 H [] w) [(0, .rd u8R a0), (1, .rd u8R a1), (6, .rd boolR s1)] [] aa ww) ?_ (fun s1 => ?_)
  · skip
    refine gReg <| R rfl (mv rfl) <| R rfl (B.eql rfl rfl) <| R rfl (mv rfl) <| lSplit 9 rfl (fun h2 => ?_) (fun h2 => ?_)
    · skip
      refine lKn 8 rfl h2 <| lSkip (gd rfl rfl rfl rfl) rfl rfl <| lSkip (gd rfl rfl rfl rfl) rfl rfl <| R rfl (pkT rfl rfl) <| R rfl (asg rfl) <| gNil <| eMid (fun aa ww h => h.sub [] (sS rfl <| sS rfl <| sS rfl <| sN) (rN))
    · skip
      refine lKn 8 rfl h2 <| lRun (gd rfl rfl rfl rfl) rfl rfl (mv rfl) <| lRun (gd rfl rfl rfl rfl) rfl rfl (B.eql rfl rfl) <| R rfl (pkF rfl rfl) <| R rfl (asg rfl) <| gNil <| eMid (fun aa ww h => h.sub [] (sS rfl <| sS rfl <| sS rfl <| sN) (rN))
  · skip
    refine gIf rfl rfl (fun h3 => ?_) (fun h3 => ?_)
    · skip
      refine gSeq <| gReg <| R rfl (mv rfl) <| R rfl (asg rfl) <| R rfl (asg rfl) <| gNil <| eThen <| gRet <| eBret <| eTret <| eRet [] [] rfl (eE rfl <| eE rfl <| eN) (rN)
    · skip
      refine gSeq <| gReg <| R rfl (mv rfl) <| R rfl (B.eql rfl rfl) <| R rfl (asg rfl) <| gNil <| eThen <| gIf rfl rfl (fun h4 => ?_) (fun h4 => ?_)
      · skip
        refine gKn 16 rfl h4 <| gSeq <| gReg <| R rfl (asg rfl) <| R rfl (asg rfl) <| gNil <| eThen <| gRet <| eBret <| eTret <| eRet [] [] rfl (eE rfl <| eE rfl <| eN) (rN)
      · skip
        refine gKn 16 rfl h4 <| gMid (fun (s5 : Bool) aa ww => Sta (ctx 43 H [] w) [(0, .rd u8R a0), (1, .rd u8R a1), (17, .rd boolR s5)] [] aa ww) ?_ (fun s5 => ?_)
        · skip
          refine gReg <| R rfl (mv rfl) <| R rfl (B.eql rfl rfl) <| R rfl (mv rfl) <| lSplit 20 rfl (fun h6 => ?_) (fun h6 => ?_)
          · skip
            refine lKn 19 rfl h6 <| lRun (gd rfl rfl rfl rfl) rfl rfl (mv rfl) <| lRun (gd rfl rfl rfl rfl) rfl rfl (B.eql rfl rfl) <| R rfl (pkT rfl rfl) <| R rfl (asg rfl) <| gNil <| eMid (fun aa ww h => h.sub [] (sS rfl <| sS rfl <| sS rfl <| sN) (rN))
          · skip
            refine lKn 19 rfl h6 <| lSkip (gd rfl rfl rfl rfl) rfl rfl <| lSkip (gd rfl rfl rfl rfl) rfl rfl <| R rfl (pkF rfl rfl) <| R rfl (asg rfl) <| gNil <| eMid (fun aa ww h => h.sub [] (sS rfl <| sS rfl <| sS rfl <| sN) (rN))
        · skip
          refine gIf rfl rfl (fun h7 => ?_) (fun h7 => ?_)
          · skip
            refine gSeq <| gReg <| R rfl (asg rfl) <| R rfl (asg rfl) <| gNil <| eThen <| gRet <| eBret <| eTret <| eRet [] [] rfl (eE rfl <| eE rfl <| eN) (rN)
          · skip
            refine gMid (fun (s8 : Bool) aa ww => Sta (ctx 43 H [] w) [(0, .rd u8R a0), (1, .rd u8R a1), (24, .rd boolR s8)] [] aa ww) ?_ (fun s8 => ?_)
            · skip
              refine gReg <| R rfl (mv rfl) <| R rfl (B.eql rfl rfl) <| R rfl (mv rfl) <| lSplit 27 rfl (fun h9 => ?_) (fun h9 => ?_)
              · skip
                refine lKn 26 rfl h9 <| lSkip (gd rfl rfl rfl rfl) rfl rfl <| lSkip (gd rfl rfl rfl rfl) rfl rfl <| R rfl (pkT rfl rfl) <| R rfl (asg rfl) <| gNil <| eMid (fun aa ww h => h.sub [] (sS rfl <| sS rfl <| sS rfl <| sN) (rN))
              · skip
                refine lKn 26 rfl h9 <| lRun (gd rfl rfl rfl rfl) rfl rfl (mv rfl) <| lRun (gd rfl rfl rfl rfl) rfl rfl (B.eql rfl rfl) <| R rfl (pkF rfl rfl) <| R rfl (asg rfl) <| gNil <| eMid (fun aa ww h => h.sub [] (sS rfl <| sS rfl <| sS rfl <| sN) (rN))
            · skip
              refine gIf rfl rfl (fun h10 => ?_) (fun h10 => ?_)
              · skip
                refine gSeq <| gReg <| R rfl (asg rfl) <| R rfl (asg rfl) <| gNil <| eThen <| gRet <| eBret <| eTret <| eRet [] [] rfl (eE rfl <| eE rfl <| eN) (rN)
              · skip
                refine gSeq <| gReg <| R rfl (mv rfl) <| R rfl (B.eql rfl rfl) <| R rfl (asg rfl) <| gNil <| eThen <| gIf rfl rfl (fun h11 => ?_) (fun h11 => ?_)
                · skip
                  refine gKn 33 rfl h11 <| gSeq <| gReg <| R rfl (asg rfl) <| R rfl (asg rfl) <| gNil <| eThen <| gRet <| eBret <| eTret <| eRet [] [] rfl (eE rfl <| eE rfl <| eN) (rN)
                · skip
                  refine gKn 33 rfl h11 <| gSeq <| gReg <| R rfl (mv rfl) <| R rfl (B.eql rfl rfl) <| R rfl (asg rfl) <| gNil <| eThen <| gIf rfl rfl (fun h12 => ?_) (fun h12 => ?_)
                  · skip
                    refine gKn 36 rfl h12 <| gSeq <| gReg <| R rfl (asg rfl) <| R rfl (asg rfl) <| gNil <| eThen <| gRet <| eBret <| eTret <| eRet [] [] rfl (eE rfl <| eE rfl <| eN) (rN)
                  · skip
                    refine gKn 36 rfl h12 <| gSeq <| gReg <| R rfl (mv rfl) <| R rfl (B.eql rfl rfl) <| R rfl (asg rfl) <| gNil <| eThen <| gIf rfl rfl (fun h13 => ?_) (fun h13 => ?_)
                    · skip
                      refine gKn 39 rfl h13 <| gSeq <| gReg <| R rfl (asg rfl) <| R rfl (asg rfl) <| gNil <| eThen <| gRet <| eBret <| eTret <| eRet [] [] rfl (eE rfl <| eE rfl <| eN) (rN)
                    · skip
                      refine gKn 39 rfl h13 <| gSeq <| gReg <| R rfl (mv rfl) <| R rfl (B.eql rfl rfl) <| R rfl (asg rfl) <| gNil <| eThen <| gIf rfl rfl (fun h14 => ?_) (fun h14 => ?_)
                      · skip
                        refine gKn 42 rfl h14 <| gSeq <| gReg <| R rfl (asg rfl) <| R rfl (asg rfl) <| gNil <| eThen <| gRet <| eBret <| eTret <| eRet [] [] rfl (eE rfl <| eE rfl <| eN) (rN)
                      · skip
                        refine gKn 42 rfl h14 <| gSkip <| eBlk <| eThen <| gSeq <| gReg <| R rfl (asg rfl) <| R rfl (asg rfl) <| gNil <| eThen <| gRet <| eRet [] [] rfl (eE rfl <| eE rfl <| eN) (rN)


def braidref25_bye (a0 : UInt64) : Option ((List api_Doing)) :=
  some [(⟨1, (⟨6, a0, [], []⟩ : api_Frame)⟩ : api_Doing), (⟨6, (⟨0, 0, [], []⟩ : api_Frame)⟩ : api_Doing)]
set_option maxRecDepth 100000 in
theorem braidref25_bye_ok (a0 : UInt64) : Spec Try.prog 111 [.rd u64R a0] [] (braidref25_bye a0) (fun r nv => ⟨[.val (nv 0)], [(100, some (nv 0, .list R_api_Doing 136 r))]⟩) := by
  refine spec 8 Try.func111 rfl rfl rfl fun H w => ?_
  refine gSeq <| gReg <| R rfl (asg rfl) <| gNil <| eThen <| gSeq <| gReg <| R rfl (mv rfl) <| R rfl (bld (x' := (⟨6, a0, [], []⟩ : api_Frame)) [(0, 1), (1, 1), (2, 1), (3, 1)] Try.underlying105 ti105 rfl zr105 rfl (Bld.cons (pt_api_Frame_Kind _) rfl rfl <| Bld.cons (pt_api_Frame_N _) rfl rfl <| Bld.done rfl)) <| R rfl (bld (x' := (⟨1, (⟨6, a0, [], []⟩ : api_Frame)⟩ : api_Doing)) [(0, 1), (1, 4)] Try.underlying136 ti136 rfl zr136 rfl (Bld.cons (pt_api_Doing_Kind _) rfl rfl <| Bld.cons (pt_api_Doing_Frame _) rfl rfl <| Bld.done rfl)) <| R rfl (bld (x' := (⟨6, (⟨0, 0, [], []⟩ : api_Frame)⟩ : api_Doing)) [(0, 1), (1, 4)] Try.underlying136 ti136 rfl zr136 rfl (Bld.cons (pt_api_Doing_Kind _) rfl rfl <| Bld.done rfl)) <| Ef rfl (lit (R := R_api_Doing) ([(⟨1, (⟨6, a0, [], []⟩ : api_Frame)⟩ : api_Doing), (⟨6, (⟨0, 0, [], []⟩ : api_Frame)⟩ : api_Doing)] : List api_Doing) 1 (pP rfl rfl <| pP rfl rfl <| pN) rfl Try.underlying67 ti136 rfl rfl) fun v1 => R rfl (asg rfl) <| gNil <| eThen <| gRet <| eRet [v1] [1] rfl (eE rfl <| eN) (rR rfl rfl <| rN)


def braidref25_Take (a0 : api_Session) (a1 : api_Frame) : Option (api_Session × (List api_Doing) × Int) :=
  braidref25_Check a0 >>= fun r4 =>
  if r4 != 0 then
    some ((⟨0, 0, 0, 0⟩ : api_Session), [], r4)
  else
    braidref07_Check a1 >>= fun r7 =>
    if r7 != 0 then
      some ((⟨0, 0, 0, 0⟩ : api_Session), [], 8)
    else
      braidref25_Over a0 >>= fun r10 =>
      if r10 then
        some (a0, [], 0)
      else
        some (({ { a0 with Frames := min 1000000000 (w64 (a0.Frames + 1)) } with Ops := min 1000000000 (w64 ((({ a0 with Frames := min 1000000000 (w64 (a0.Frames + 1)) }).Ops) + (a1.Ops.length : Int))) }).State) >>= fun y13 =>
        braidref25_State y13 a1.Kind >>= fun r14 =>
        if r14.2 == 0 then
          braidref25_bye 2 >>= fun r17 =>
          some ({ { { a0 with Frames := min 1000000000 (w64 (a0.Frames + 1)) } with Ops := min 1000000000 (w64 ((({ a0 with Frames := min 1000000000 (w64 (a0.Frames + 1)) }).Ops) + (a1.Ops.length : Int))) } with State := r14.1 }, r17, 0)
        else
          if r14.2 == 6 then
            some ({ { { a0 with Frames := min 1000000000 (w64 (a0.Frames + 1)) } with Ops := min 1000000000 (w64 ((({ a0 with Frames := min 1000000000 (w64 (a0.Frames + 1)) }).Ops) + (a1.Ops.length : Int))) } with State := r14.1 }, [(⟨6, (⟨0, 0, [], []⟩ : api_Frame)⟩ : api_Doing)], 0)
          else
            (if r14.2 == 1 then
              some ({ { { a0 with Frames := min 1000000000 (w64 (a0.Frames + 1)) } with Ops := min 1000000000 (w64 ((({ a0 with Frames := min 1000000000 (w64 (a0.Frames + 1)) }).Ops) + (a1.Ops.length : Int))) } with State := r14.1 }, a1.N != 1)
            else
              some ({ { { a0 with Frames := min 1000000000 (w64 (a0.Frames + 1)) } with Ops := min 1000000000 (w64 ((({ a0 with Frames := min 1000000000 (w64 (a0.Frames + 1)) }).Ops) + (a1.Ops.length : Int))) } with State := r14.1 }, false)) >>= fun s21 =>
            if s21.2 then
              braidref25_bye 1 >>= fun r24 =>
              some ({ s21.1 with State := 4 }, r24, 0)
            else
              if r14.2 == 1 then
                braidref25_Twin a1 >>= fun r27 =>
                some (s21.1, [(⟨1, r27⟩ : api_Doing), (⟨2, (⟨0, 0, [], []⟩ : api_Frame)⟩ : api_Doing)], 0)
              else
                braidref25_Twin a1 >>= fun r31 =>
                some (s21.1, [(⟨r14.2, r31⟩ : api_Doing)], 0)
set_option maxRecDepth 100000 in
theorem braidref25_Take_ok (a0 : api_Session) (a1 : api_Frame) : Spec Try.prog 84 [.rd R_api_Session a0, .rd R_api_Frame a1] [] (braidref25_Take a0 a1) (fun r nv => ⟨[.rd R_api_Session r.1, .val (nv 0), .rd i64R r.2.2], [(100, some (nv 0, .list R_api_Doing 136 r.2.1))]⟩) := by
  refine spec 85 Try.func84 rfl rfl rfl fun H w => ?_
  refine gSeq <| gReg <| Eb rfl (bx 1 rfl) fun v1 => Eb rfl (bx 2 rfl) fun v2 => Eb rfl (allc 3 ti66 (.zr zr66)) fun v3 => R rfl (asg rfl) <| R rfl (asg rfl) <| gNil <| eThen <| gSeq <| gSeq <| gReg <| R rfl (ld 1 rfl rfl Foc.here ty66 rfl) <| call [] [] rfl Try.func86 rfl rfl (braidref25_Check_ok _) (aQ rfl <| aN) rN fun r4 n5 => R rfl (asg rfl) <| gNil <| eThen <| gSeq <| gReg <| R rfl (mv rfl) <| R rfl (I.neq rfl rfl) <| gNil <| eThen <| gIf rfl rfl (fun h6 => ?_) (fun h6 => ?_)
  · skip
    refine gSeq <| gReg <| R rfl (bld (x' := (⟨0, 0, 0, 0⟩ : api_Session)) [(0, 1), (1, 1), (2, 1), (3, 1)] Try.underlying66 ti66 rfl zr66 rfl (Bld.done rfl)) <| R rfl (mv rfl) <| Es (sto 3 rfl rfl Foc.here rfl ti66) <| R rfl (asg rfl) <| R rfl (asg rfl) <| gNil <| eThen <| gRet <| eTret <| eNew R_api_Doing 136 4 <| eRet [(.slice none 0 0)] [4] rfl (eC 3 rfl rfl ty66 <| eE rfl <| eE rfl <| eN) (rR rfl rfl <| rN)
  · skip
    refine gSkip <| eThen <| gSeq <| gSeq <| gReg <| R rfl (ld 2 rfl rfl Foc.here ty105 rfl) <| call [] [] rfl Try.func77 rfl rfl (braidref07_Check_ok _) (aQ rfl <| aN) rN fun r7 n8 => R rfl (I.neq rfl rfl) <| gNil <| eThen <| gIf rfl rfl (fun h9 => ?_) (fun h9 => ?_)
    · skip
      refine gSeq <| gReg <| R rfl (bld (x' := (⟨0, 0, 0, 0⟩ : api_Session)) [(0, 1), (1, 1), (2, 1), (3, 1)] Try.underlying66 ti66 rfl zr66 rfl (Bld.done rfl)) <| Es (sto 3 rfl rfl Foc.here rfl ti66) <| R rfl (asg rfl) <| R rfl (asg rfl) <| gNil <| eThen <| gRet <| eTret <| eNew R_api_Doing 136 5 <| eRet [(.slice none 0 0)] [5] rfl (eC 3 rfl rfl ty66 <| eE rfl <| eE rfl <| eN) (rR rfl rfl <| rN)
    · skip
      refine gSkip <| eThen <| gSeq <| gSeq <| gReg <| R rfl (ld 1 rfl rfl Foc.here ty66 rfl) <| call [] [] rfl Try.func90 rfl rfl (braidref25_Over_ok _) (aQ rfl <| aN) rN fun r10 n11 => gNil <| eThen <| gIf rfl rfl (fun h12 => ?_) (fun h12 => ?_)
      · skip
        refine gSeq <| gReg <| R rfl (ld 1 rfl rfl Foc.here ty66 rfl) <| Es (sto 3 rfl rfl Foc.here rfl ti66) <| R rfl (asg rfl) <| R rfl (asg rfl) <| gNil <| eThen <| gRet <| eTret <| eNew R_api_Doing 136 6 <| eRet [(.slice none 0 0)] [6] rfl (eC 3 rfl rfl ty66 <| eE rfl <| eE rfl <| eN) (rR rfl rfl <| rN)
      · skip
        refine gSkip <| eThen <| gSeq <| gReg <| R rfl (faB 1 rfl rfl Try.underlying66 rfl (by exact ti3)) <| R rfl (ld 1 rfl rfl ((Foc.here).part (pt_api_Session_Frames _)) ty3 rfl) <| R rfl (I.add rfl rfl) <| R rfl (I.min rfl rfl) <| R rfl (faB 1 rfl rfl Try.underlying66 rfl (by exact ti3)) <| Es (sto 1 rfl rfl ((Foc.here).part (pt_api_Session_Frames _)) rfl ti3) <| gNil <| eThen <| gSeq <| gReg <| R rfl (faB 1 rfl rfl Try.underlying66 rfl (by exact ti3)) <| R rfl (ld 1 rfl rfl ((Foc.here).part (pt_api_Session_Ops _)) ty3 rfl) <| R rfl (faB 2 rfl rfl Try.underlying105 rfl (by exact ti103)) <| R rfl (ld 2 rfl rfl ((Foc.here).part (pt_api_Frame_Ops _)) ty103 rfl) <| R rfl (len' rfl .rd rfl Try.underlying103) <| R rfl (I.add rfl rfl) <| R rfl (I.min rfl rfl) <| R rfl (faB 1 rfl rfl Try.underlying66 rfl (by exact ti3)) <| Es (sto 1 rfl rfl ((Foc.here).part (pt_api_Session_Ops _)) rfl ti3) <| gNil <| eThen <| gSeq <| gReg <| R rfl (faB 1 rfl rfl Try.underlying66 rfl (by exact ti5)) <| R rfl (ld 1 rfl rfl ((Foc.here).part (pt_api_Session_State _)) ty5 rfl) <| R rfl (asg rfl) <| lName 8 rfl fun y13 => gNil <| eThen <| gSeq <| gReg <| R rfl (mv rfl) <| R rfl (faB 2 rfl rfl Try.underlying105 rfl (by exact ti5)) <| R rfl (ld 2 rfl rfl ((Foc.here).part (pt_api_Frame_Kind _)) ty5 rfl) <| call [] [] rfl Try.func114 rfl rfl (braidref25_State_ok _ _) (aQ rfl <| aQ rfl <| aN) rN fun r14 n15 => R rfl (mv rfl) <| R rfl (ext rfl rfl) <| R rfl (ext rfl rfl) <| R rfl (asg rfl) <| R rfl (asg rfl) <| gNil <| eThen <| gSeq <| gReg <| R rfl (mv rfl) <| R rfl (faB 1 rfl rfl Try.underlying66 rfl (by exact ti5)) <| Es (sto 1 rfl rfl ((Foc.here).part (pt_api_Session_State _)) rfl ti5) <| gNil <| eThen <| gSeq <| gBlk <| gSeq <| gReg <| R rfl (mv rfl) <| R rfl (B.eql rfl rfl) <| R rfl (asg rfl) <| gNil <| eThen <| gIf rfl rfl (fun h16 => ?_) (fun h16 => ?_)
        · skip
          refine gKn 50 rfl h16 <| gSeq <| gRegH [3, 10] mixed rfl rfl <| hTake 0 rfl (by kernel_rfl) (by kernel_rfl) (by kernel_rfl) (gd0 rfl) rfl rfl (ld 1 rfl rfl Foc.here ty66 rfl) <| hCallF 1 [] [(100, 10)] rfl (by kernel_rfl) rfl (gd0 rfl) rfl Try.func111 rfl rfl (braidref25_bye_ok _) (aQ rfl <| aN) rN rfl (fun _ _ => flat_val) fun r17 n18 => hDoS 2 rfl (by kernel_rfl) (gd0 rfl) rfl rfl rfl rfl (sto 3 rfl rfl Foc.here rfl ti66) <| hTakeF 3 rfl (by kernel_rfl) (by kernel_rfl) (by kernel_rfl) (gd0 rfl) rfl rfl flat_val (asg rfl) <| hTake 4 rfl (by kernel_rfl) (by kernel_rfl) (by kernel_rfl) (gd0 rfl) rfl rfl (asg rfl) <| hDone (by kernel_rfl) <| eThen <| gRet <| eBret <| eTret <| eRet [(n18 0)] [10] rfl (eC 3 rfl rfl ty66 <| eE rfl <| eE rfl <| eN) (rR rfl rfl <| rN)
        · skip
          refine gKn 50 rfl h16 <| gSeq <| gReg <| R rfl (mv rfl) <| R rfl (B.eql rfl rfl) <| R rfl (asg rfl) <| gNil <| eThen <| gIf rfl rfl (fun h19 => ?_) (fun h19 => ?_)
          · skip
            refine gKn 55 rfl h19 <| gSeq <| gReg <| R rfl (ld 1 rfl rfl Foc.here ty66 rfl) <| R rfl (bld (x' := (⟨6, (⟨0, 0, [], []⟩ : api_Frame)⟩ : api_Doing)) [(0, 1), (1, 4)] Try.underlying136 ti136 rfl zr136 rfl (Bld.cons (pt_api_Doing_Kind _) rfl rfl <| Bld.done rfl)) <| Ef rfl (lit (R := R_api_Doing) ([(⟨6, (⟨0, 0, [], []⟩ : api_Frame)⟩ : api_Doing)] : List api_Doing) 25 (pP rfl rfl <| pN) rfl Try.underlying67 ti136 rfl rfl) fun v20 => Es (sto 3 rfl rfl Foc.here rfl ti66) <| R rfl (asg rfl) <| R rfl (asg rfl) <| gNil <| eThen <| gRet <| eBret <| eTret <| eRet [v20] [25] rfl (eC 3 rfl rfl ty66 <| eE rfl <| eE rfl <| eN) (rR rfl rfl <| rN)
          · skip
            refine gKn 55 rfl h19 <| gMid (fun (s21 : api_Session × Bool) aa ww => Sta (ctx 85 H [] w) [(2, .val (ptrTo v1 0)), (3, .val (ptrTo v2 0)), (4, .val (ptrTo v3 0)), (10, .rd u8R r14.2), (59, .rd boolR s21.2)] [(1, some (v1, .box 66 [.rd R_api_Session s21.1])), (2, some (v2, .box 105 [.rd R_api_Frame a1])), (3, some (v3, .box 66 [.rd R_api_Session (⟨0, 0, 0, 0⟩ : api_Session)]))] aa ww) ?_ (fun s21 => ?_)
            · skip
              refine gReg <| R rfl (mv rfl) <| R rfl (B.eql rfl rfl) <| R rfl (mv rfl) <| lSplit 62 rfl (fun h22 => ?_) (fun h22 => ?_)
              · skip
                refine lKn 61 rfl h22 <| lRun (gd rfl rfl rfl rfl) rfl rfl (faB 2 rfl rfl Try.underlying105 rfl (by exact ti31)) <| lRun (gd rfl rfl rfl rfl) rfl rfl (ld 2 rfl rfl ((Foc.here).part (pt_api_Frame_N _)) ty31 rfl) <| lRun (gd rfl rfl rfl rfl) rfl rfl (U.neq rfl rfl) <| R rfl (pkT rfl rfl) <| R rfl (asg rfl) <| gNil <| eMid (fun aa ww h => h.sub [1, 2, 3] (sS rfl <| sS rfl <| sS rfl <| sS rfl <| sS rfl <| sN) (rR rfl rfl <| rR rfl rfl <| rR rfl rfl <| rN))
              · skip
                refine lKn 61 rfl h22 <| lSkip (gd rfl rfl rfl rfl) rfl rfl <| lSkip (gd rfl rfl rfl rfl) rfl rfl <| lSkip (gd rfl rfl rfl rfl) rfl rfl <| R rfl (pkF rfl rfl) <| R rfl (asg rfl) <| gNil <| eMid (fun aa ww h => h.sub [1, 2, 3] (sS rfl <| sS rfl <| sS rfl <| sS rfl <| sS rfl <| sN) (rR rfl rfl <| rR rfl rfl <| rR rfl rfl <| rN))
            · skip
              refine gIf rfl rfl (fun h23 => ?_) (fun h23 => ?_)
              · skip
                refine gSeq <| gReg <| R rfl (faB 1 rfl rfl Try.underlying66 rfl (by exact ti5)) <| Es (sto 1 rfl rfl ((Foc.here).part (pt_api_Session_State _)) rfl ti5) <| gNil <| eThen <| gSeq <| gRegH [3, 29] mixed rfl rfl <| hTake 0 rfl (by kernel_rfl) (by kernel_rfl) (by kernel_rfl) (gd0 rfl) rfl rfl (ld 1 rfl rfl Foc.here ty66 rfl) <| hCallF 1 [] [(100, 29)] rfl (by kernel_rfl) rfl (gd0 rfl) rfl Try.func111 rfl rfl (braidref25_bye_ok _) (aQ rfl <| aN) rN rfl (fun _ _ => flat_val) fun r24 n25 => hDoS 2 rfl (by kernel_rfl) (gd0 rfl) rfl rfl rfl rfl (sto 3 rfl rfl Foc.here rfl ti66) <| hTakeF 3 rfl (by kernel_rfl) (by kernel_rfl) (by kernel_rfl) (gd0 rfl) rfl rfl flat_val (asg rfl) <| hTake 4 rfl (by kernel_rfl) (by kernel_rfl) (by kernel_rfl) (gd0 rfl) rfl rfl (asg rfl) <| hDone (by kernel_rfl) <| eThen <| gRet <| eBret <| eTret <| eRet [(n25 0)] [29] rfl (eC 3 rfl rfl ty66 <| eE rfl <| eE rfl <| eN) (rR rfl rfl <| rN)
              · skip
                refine gSeq <| gReg <| R rfl (mv rfl) <| R rfl (B.eql rfl rfl) <| R rfl (asg rfl) <| gNil <| eThen <| gIf rfl rfl (fun h26 => ?_) (fun h26 => ?_)
                · skip
                  refine gKn 72 rfl h26 <| gSeq <| gRegH [3, 59] mixed rfl rfl <| hTake 0 rfl (by kernel_rfl) (by kernel_rfl) (by kernel_rfl) (gd0 rfl) rfl rfl (ld 1 rfl rfl Foc.here ty66 rfl) <| hTake 1 rfl (by kernel_rfl) (by kernel_rfl) (by kernel_rfl) (gd0 rfl) rfl rfl (ld 2 rfl rfl Foc.here ty105 rfl) <| hTake 4 rfl (by kernel_rfl) (by kernel_rfl) (by kernel_rfl) (gd0 rfl) rfl rfl (bld (x' := (⟨2, (⟨0, 0, [], []⟩ : api_Frame)⟩ : api_Doing)) [(0, 1), (1, 4)] Try.underlying136 ti136 rfl zr136 rfl (Bld.cons (pt_api_Doing_Kind _) rfl rfl <| Bld.done rfl)) <| hCallJ 2 [] [] rfl (by kernel_rfl) rfl (gd0 rfl) rfl Try.func82 rfl rfl (braidref25_Twin_ok _) (aQ rfl <| aN) rN rfl fun r27 n28 => hTakeP 3 rfl (by kernel_rfl) (by kernel_rfl) (by kernel_rfl) (gd0 rfl) rfl rfl (bld (x' := (⟨1, r27⟩ : api_Doing)) [(0, 1), (1, 4)] Try.underlying136 ti136 rfl zr136 rfl (Bld.cons (pt_api_Doing_Kind _) rfl rfl <| Bld.cons (pt_api_Doing_Frame _) rfl rfl <| Bld.done rfl)) <| hAlt [5, 6] (by kernel_rfl) rfl ⟨?_, ?_, trivial⟩
                  · skip
                    refine oDo 5 rfl (gd0 rfl) rfl rfl rfl (lit (R := R_api_Doing) ([(⟨1, r27⟩ : api_Doing), (⟨2, (⟨0, 0, [], []⟩ : api_Frame)⟩ : api_Doing)] : List api_Doing) 59 (pP rfl rfl <| pP rfl rfl <| pN) rfl Try.underlying67 ti136 rfl rfl) (fun _ => rfl) fun v29 => hDoS 6 rfl (by kernel_rfl) (gd0 rfl) rfl rfl rfl rfl (sto 3 rfl rfl Foc.here rfl ti66) <| hTakeF 7 rfl (by kernel_rfl) (by kernel_rfl) (by kernel_rfl) (gd0 rfl) rfl rfl flat_val (asg rfl) <| hTake 8 rfl (by kernel_rfl) (by kernel_rfl) (by kernel_rfl) (gd0 rfl) rfl rfl (asg rfl) <| hDone (by kernel_rfl) <| eThen <| gRet <| eBret <| eTret <| eRet [v29] [59] rfl (eC 3 rfl rfl ty66 <| eE rfl <| eE rfl <| eN) (rR rfl rfl <| rN)
                  · skip
                    refine oDoS 6 rfl (gd0 rfl) rfl rfl rfl rfl (sto 3 rfl rfl Foc.here rfl ti66) <| hDo 5 rfl (by kernel_rfl) (gd0 rfl) rfl rfl rfl (lit (R := R_api_Doing) ([(⟨1, r27⟩ : api_Doing), (⟨2, (⟨0, 0, [], []⟩ : api_Frame)⟩ : api_Doing)] : List api_Doing) 59 (pP rfl rfl <| pP rfl rfl <| pN) rfl Try.underlying67 ti136 rfl rfl) (fun _ => rfl) fun v30 => hTakeF 7 rfl (by kernel_rfl) (by kernel_rfl) (by kernel_rfl) (gd0 rfl) rfl rfl flat_val (asg rfl) <| hTake 8 rfl (by kernel_rfl) (by kernel_rfl) (by kernel_rfl) (gd0 rfl) rfl rfl (asg rfl) <| hDone (by kernel_rfl) <| eThen <| gRet <| eBret <| eTret <| eRet [v30] [59] rfl (eC 3 rfl rfl ty66 <| eE rfl <| eE rfl <| eN) (rR rfl rfl <| rN)
                · skip
                  refine gKn 72 rfl h26 <| gSkip <| eBlk <| eThen <| gSeq <| gRegH [3, 89] mixed rfl rfl <| hTake 0 rfl (by kernel_rfl) (by kernel_rfl) (by kernel_rfl) (gd0 rfl) rfl rfl (ld 1 rfl rfl Foc.here ty66 rfl) <| hTake 1 rfl (by kernel_rfl) (by kernel_rfl) (by kernel_rfl) (gd0 rfl) rfl rfl (mv rfl) <| hTake 2 rfl (by kernel_rfl) (by kernel_rfl) (by kernel_rfl) (gd0 rfl) rfl rfl (ld 2 rfl rfl Foc.here ty105 rfl) <| hCallJ 3 [] [] rfl (by kernel_rfl) rfl (gd0 rfl) rfl Try.func82 rfl rfl (braidref25_Twin_ok _) (aQ rfl <| aN) rN rfl fun r31 n32 => hTakeP 4 rfl (by kernel_rfl) (by kernel_rfl) (by kernel_rfl) (gd0 rfl) rfl rfl (bld (x' := (⟨r14.2, r31⟩ : api_Doing)) [(0, 1), (1, 4)] Try.underlying136 ti136 rfl zr136 rfl (Bld.cons (pt_api_Doing_Kind _) rfl rfl <| Bld.cons (pt_api_Doing_Frame _) rfl rfl <| Bld.done rfl)) <| hAlt [5, 6] (by kernel_rfl) rfl ⟨?_, ?_, trivial⟩
                  · skip
                    refine oDo 5 rfl (gd0 rfl) rfl rfl rfl (lit (R := R_api_Doing) ([(⟨r14.2, r31⟩ : api_Doing)] : List api_Doing) 89 (pP rfl rfl <| pN) rfl Try.underlying67 ti136 rfl rfl) (fun _ => rfl) fun v33 => hDoS 6 rfl (by kernel_rfl) (gd0 rfl) rfl rfl rfl rfl (sto 3 rfl rfl Foc.here rfl ti66) <| hTakeF 7 rfl (by kernel_rfl) (by kernel_rfl) (by kernel_rfl) (gd0 rfl) rfl rfl flat_val (asg rfl) <| hTake 8 rfl (by kernel_rfl) (by kernel_rfl) (by kernel_rfl) (gd0 rfl) rfl rfl (asg rfl) <| hDone (by kernel_rfl) <| eThen <| gRet <| eRet [v33] [89] rfl (eC 3 rfl rfl ty66 <| eE rfl <| eE rfl <| eN) (rR rfl rfl <| rN)
                  · skip
                    refine oDoS 6 rfl (gd0 rfl) rfl rfl rfl rfl (sto 3 rfl rfl Foc.here rfl ti66) <| hDo 5 rfl (by kernel_rfl) (gd0 rfl) rfl rfl rfl (lit (R := R_api_Doing) ([(⟨r14.2, r31⟩ : api_Doing)] : List api_Doing) 89 (pP rfl rfl <| pN) rfl Try.underlying67 ti136 rfl rfl) (fun _ => rfl) fun v34 => hTakeF 7 rfl (by kernel_rfl) (by kernel_rfl) (by kernel_rfl) (gd0 rfl) rfl rfl flat_val (asg rfl) <| hTake 8 rfl (by kernel_rfl) (by kernel_rfl) (by kernel_rfl) (gd0 rfl) rfl rfl (asg rfl) <| hDone (by kernel_rfl) <| eThen <| gRet <| eRet [v34] [89] rfl (eC 3 rfl rfl ty66 <| eE rfl <| eE rfl <| eN) (rR rfl rfl <| rN)

def braidref25_SameFrame_L0 (a0 : api_Frame) (a1 : api_Frame) (s9 : Int) : Option (Sum (Sum Bool Unit) Int) :=
  if decide (s9 < (a0.IDs.length : Int)) then
    idx a0.IDs s9 >>= fun x11 =>
    idx a1.IDs s9 >>= fun x13 =>
    if !decide (x11 = x13) then
      some (.inl (.inl false))
    else
      some (.inr (w64 (s9 + 1)))
  else
    some (.inl (.inr ()))
def braidref25_SameFrame_L2 (a0 : api_Frame) (a1 : api_Frame) (s17 : Int) : Option (Sum (Sum Bool Unit) Int) :=
  if decide (s17 < (a0.Ops.length : Int)) then
    idx a0.Ops s17 >>= fun x19 =>
    idx a1.Ops s17 >>= fun x21 =>
    if x19 != x21 then
      some (.inl (.inl false))
    else
      some (w64 (s17 + 1)) >>= fun y24 =>
      some (.inr y24)
  else
    some (.inl (.inr ()))
def braidref25_SameFrame (a0 : api_Frame) (a1 : api_Frame) : Option (Bool) :=
  (if a0.Kind != a1.Kind then
    some true
  else
    if a0.N != a1.N then
      some true
    else
      if (a0.IDs.length : Int) != (a1.IDs.length : Int) then
        some true
      else
        some ((a0.Ops.length : Int) != (a1.Ops.length : Int))) >>= fun s3 =>
  if s3 then
    some false
  else
    orRet (iter (braidref25_SameFrame_L0 a0 a1) 0) fun s8 =>
    orRet (iter (braidref25_SameFrame_L2 a0 a1) 0) fun s16 =>
    some true
set_option maxRecDepth 100000 in
theorem braidref25_SameFrame_ok (a0 : api_Frame) (a1 : api_Frame) : Spec Try.prog 87 [.rd R_api_Frame a0, .rd R_api_Frame a1] [] (braidref25_SameFrame a0 a1) (fun r nv => ⟨[.rd boolR r], []⟩) := by
  refine spec 75 Try.func87 rfl rfl rfl fun H w => ?_
  refine gSeq <| gReg <| Eb rfl (bx 1 rfl) fun v1 => Eb rfl (bx 2 rfl) fun v2 => R rfl (asg rfl) <| gNil <| eThen <| gSeq <| gMid (fun (s3 : Bool) aa ww => Sta (ctx 75 H [] w) [(2, .val (ptrTo v1 0)), (3, .val (ptrTo v2 0)), (36, .rd boolR s3)] [(1, some (v1, .box 105 [.rd R_api_Frame a0])), (2, some (v2, .box 105 [.rd R_api_Frame a1]))] aa ww) ?_ (fun s3 => ?_)
  · skip
    refine gReg <| R rfl (faB 1 rfl rfl Try.underlying105 rfl (by exact ti5)) <| R rfl (ld 1 rfl rfl ((Foc.here).part (pt_api_Frame_Kind _)) ty5 rfl) <| R rfl (faB 2 rfl rfl Try.underlying105 rfl (by exact ti5)) <| R rfl (ld 2 rfl rfl ((Foc.here).part (pt_api_Frame_Kind _)) ty5 rfl) <| R rfl (B.neq rfl rfl) <| R rfl (mv rfl) <| lSplit 12 rfl (fun h4 => ?_) (fun h4 => ?_)
    · skip
      refine lKn 11 rfl h4 <| lSkip (gd rfl rfl rfl rfl) rfl rfl <| lSkip (gd rfl rfl rfl rfl) rfl rfl <| lSkip (gd rfl rfl rfl rfl) rfl rfl <| lSkip (gd rfl rfl rfl rfl) rfl rfl <| lSkip (gd rfl rfl rfl rfl) rfl rfl <| R rfl (pkT rfl rfl) <| R rfl (mv rfl) <| lSkip (gd rfl rfl rfl rfl) rfl rfl <| lSkip (gd rfl rfl rfl rfl) rfl rfl <| lSkip (gd rfl rfl rfl rfl) rfl rfl <| lSkip (gd rfl rfl rfl rfl) rfl rfl <| lSkip (gd rfl rfl rfl rfl) rfl rfl <| lSkip (gd rfl rfl rfl rfl) rfl rfl <| lSkip (gd rfl rfl rfl rfl) rfl rfl <| R rfl (pkT rfl rfl) <| R rfl (mv rfl) <| lSkip (gd rfl rfl rfl rfl) rfl rfl <| lSkip (gd rfl rfl rfl rfl) rfl rfl <| lSkip (gd rfl rfl rfl rfl) rfl rfl <| lSkip (gd rfl rfl rfl rfl) rfl rfl <| lSkip (gd rfl rfl rfl rfl) rfl rfl <| lSkip (gd rfl rfl rfl rfl) rfl rfl <| lSkip (gd rfl rfl rfl rfl) rfl rfl <| R rfl (pkT rfl rfl) <| gNil <| eMid (fun aa ww h => h.sub [1, 2] (sS rfl <| sS rfl <| sS rfl <| sN) (rR rfl rfl <| rR rfl rfl <| rN))
    · skip
      refine lKn 11 rfl h4 <| lRun (gd rfl rfl rfl rfl) rfl rfl (faB 1 rfl rfl Try.underlying105 rfl (by exact ti31)) <| lRun (gd rfl rfl rfl rfl) rfl rfl (ld 1 rfl rfl ((Foc.here).part (pt_api_Frame_N _)) ty31 rfl) <| lRun (gd rfl rfl rfl rfl) rfl rfl (faB 2 rfl rfl Try.underlying105 rfl (by exact ti31)) <| lRun (gd rfl rfl rfl rfl) rfl rfl (ld 2 rfl rfl ((Foc.here).part (pt_api_Frame_N _)) ty31 rfl) <| lRun (gd rfl rfl rfl rfl) rfl rfl (U.neq rfl rfl) <| R rfl (pkF rfl rfl) <| R rfl (mv rfl) <| lSplit 19 rfl (fun h5 => ?_) (fun h5 => ?_)
      · skip
        refine lKn 17 rfl h5 <| lKn 18 rfl h5 <| lSkip (gd rfl rfl rfl rfl) rfl rfl <| lSkip (gd rfl rfl rfl rfl) rfl rfl <| lSkip (gd rfl rfl rfl rfl) rfl rfl <| lSkip (gd rfl rfl rfl rfl) rfl rfl <| lSkip (gd rfl rfl rfl rfl) rfl rfl <| lSkip (gd rfl rfl rfl rfl) rfl rfl <| lSkip (gd rfl rfl rfl rfl) rfl rfl <| R rfl (pkT rfl rfl) <| R rfl (mv rfl) <| lSkip (gd rfl rfl rfl rfl) rfl rfl <| lSkip (gd rfl rfl rfl rfl) rfl rfl <| lSkip (gd rfl rfl rfl rfl) rfl rfl <| lSkip (gd rfl rfl rfl rfl) rfl rfl <| lSkip (gd rfl rfl rfl rfl) rfl rfl <| lSkip (gd rfl rfl rfl rfl) rfl rfl <| lSkip (gd rfl rfl rfl rfl) rfl rfl <| R rfl (pkT rfl rfl) <| gNil <| eMid (fun aa ww h => h.sub [1, 2] (sS rfl <| sS rfl <| sS rfl <| sN) (rR rfl rfl <| rR rfl rfl <| rN))
      · skip
        refine lKn 17 rfl h5 <| lKn 18 rfl h5 <| lRun (gd rfl rfl rfl rfl) rfl rfl (faB 1 rfl rfl Try.underlying105 rfl (by exact ti83)) <| lRun (gd rfl rfl rfl rfl) rfl rfl (ld 1 rfl rfl ((Foc.here).part (pt_api_Frame_IDs _)) ty83 rfl) <| lRun (gd rfl rfl rfl rfl) rfl rfl (len' rfl .rd rfl Try.underlying83) <| lRun (gd rfl rfl rfl rfl) rfl rfl (faB 2 rfl rfl Try.underlying105 rfl (by exact ti83)) <| lRun (gd rfl rfl rfl rfl) rfl rfl (ld 2 rfl rfl ((Foc.here).part (pt_api_Frame_IDs _)) ty83 rfl) <| lRun (gd rfl rfl rfl rfl) rfl rfl (len' rfl .rd rfl Try.underlying83) <| lRun (gd rfl rfl rfl rfl) rfl rfl (I.neq rfl rfl) <| R rfl (pkF rfl rfl) <| R rfl (mv rfl) <| lSplit 28 rfl (fun h6 => ?_) (fun h6 => ?_)
        · skip
          refine lKn 26 rfl h6 <| lKn 27 rfl h6 <| lSkip (gd rfl rfl rfl rfl) rfl rfl <| lSkip (gd rfl rfl rfl rfl) rfl rfl <| lSkip (gd rfl rfl rfl rfl) rfl rfl <| lSkip (gd rfl rfl rfl rfl) rfl rfl <| lSkip (gd rfl rfl rfl rfl) rfl rfl <| lSkip (gd rfl rfl rfl rfl) rfl rfl <| lSkip (gd rfl rfl rfl rfl) rfl rfl <| R rfl (pkT rfl rfl) <| gNil <| eMid (fun aa ww h => h.sub [1, 2] (sS rfl <| sS rfl <| sS rfl <| sN) (rR rfl rfl <| rR rfl rfl <| rN))
        · skip
          refine lKn 26 rfl h6 <| lKn 27 rfl h6 <| lRun (gd rfl rfl rfl rfl) rfl rfl (faB 1 rfl rfl Try.underlying105 rfl (by exact ti103)) <| lRun (gd rfl rfl rfl rfl) rfl rfl (ld 1 rfl rfl ((Foc.here).part (pt_api_Frame_Ops _)) ty103 rfl) <| lRun (gd rfl rfl rfl rfl) rfl rfl (len' rfl .rd rfl Try.underlying103) <| lRun (gd rfl rfl rfl rfl) rfl rfl (faB 2 rfl rfl Try.underlying105 rfl (by exact ti103)) <| lRun (gd rfl rfl rfl rfl) rfl rfl (ld 2 rfl rfl ((Foc.here).part (pt_api_Frame_Ops _)) ty103 rfl) <| lRun (gd rfl rfl rfl rfl) rfl rfl (len' rfl .rd rfl Try.underlying103) <| lRun (gd rfl rfl rfl rfl) rfl rfl (I.neq rfl rfl) <| R rfl (pkF rfl rfl) <| gNil <| eMid (fun aa ww h => h.sub [1, 2] (sS rfl <| sS rfl <| sS rfl <| sN) (rR rfl rfl <| rR rfl rfl <| rN))
  · skip
    refine gIf rfl rfl (fun h7 => ?_) (fun h7 => ?_)
    · skip
      refine gSeq <| gReg <| R rfl (asg rfl) <| gNil <| eThen <| gRet <| eTret <| eRet [] [] rfl (eE rfl <| eN) (rN)
    · skip
      refine gSkip <| eThen <| gMidR (fun (s8 : Unit) aa ww => Sta (ctx 75 H [] w) [(2, .val (ptrTo v1 0)), (3, .val (ptrTo v2 0))] [(1, some (v1, .box 105 [.rd R_api_Frame a0])), (2, some (v2, .box 105 [.rd R_api_Frame a1]))] aa ww) ?_ (fun s8 => ?_)
      · skip
        refine gSeq <| gReg <| R rfl (asg rfl) <| gNil <| eThen <| gLoop (fun (s9 : Int) aa ww => Sta (ctx 75 H [] w) [(2, .val (ptrTo v1 0)), (3, .val (ptrTo v2 0)), (5, .rd i64R s9)] [(1, some (v1, .box 105 [.rd R_api_Frame a0])), (2, some (v2, .box 105 [.rd R_api_Frame a1]))] aa ww) (fun aa ww h => h.sub [1, 2] (sS rfl <| sS rfl <| sS rfl <| sN) (rR rfl rfl <| rR rfl rfl <| rN)) (fun s9 => ?_)
        refine gSeq <| gSeq <| gReg <| R rfl (mv rfl) <| R rfl (faB 1 rfl rfl Try.underlying105 rfl (by exact ti83)) <| R rfl (ld 1 rfl rfl ((Foc.here).part (pt_api_Frame_IDs _)) ty83 rfl) <| R rfl (len' rfl .rd rfl Try.underlying83) <| R rfl (I.lss rfl rfl) <| gNil <| eThen <| gIf rfl rfl (fun h10 => ?_) (fun h10 => ?_)
        · skip
          refine gSkip <| eThen <| gSeq <| gBlk <| gSeq <| gRegQ mixed (by kernel_rfl) <| Rq rfl (faB 1 rfl rfl Try.underlying105 rfl (by exact ti83)) <| Rq rfl (ld 1 rfl rfl ((Foc.here).part (pt_api_Frame_IDs _)) ty83 rfl) <| Rq rfl (mv rfl) <| qBind fun x11 h12 => Rq rfl (ixR rfl rfl h12 Try.underlying83 ti102 rfl) <| Rq rfl (ldR rfl ty102) <| Rq rfl (faB 2 rfl rfl Try.underlying105 rfl (by exact ti83)) <| Rq rfl (ld 2 rfl rfl ((Foc.here).part (pt_api_Frame_IDs _)) ty83 rfl) <| Rq rfl (mv rfl) <| qBind fun x13 h14 => Rq rfl (ixR rfl rfl h14 Try.underlying83 ti102 rfl) <| Rq rfl (ldR rfl ty102) <| Rq rfl (neA rfl rfl eq102 rfl rfl gq102) <| qNil <| eThen <| gIf rfl rfl (fun h15 => ?_) (fun h15 => ?_)
          · skip
            refine gSeq <| gReg <| R rfl (asg rfl) <| gNil <| eThen <| gRet <| eBret <| eTret <| eLret <| eMret <| eRet [] [] rfl (eE rfl <| eN) (rN)
          · skip
            refine gSkip <| eBlk <| eThen <| gReg <| R rfl (mv rfl) <| R rfl (I.add rfl rfl) <| R rfl (asg rfl) <| gNil <| eNext (fun aa ww h => h.sub [1, 2] (sS rfl <| sS rfl <| sS rfl <| sN) (rR rfl rfl <| rR rfl rfl <| rN))
        · skip
          refine gExit <| eTexit <| eLeave <| eMidR (fun aa ww h => h.sub [1, 2] (sS rfl <| sS rfl <| sN) (rR rfl rfl <| rR rfl rfl <| rN))
      · skip
        refine gMidR (fun (s16 : Unit) aa ww => Sta (ctx 75 H [] w) [] [] aa ww) ?_ (fun s16 => ?_)
        · skip
          refine gSeq <| gReg <| R rfl (asg rfl) <| gNil <| eThen <| gLoop (fun (s17 : Int) aa ww => Sta (ctx 75 H [] w) [(2, .val (ptrTo v1 0)), (3, .val (ptrTo v2 0)), (6, .rd i64R s17)] [(1, some (v1, .box 105 [.rd R_api_Frame a0])), (2, some (v2, .box 105 [.rd R_api_Frame a1]))] aa ww) (fun aa ww h => h.sub [1, 2] (sS rfl <| sS rfl <| sS rfl <| sN) (rR rfl rfl <| rR rfl rfl <| rN)) (fun s17 => ?_)
          refine gSeq <| gSeq <| gReg <| R rfl (mv rfl) <| R rfl (faB 1 rfl rfl Try.underlying105 rfl (by exact ti103)) <| R rfl (ld 1 rfl rfl ((Foc.here).part (pt_api_Frame_Ops _)) ty103 rfl) <| R rfl (len' rfl .rd rfl Try.underlying103) <| R rfl (I.lss rfl rfl) <| gNil <| eThen <| gIf rfl rfl (fun h18 => ?_) (fun h18 => ?_)
          · skip
            refine gSkip <| eThen <| gSeq <| gBlk <| gSeq <| gRegQ mixed (by kernel_rfl) <| Rq rfl (faB 1 rfl rfl Try.underlying105 rfl (by exact ti103)) <| Rq rfl (ld 1 rfl rfl ((Foc.here).part (pt_api_Frame_Ops _)) ty103 rfl) <| Rq rfl (mv rfl) <| qBind fun x19 h20 => Rq rfl (ixR rfl rfl h20 Try.underlying103 ti32 rfl) <| Rq rfl (ldR rfl ty32) <| Rq rfl (cvBS rfl Try.underlying32 Try.underlying5 Try.underlying9) <| Rq rfl (faB 2 rfl rfl Try.underlying105 rfl (by exact ti103)) <| Rq rfl (ld 2 rfl rfl ((Foc.here).part (pt_api_Frame_Ops _)) ty103 rfl) <| Rq rfl (mv rfl) <| qBind fun x21 h22 => Rq rfl (ixR rfl rfl h22 Try.underlying103 ti32 rfl) <| Rq rfl (ldR rfl ty32) <| Rq rfl (cvBS rfl Try.underlying32 Try.underlying5 Try.underlying9) <| Rq rfl (neS rfl rfl) <| qNil <| eThen <| gIf rfl rfl (fun h23 => ?_) (fun h23 => ?_)
            · skip
              refine gSeq <| gReg <| R rfl (asg rfl) <| gNil <| eThen <| gRet <| eBret <| eTret <| eLret <| eMret <| eRet [] [] rfl (eE rfl <| eN) (rN)
            · skip
              refine gSkip <| eBlk <| eThen <| gReg <| R rfl (mv rfl) <| R rfl (I.add rfl rfl) <| R rfl (asg rfl) <| lName 6 rfl fun y24 => gNil <| eNext (fun aa ww h => h.sub [1, 2] (sS rfl <| sS rfl <| sS rfl <| sN) (rR rfl rfl <| rR rfl rfl <| rN))
          · skip
            refine gExit <| eTexit <| eLeave <| eMidR (fun aa ww h => h.sub [] (sN) (rN))
        · skip
          refine gSeq <| gReg <| R rfl (asg rfl) <| gNil <| eThen <| gRet <| eRet [] [] rfl (eE rfl <| eN) (rN)

def braidref25_Same_L0 (a0 : List api_Doing) (a1 : List api_Doing) (s3 : Int) : Option (Sum (Sum Bool Unit) Int) :=
  if decide (s3 < (a0.length : Int)) then
    idx a0 s3 >>= fun x5 =>
    idx a1 s3 >>= fun x7 =>
    if x5.Kind != x7.Kind then
      some (.inl (.inl false))
    else
      idx a0 s3 >>= fun x10 =>
      idx a1 s3 >>= fun x12 =>
      braidref25_SameFrame x10.Frame x12.Frame >>= fun r14 =>
      if !r14 then
        some (.inl (.inl false))
      else
        some (.inr (w64 (s3 + 1)))
  else
    some (.inl (.inr ()))
def braidref25_Same (a0 : List api_Doing) (a1 : List api_Doing) : Option (Bool) :=
  if (a0.length : Int) != (a1.length : Int) then
    some false
  else
    orRet (iter (braidref25_Same_L0 a0 a1) 0) fun s2 =>
    some true
set_option maxRecDepth 100000 in
theorem braidref25_Same_ok (a0 : List api_Doing) (a1 : List api_Doing) : Spec Try.prog 58 [.rd (sliceR R_api_Doing) a0, .rd (sliceR R_api_Doing) a1] [] (braidref25_Same a0 a1) (fun r nv => ⟨[.rd boolR r], []⟩) := by
  refine spec 42 Try.func58 rfl rfl rfl fun H w => ?_
  refine gSeq <| gReg <| R rfl (asg rfl) <| gNil <| eThen <| gSeq <| gSeq <| gReg <| R rfl (mv rfl) <| R rfl (len' rfl .rd rfl Try.underlying67) <| R rfl (mv rfl) <| R rfl (len' rfl .rd rfl Try.underlying67) <| R rfl (I.neq rfl rfl) <| gNil <| eThen <| gIf rfl rfl (fun h1 => ?_) (fun h1 => ?_)
  · skip
    refine gSeq <| gReg <| R rfl (asg rfl) <| gNil <| eThen <| gRet <| eTret <| eRet [] [] rfl (eE rfl <| eN) (rN)
  · skip
    refine gSkip <| eThen <| gMidR (fun (s2 : Unit) aa ww => Sta (ctx 42 H [] w) [] [] aa ww) ?_ (fun s2 => ?_)
    · skip
      refine gSeq <| gReg <| R rfl (asg rfl) <| gNil <| eThen <| gLoop (fun (s3 : Int) aa ww => Sta (ctx 42 H [] w) [(0, .rd (sliceR R_api_Doing) a0), (1, .rd (sliceR R_api_Doing) a1), (5, .rd i64R s3)] [] aa ww) (fun aa ww h => h.sub [] (sS rfl <| sS rfl <| sS rfl <| sN) (rN)) (fun s3 => ?_)
      refine gSeq <| gSeq <| gReg <| R rfl (mv rfl) <| R rfl (mv rfl) <| R rfl (len' rfl .rd rfl Try.underlying67) <| R rfl (I.lss rfl rfl) <| gNil <| eThen <| gIf rfl rfl (fun h4 => ?_) (fun h4 => ?_)
      · skip
        refine gSkip <| eThen <| gSeq <| gBlk <| gSeq <| gRegH [] mixed rfl rfl <| hTake 0 rfl (by kernel_rfl) (by kernel_rfl) (by kernel_rfl) (gd0 rfl) rfl rfl (mv rfl) <| hTake 1 rfl (by kernel_rfl) (by kernel_rfl) (by kernel_rfl) (gd0 rfl) rfl rfl (mv rfl) <| hBind fun x5 h6 => hTake 2 rfl (by kernel_rfl) (by kernel_rfl) (by kernel_rfl) (gd0 rfl) rfl rfl (ixR rfl rfl h6 Try.underlying67 ti136 rfl) <| hTake 3 rfl (by kernel_rfl) (by kernel_rfl) (by kernel_rfl) (gd0 rfl) rfl rfl (faR rfl (pt_api_Doing_Kind _) Try.underlying136 rfl rfl (by exact ti5)) <| hTake 4 rfl (by kernel_rfl) (by kernel_rfl) (by kernel_rfl) (gd0 rfl) rfl rfl (ldR rfl ty5) <| hTake 5 rfl (by kernel_rfl) (by kernel_rfl) (by kernel_rfl) (gd0 rfl) rfl rfl (mv rfl) <| hTake 6 rfl (by kernel_rfl) (by kernel_rfl) (by kernel_rfl) (gd0 rfl) rfl rfl (mv rfl) <| hBind fun x7 h8 => hTake 7 rfl (by kernel_rfl) (by kernel_rfl) (by kernel_rfl) (gd0 rfl) rfl rfl (ixR rfl rfl h8 Try.underlying67 ti136 rfl) <| hTake 8 rfl (by kernel_rfl) (by kernel_rfl) (by kernel_rfl) (gd0 rfl) rfl rfl (faR rfl (pt_api_Doing_Kind _) Try.underlying136 rfl rfl (by exact ti5)) <| hTake 9 rfl (by kernel_rfl) (by kernel_rfl) (by kernel_rfl) (gd0 rfl) rfl rfl (ldR rfl ty5) <| hTake 10 rfl (by kernel_rfl) (by kernel_rfl) (by kernel_rfl) (gd0 rfl) rfl rfl (B.neq rfl rfl) <| hTake 11 rfl (by kernel_rfl) (by kernel_rfl) (by kernel_rfl) (gd0 rfl) rfl rfl (mv rfl) <| hIf 28 rfl rfl (fun h9 => ?_) (fun h9 => ?_)
        · skip
          refine hKn 27 rfl rfl h9 <| hSkip 12 rfl (by kernel_rfl) (by kernel_rfl) (by kernel_rfl) (gd rfl rfl rfl rfl) rfl rfl <| hSkip 13 rfl (by kernel_rfl) (by kernel_rfl) (by kernel_rfl) (gd rfl rfl rfl rfl) rfl rfl <| hSkip 14 rfl (by kernel_rfl) (by kernel_rfl) (by kernel_rfl) (gd rfl rfl rfl rfl) rfl rfl <| hSkip 15 rfl (by kernel_rfl) (by kernel_rfl) (by kernel_rfl) (gd rfl rfl rfl rfl) rfl rfl <| hSkip 16 rfl (by kernel_rfl) (by kernel_rfl) (by kernel_rfl) (gd rfl rfl rfl rfl) rfl rfl <| hSkip 17 rfl (by kernel_rfl) (by kernel_rfl) (by kernel_rfl) (gd rfl rfl rfl rfl) rfl rfl <| hSkip 18 rfl (by kernel_rfl) (by kernel_rfl) (by kernel_rfl) (gd rfl rfl rfl rfl) rfl rfl <| hSkip 19 rfl (by kernel_rfl) (by kernel_rfl) (by kernel_rfl) (gd rfl rfl rfl rfl) rfl rfl <| hSkip 20 rfl (by kernel_rfl) (by kernel_rfl) (by kernel_rfl) (gd rfl rfl rfl rfl) rfl rfl <| hSkip 21 rfl (by kernel_rfl) (by kernel_rfl) (by kernel_rfl) (gd rfl rfl rfl rfl) rfl rfl <| hSkip 22 rfl (by kernel_rfl) (by kernel_rfl) (by kernel_rfl) (gd rfl rfl rfl rfl) rfl rfl <| hSkip 23 rfl (by kernel_rfl) (by kernel_rfl) (by kernel_rfl) (gd rfl rfl rfl rfl) rfl rfl <| hTake 24 rfl (by kernel_rfl) (by kernel_rfl) (by kernel_rfl) (gd0 rfl) rfl rfl (pkT rfl rfl) <| hDone (by kernel_rfl) <| eThen <| gTrue rfl <| gSeq <| gReg <| R rfl (asg rfl) <| gNil <| eThen <| gRet <| eBret <| eTret <| eLret <| eMret <| eRet [] [] rfl (eE rfl <| eN) (rN)
        · skip
          refine hKn 27 rfl rfl h9 <| hTake 12 rfl (by kernel_rfl) (by kernel_rfl) (by kernel_rfl) (gd rfl rfl rfl rfl) rfl rfl (mv rfl) <| hTake 13 rfl (by kernel_rfl) (by kernel_rfl) (by kernel_rfl) (gd rfl rfl rfl rfl) rfl rfl (mv rfl) <| hBind fun x10 h11 => hTake 14 rfl (by kernel_rfl) (by kernel_rfl) (by kernel_rfl) (gd rfl rfl rfl rfl) rfl rfl (ixR rfl rfl h11 Try.underlying67 ti136 rfl) <| hTake 15 rfl (by kernel_rfl) (by kernel_rfl) (by kernel_rfl) (gd rfl rfl rfl rfl) rfl rfl (faR rfl (pt_api_Doing_Frame _) Try.underlying136 rfl rfl (by exact ti105)) <| hTake 16 rfl (by kernel_rfl) (by kernel_rfl) (by kernel_rfl) (gd rfl rfl rfl rfl) rfl rfl (ldR rfl ty105) <| hTake 17 rfl (by kernel_rfl) (by kernel_rfl) (by kernel_rfl) (gd rfl rfl rfl rfl) rfl rfl (mv rfl) <| hTake 18 rfl (by kernel_rfl) (by kernel_rfl) (by kernel_rfl) (gd rfl rfl rfl rfl) rfl rfl (mv rfl) <| hBind fun x12 h13 => hTake 19 rfl (by kernel_rfl) (by kernel_rfl) (by kernel_rfl) (gd rfl rfl rfl rfl) rfl rfl (ixR rfl rfl h13 Try.underlying67 ti136 rfl) <| hTake 20 rfl (by kernel_rfl) (by kernel_rfl) (by kernel_rfl) (gd rfl rfl rfl rfl) rfl rfl (faR rfl (pt_api_Doing_Frame _) Try.underlying136 rfl rfl (by exact ti105)) <| hTake 21 rfl (by kernel_rfl) (by kernel_rfl) (by kernel_rfl) (gd rfl rfl rfl rfl) rfl rfl (ldR rfl ty105) <| hCallF 22 [] [] rfl (by kernel_rfl) rfl (gd rfl rfl rfl rfl) rfl Try.func87 rfl rfl (braidref25_SameFrame_ok _ _) (aQ rfl <| aQ rfl <| aN) rN rfl (fun _ _ => flat_bool) fun r14 n15 => hTake 23 rfl (by kernel_rfl) (by kernel_rfl) (by kernel_rfl) (gd rfl rfl rfl rfl) rfl rfl (not' rfl) <| hTake 24 rfl (by kernel_rfl) (by kernel_rfl) (by kernel_rfl) (gd0 rfl) rfl rfl (pkF rfl rfl) <| hDone (by kernel_rfl) <| eThen <| gIf rfl rfl (fun h16 => ?_) (fun h16 => ?_)
          · skip
            refine gKn 40 rfl h16 <| gSeq <| gReg <| R rfl (asg rfl) <| gNil <| eThen <| gRet <| eBret <| eTret <| eLret <| eMret <| eRet [] [] rfl (eE rfl <| eN) (rN)
          · skip
            refine gKn 40 rfl h16 <| gSkip <| eBlk <| eThen <| gReg <| R rfl (mv rfl) <| R rfl (I.add rfl rfl) <| R rfl (asg rfl) <| gNil <| eNext (fun aa ww h => h.sub [] (sS rfl <| sS rfl <| sS rfl <| sN) (rN))
      · skip
        refine gExit <| eTexit <| eLeave <| eMidR (fun aa ww h => h.sub [] (sN) (rN))
    · skip
      refine gSeq <| gReg <| R rfl (asg rfl) <| gNil <| eThen <| gRet <| eRet [] [] rfl (eE rfl <| eN) (rN)


def braidlaw25_SessionTakes (a0 : api_Session) (a1 : api_Frame) : Option (Bool) :=
  braidref25_Great a1 >>= fun r3 =>
  if r3 then
    some true
  else
    braidref25_Twin a1 >>= fun r6 =>
    session_Take a0 a1 >>= fun r9 =>
    braidref25_Take a0 r6 >>= fun r12 =>
    session_Check a0 >>= fun r15 =>
    braidref25_Check a0 >>= fun r17 =>
    if r15 == r17 then
      if decide (r9.1 = r12.1) then
        braidref25_Same r9.2.1 r12.2.1 >>= fun r21 =>
        if r21 then
          if r9.2.2 == r12.2.2 then
            braidref25_SameFrame a1 r6 >>= fun r25 =>
            some r25
          else
            some false
        else
          some false
      else
        some false
    else
      some false
set_option maxRecDepth 100000 in
theorem braidlaw25_SessionTakes_ok (a0 : api_Session) (a1 : api_Frame) : Spec Try.prog 14 [.rd R_api_Session a0, .rd R_api_Frame a1] [] (braidlaw25_SessionTakes a0 a1) (fun r nv => ⟨[.rd boolR r], []⟩) := by
  refine spec 55 Try.func14 rfl rfl rfl fun H w => ?_
  refine gSeq <| gReg <| Eb rfl (bx 1 rfl) fun v1 => Eb rfl (bx 2 rfl) fun v2 => R rfl (asg rfl) <| gNil <| eThen <| gSeq <| gSeq <| gReg <| R rfl (ld 2 rfl rfl Foc.here ty105 rfl) <| call [] [] rfl Try.func81 rfl rfl (braidref25_Great_ok _) (aQ rfl <| aN) rN fun r3 n4 => gNil <| eThen <| gIf rfl rfl (fun h5 => ?_) (fun h5 => ?_)
  · skip
    refine gSeq <| gReg <| R rfl (asg rfl) <| gNil <| eThen <| gRet <| eTret <| eRet [] [] rfl (eE rfl <| eN) (rN)
  · skip
    refine gSkip <| eThen <| gSeq <| gReg <| R rfl (ld 2 rfl rfl Foc.here ty105 rfl) <| call [] [] rfl Try.func82 rfl rfl (braidref25_Twin_ok _) (aQ rfl <| aN) rN fun r6 n7 => Eb rfl (allc 3 ti105 (ZrE.rd (R := u8R) (x := 0) (Zr.num rfl) (ZrE.rd (R := u64R) (x := 0) (Zr.num rfl) (ZrE.nilS (ZrE.nilS ZrE.nil)) rfl) rfl)) fun v8 => lPnl (arrR 32 u8R) [.rd u8R 0, .rd u64R 0, .rd (sliceR (arrR 32 u8R)) [], .val (.slice none 0 0)] 3 [.rd u8R 0, .rd u64R 0] [.val (.slice none 0 0)] rfl rfl rfl <| lPnl (sliceR u8R) [.rd u8R 0, .rd u64R 0, .rd (sliceR (arrR 32 u8R)) [], .rd (sliceR (sliceR u8R)) []] 3 [.rd u8R 0, .rd u64R 0, .rd (sliceR (arrR 32 u8R)) []] [] rfl rfl rfl <| lJoi (R := R_api_Frame) (⟨0, 0, [], []⟩ : api_Frame) 3 rfl (Sp.via (Sp.prod (Sp.prod (Sp.prod (Sp.prod Sp.unit))))) <| Es (sto 3 rfl rfl Foc.here rfl ti105) <| gNil <| eThen <| gSeq <| gReg <| R rfl (ld 1 rfl rfl Foc.here ty66 rfl) <| R rfl (ld 2 rfl rfl Foc.here ty105 rfl) <| call [] [(100, 4)] rfl Try.func83 rfl rfl (session_Take_ok _ _) (aQ rfl <| aQ rfl <| aN) rN fun r9 n10 => R rfl (mv rfl) <| R rfl (ext rfl rfl) <| R rfl (ext rfl rfl) <| R rfl (ext rfl rfl) <| Eb rfl (allc 5 ti66 (.zr zr66)) fun v11 => Es (sto 5 rfl rfl Foc.here rfl ti66) <| R rfl (asg rfl) <| R rfl (asg rfl) <| gNil <| eThen <| gSeq <| gReg <| R rfl (ld 1 rfl rfl Foc.here ty66 rfl) <| R rfl (ld 3 rfl rfl Foc.here ty105 rfl) <| call [] [(100, 6)] rfl Try.func84 rfl rfl (braidref25_Take_ok _ _) (aQ rfl <| aQ rfl <| aN) rN fun r12 n13 => R rfl (mv rfl) <| R rfl (ext rfl rfl) <| R rfl (ext rfl rfl) <| R rfl (ext rfl rfl) <| Eb rfl (allc 7 ti66 (.zr zr66)) fun v14 => Es (sto 7 rfl rfl Foc.here rfl ti66) <| R rfl (asg rfl) <| R rfl (asg rfl) <| gNil <| eThen <| gSeq <| gRegH [] mixed rfl rfl <| hTake 0 rfl (by kernel_rfl) (by kernel_rfl) (by kernel_rfl) (gd0 rfl) rfl rfl (ld 1 rfl rfl Foc.here ty66 rfl) <| hTake 2 rfl (by kernel_rfl) (by kernel_rfl) (by kernel_rfl) (gd0 rfl) rfl rfl (ld 1 rfl rfl Foc.here ty66 rfl) <| hCallF 1 [] [] rfl (by kernel_rfl) rfl (gd0 rfl) rfl Try.func85 rfl rfl (session_Check_ok _) (aQ rfl <| aN) rN rfl (fun _ _ => flat_num) fun r15 n16 => hCallF 3 [] [] rfl (by kernel_rfl) rfl (gd0 rfl) rfl Try.func86 rfl rfl (braidref25_Check_ok _) (aQ rfl <| aN) rN rfl (fun _ _ => flat_num) fun r17 n18 => hTake 4 rfl (by kernel_rfl) (by kernel_rfl) (by kernel_rfl) (gd0 rfl) rfl rfl (I.eql rfl rfl) <| hTake 5 rfl (by kernel_rfl) (by kernel_rfl) (by kernel_rfl) (gd0 rfl) rfl rfl (mv rfl) <| hIf 35 rfl rfl (fun h19 => ?_) (fun h19 => ?_)
    · skip
      refine hKn 34 rfl rfl h19 <| hTake 6 rfl (by kernel_rfl) (by kernel_rfl) (by kernel_rfl) (gd rfl rfl rfl rfl) rfl rfl (ld 5 rfl rfl Foc.here ty66 rfl) <| hTake 7 rfl (by kernel_rfl) (by kernel_rfl) (by kernel_rfl) (gd rfl rfl rfl rfl) rfl rfl (ld 7 rfl rfl Foc.here ty66 rfl) <| hTake 8 rfl (by kernel_rfl) (by kernel_rfl) (by kernel_rfl) (gd rfl rfl rfl rfl) rfl rfl (eqA rfl rfl eq66 rfl rfl gq66) <| hTake 9 rfl (by kernel_rfl) (by kernel_rfl) (by kernel_rfl) (gd0 rfl) rfl rfl (pkT rfl rfl) <| hTake 10 rfl (by kernel_rfl) (by kernel_rfl) (by kernel_rfl) (gd0 rfl) rfl rfl (mv rfl) <| hIf 40 rfl rfl (fun h20 => ?_) (fun h20 => ?_)
      · skip
        refine hKn 38 rfl rfl h20 <| hKn 39 rfl rfl h20 <| hTake 11 rfl (by kernel_rfl) (by kernel_rfl) (by kernel_rfl) (gd rfl rfl rfl rfl) rfl rfl (mv rfl) <| hTake 12 rfl (by kernel_rfl) (by kernel_rfl) (by kernel_rfl) (gd rfl rfl rfl rfl) rfl rfl (mv rfl) <| hFrz 4 [21, 7, 41] rfl (fS rfl <| fS rfl <| fS rfl <| fN) <| hFrz 6 [28, 10, 42] rfl (fS rfl <| fS rfl <| fS rfl <| fN) <| hCallF 13 [] [] rfl (by kernel_rfl) rfl (gd rfl rfl rfl rfl) rfl Try.func58 rfl rfl (braidref25_Same_ok _ _) (aQ rfl <| aQ rfl <| aN) rN rfl (fun _ _ => flat_bool) fun r21 n22 => hTake 14 rfl (by kernel_rfl) (by kernel_rfl) (by kernel_rfl) (gd0 rfl) rfl rfl (pkT rfl rfl) <| hTake 15 rfl (by kernel_rfl) (by kernel_rfl) (by kernel_rfl) (gd0 rfl) rfl rfl (mv rfl) <| hIf 45 rfl rfl (fun h23 => ?_) (fun h23 => ?_)
        · skip
          refine hKn 43 rfl rfl h23 <| hKn 44 rfl rfl h23 <| hTake 16 rfl (by kernel_rfl) (by kernel_rfl) (by kernel_rfl) (gd rfl rfl rfl rfl) rfl rfl (mv rfl) <| hTake 17 rfl (by kernel_rfl) (by kernel_rfl) (by kernel_rfl) (gd rfl rfl rfl rfl) rfl rfl (mv rfl) <| hTake 18 rfl (by kernel_rfl) (by kernel_rfl) (by kernel_rfl) (gd rfl rfl rfl rfl) rfl rfl (I.eql rfl rfl) <| hTake 19 rfl (by kernel_rfl) (by kernel_rfl) (by kernel_rfl) (gd0 rfl) rfl rfl (pkT rfl rfl) <| hTake 20 rfl (by kernel_rfl) (by kernel_rfl) (by kernel_rfl) (gd0 rfl) rfl rfl (mv rfl) <| hIf 50 rfl rfl (fun h24 => ?_) (fun h24 => ?_)
          · skip
            refine hKn 48 rfl rfl h24 <| hKn 49 rfl rfl h24 <| hTake 21 rfl (by kernel_rfl) (by kernel_rfl) (by kernel_rfl) (gd rfl rfl rfl rfl) rfl rfl (ld 2 rfl rfl Foc.here ty105 rfl) <| hTake 22 rfl (by kernel_rfl) (by kernel_rfl) (by kernel_rfl) (gd rfl rfl rfl rfl) rfl rfl (ld 3 rfl rfl Foc.here ty105 rfl) <| hCallF 23 [] [] rfl (by kernel_rfl) rfl (gd rfl rfl rfl rfl) rfl Try.func87 rfl rfl (braidref25_SameFrame_ok _ _) (aQ rfl <| aQ rfl <| aN) rN rfl (fun _ _ => flat_bool) fun r25 n26 => hTake 24 rfl (by kernel_rfl) (by kernel_rfl) (by kernel_rfl) (gd0 rfl) rfl rfl (pkT rfl rfl) <| hTake 25 rfl (by kernel_rfl) (by kernel_rfl) (by kernel_rfl) (gd0 rfl) rfl rfl (asg rfl) <| hDone (by kernel_rfl) <| eThen <| gRet <| eRet [] [] rfl (eE rfl <| eN) (rN)
          · skip
            refine hKn 48 rfl rfl h24 <| hKn 49 rfl rfl h24 <| hSkip 21 rfl (by kernel_rfl) (by kernel_rfl) (by kernel_rfl) (gd rfl rfl rfl rfl) rfl rfl <| hSkip 22 rfl (by kernel_rfl) (by kernel_rfl) (by kernel_rfl) (gd rfl rfl rfl rfl) rfl rfl <| hSkip 23 rfl (by kernel_rfl) (by kernel_rfl) (by kernel_rfl) (gd rfl rfl rfl rfl) rfl rfl <| hTake 24 rfl (by kernel_rfl) (by kernel_rfl) (by kernel_rfl) (gd0 rfl) rfl rfl (pkF rfl rfl) <| hTake 25 rfl (by kernel_rfl) (by kernel_rfl) (by kernel_rfl) (gd0 rfl) rfl rfl (asg rfl) <| hDone (by kernel_rfl) <| eThen <| gRet <| eRet [] [] rfl (eE rfl <| eN) (rN)
        · skip
          refine hKn 43 rfl rfl h23 <| hKn 44 rfl rfl h23 <| hSkip 16 rfl (by kernel_rfl) (by kernel_rfl) (by kernel_rfl) (gd rfl rfl rfl rfl) rfl rfl <| hSkip 17 rfl (by kernel_rfl) (by kernel_rfl) (by kernel_rfl) (gd rfl rfl rfl rfl) rfl rfl <| hSkip 18 rfl (by kernel_rfl) (by kernel_rfl) (by kernel_rfl) (gd rfl rfl rfl rfl) rfl rfl <| hTake 19 rfl (by kernel_rfl) (by kernel_rfl) (by kernel_rfl) (gd0 rfl) rfl rfl (pkF rfl rfl) <| hTake 20 rfl (by kernel_rfl) (by kernel_rfl) (by kernel_rfl) (gd0 rfl) rfl rfl (mv rfl) <| hSkip 21 rfl (by kernel_rfl) (by kernel_rfl) (by kernel_rfl) (gd rfl rfl rfl rfl) rfl rfl <| hSkip 22 rfl (by kernel_rfl) (by kernel_rfl) (by kernel_rfl) (gd rfl rfl rfl rfl) rfl rfl <| hSkip 23 rfl (by kernel_rfl) (by kernel_rfl) (by kernel_rfl) (gd rfl rfl rfl rfl) rfl rfl <| hTake 24 rfl (by kernel_rfl) (by kernel_rfl) (by kernel_rfl) (gd0 rfl) rfl rfl (pkF rfl rfl) <| hTake 25 rfl (by kernel_rfl) (by kernel_rfl) (by kernel_rfl) (gd0 rfl) rfl rfl (asg rfl) <| hDone (by kernel_rfl) <| eThen <| gRet <| eRet [] [] rfl (eE rfl <| eN) (rN)
      · skip
        refine hKn 38 rfl rfl h20 <| hKn 39 rfl rfl h20 <| hSkip 11 rfl (by kernel_rfl) (by kernel_rfl) (by kernel_rfl) (gd rfl rfl rfl rfl) rfl rfl <| hSkip 12 rfl (by kernel_rfl) (by kernel_rfl) (by kernel_rfl) (gd rfl rfl rfl rfl) rfl rfl <| hSkip 13 rfl (by kernel_rfl) (by kernel_rfl) (by kernel_rfl) (gd rfl rfl rfl rfl) rfl rfl <| hTake 14 rfl (by kernel_rfl) (by kernel_rfl) (by kernel_rfl) (gd0 rfl) rfl rfl (pkF rfl rfl) <| hTake 15 rfl (by kernel_rfl) (by kernel_rfl) (by kernel_rfl) (gd0 rfl) rfl rfl (mv rfl) <| hSkip 16 rfl (by kernel_rfl) (by kernel_rfl) (by kernel_rfl) (gd rfl rfl rfl rfl) rfl rfl <| hSkip 17 rfl (by kernel_rfl) (by kernel_rfl) (by kernel_rfl) (gd rfl rfl rfl rfl) rfl rfl <| hSkip 18 rfl (by kernel_rfl) (by kernel_rfl) (by kernel_rfl) (gd rfl rfl rfl rfl) rfl rfl <| hTake 19 rfl (by kernel_rfl) (by kernel_rfl) (by kernel_rfl) (gd0 rfl) rfl rfl (pkF rfl rfl) <| hTake 20 rfl (by kernel_rfl) (by kernel_rfl) (by kernel_rfl) (gd0 rfl) rfl rfl (mv rfl) <| hSkip 21 rfl (by kernel_rfl) (by kernel_rfl) (by kernel_rfl) (gd rfl rfl rfl rfl) rfl rfl <| hSkip 22 rfl (by kernel_rfl) (by kernel_rfl) (by kernel_rfl) (gd rfl rfl rfl rfl) rfl rfl <| hSkip 23 rfl (by kernel_rfl) (by kernel_rfl) (by kernel_rfl) (gd rfl rfl rfl rfl) rfl rfl <| hTake 24 rfl (by kernel_rfl) (by kernel_rfl) (by kernel_rfl) (gd0 rfl) rfl rfl (pkF rfl rfl) <| hTake 25 rfl (by kernel_rfl) (by kernel_rfl) (by kernel_rfl) (gd0 rfl) rfl rfl (asg rfl) <| hDone (by kernel_rfl) <| eThen <| gRet <| eRet [] [] rfl (eE rfl <| eN) (rN)
    · skip
      refine hKn 34 rfl rfl h19 <| hSkip 6 rfl (by kernel_rfl) (by kernel_rfl) (by kernel_rfl) (gd rfl rfl rfl rfl) rfl rfl <| hSkip 7 rfl (by kernel_rfl) (by kernel_rfl) (by kernel_rfl) (gd rfl rfl rfl rfl) rfl rfl <| hSkip 8 rfl (by kernel_rfl) (by kernel_rfl) (by kernel_rfl) (gd rfl rfl rfl rfl) rfl rfl <| hTake 9 rfl (by kernel_rfl) (by kernel_rfl) (by kernel_rfl) (gd0 rfl) rfl rfl (pkF rfl rfl) <| hTake 10 rfl (by kernel_rfl) (by kernel_rfl) (by kernel_rfl) (gd0 rfl) rfl rfl (mv rfl) <| hSkip 11 rfl (by kernel_rfl) (by kernel_rfl) (by kernel_rfl) (gd rfl rfl rfl rfl) rfl rfl <| hSkip 12 rfl (by kernel_rfl) (by kernel_rfl) (by kernel_rfl) (gd rfl rfl rfl rfl) rfl rfl <| hSkip 13 rfl (by kernel_rfl) (by kernel_rfl) (by kernel_rfl) (gd rfl rfl rfl rfl) rfl rfl <| hTake 14 rfl (by kernel_rfl) (by kernel_rfl) (by kernel_rfl) (gd0 rfl) rfl rfl (pkF rfl rfl) <| hTake 15 rfl (by kernel_rfl) (by kernel_rfl) (by kernel_rfl) (gd0 rfl) rfl rfl (mv rfl) <| hSkip 16 rfl (by kernel_rfl) (by kernel_rfl) (by kernel_rfl) (gd rfl rfl rfl rfl) rfl rfl <| hSkip 17 rfl (by kernel_rfl) (by kernel_rfl) (by kernel_rfl) (gd rfl rfl rfl rfl) rfl rfl <| hSkip 18 rfl (by kernel_rfl) (by kernel_rfl) (by kernel_rfl) (gd rfl rfl rfl rfl) rfl rfl <| hTake 19 rfl (by kernel_rfl) (by kernel_rfl) (by kernel_rfl) (gd0 rfl) rfl rfl (pkF rfl rfl) <| hTake 20 rfl (by kernel_rfl) (by kernel_rfl) (by kernel_rfl) (gd0 rfl) rfl rfl (mv rfl) <| hSkip 21 rfl (by kernel_rfl) (by kernel_rfl) (by kernel_rfl) (gd rfl rfl rfl rfl) rfl rfl <| hSkip 22 rfl (by kernel_rfl) (by kernel_rfl) (by kernel_rfl) (gd rfl rfl rfl rfl) rfl rfl <| hSkip 23 rfl (by kernel_rfl) (by kernel_rfl) (by kernel_rfl) (gd rfl rfl rfl rfl) rfl rfl <| hTake 24 rfl (by kernel_rfl) (by kernel_rfl) (by kernel_rfl) (gd0 rfl) rfl rfl (pkF rfl rfl) <| hTake 25 rfl (by kernel_rfl) (by kernel_rfl) (by kernel_rfl) (gd0 rfl) rfl rfl (asg rfl) <| hDone (by kernel_rfl) <| eThen <| gRet <| eRet [] [] rfl (eE rfl <| eN) (rN)

end Go.Proofs.Ytklfgpdfongaeaa
