/- Functions and what the code of each does. -/
import Derived.Test.YtklfgpdfongaeaaE6
import Derived.Test.YtklfgpdfongaeaaKI
namespace Go.Proofs.Ytklfgpdfongaeaa
open Go Go.RowKit
set_option linter.unusedSimpArgs false
set_option linter.unusedVariables false

def session_New  : Option (api_Session) :=
  some (⟨1, 0, 0, 0⟩ : api_Session)
set_option maxRecDepth 100000 in
theorem session_New_ok  : Spec Try.prog 57 [] [] (session_New) (fun r nv => ⟨[.rd R_api_Session r], []⟩) := by
  refine spec 2 Try.func57 rfl rfl rfl fun H w => ?_
  refine gSeq <| gReg <| Eb rfl (allc 1 ti66 (.zr zr66)) fun v1 => gNil <| eThen <| gSeq <| gReg <| R rfl (bld (x' := (⟨1, 0, 0, 0⟩ : api_Session)) [(0, 1), (1, 1), (2, 1), (3, 1)] Try.underlying66 ti66 rfl zr66 rfl (Bld.cons (pt_api_Session_State _) rfl rfl <| Bld.done rfl)) <| Es (sto 1 rfl rfl Foc.here rfl ti66) <| gNil <| eThen <| gRet <| eRet [] [] rfl (eC 1 rfl rfl ty66 <| eN) (rN)


def braidlaw25_hello (a0 : UInt64) : Option (api_Frame) :=
  some (⟨1, a0, [], []⟩ : api_Frame)
set_option maxRecDepth 100000 in
theorem braidlaw25_hello_ok (a0 : UInt64) : Spec Try.prog 91 [.rd u64R a0] [] (braidlaw25_hello a0) (fun r nv => ⟨[.rd R_api_Frame r], []⟩) := by
  refine spec 5 Try.func91 rfl rfl rfl fun H w => ?_
  refine gSeq <| gReg <| Eb rfl (allc 1 ti105 (ZrE.rd (R := u8R) (x := 0) (Zr.num rfl) (ZrE.rd (R := u64R) (x := 0) (Zr.num rfl) (ZrE.nilS (ZrE.nilS ZrE.nil)) rfl) rfl)) fun v1 => gNil <| eThen <| gSeq <| gReg <| R rfl (mv rfl) <| R rfl (bldE [(0, 1), (1, 1), (2, 1), (3, 1)] Try.underlying105 ti105 (ZrE.rd (R := u8R) (x := 0) (Zr.num rfl) (ZrE.rd (R := u64R) (x := 0) (Zr.num rfl) (ZrE.nilS (ZrE.nilS ZrE.nil)) rfl) rfl) rfl (BldE.cons rfl rfl fills_rd (Swap.cast (Swap.here fills_rd) rfl) <| BldE.cons rfl rfl fills_rd (Swap.cast (Swap.next fills_rd (Swap.here fills_rd)) rfl) <| BldE.done rfl)) <| Es (stoG 1 rfl rfl (fillsL.cast (fillsL.cons fills_rd (fillsL.cons fills_rd (fillsL.cons fills_val (fillsL.cons fills_val fillsL.nil)))) rfl) rfl (onesL.cons ones_rd (onesL.cons ones_rd (onesL.cons ones_val (onesL.cons ones_val onesL.nil)))) (fillsL.cast (fillsL.cons fills_rd (fillsL.cons fills_rd (fillsL.cons fills_val (fillsL.cons fills_val fillsL.nil)))) rfl) ti105) <| gNil <| eThen <| gRet <| ePnl (arrR 32 u8R) [.rd u8R 1, .rd u64R a0, .rd (sliceR (arrR 32 u8R)) [], .val (.slice none 0 0)] 1 [.rd u8R 1, .rd u64R a0] [.val (.slice none 0 0)] rfl rfl rfl <| ePnl (sliceR u8R) [.rd u8R 1, .rd u64R a0, .rd (sliceR (arrR 32 u8R)) [], .rd (sliceR (sliceR u8R)) []] 1 [.rd u8R 1, .rd u64R a0, .rd (sliceR (arrR 32 u8R)) []] [] rfl rfl rfl <| eJoi (R := R_api_Frame) (⟨1, a0, [], []⟩ : api_Frame) 1 rfl (Sp.via (Sp.prod (Sp.prod (Sp.prod (Sp.prod Sp.unit))))) <| eRet [] [] rfl (eC 1 rfl rfl ty105 <| eN) (rN)


def session_Broken (a0 : api_Session) : Option (api_Session × (List api_Doing) × Int) :=
  session_Check a0 >>= fun r3 =>
  if r3 != 0 then
    some ((⟨0, 0, 0, 0⟩ : api_Session), [], r3)
  else
    session_over a0 >>= fun r6 =>
    if r6 then
      some (a0, [], 0)
    else
      if (({ a0 with Faults := w64 (a0.Faults + 1) }).Faults) == 3 then
        session_bye ({ a0 with Faults := w64 (a0.Faults + 1) }) 5 3 >>= fun r10 =>
        some (r10.1, r10.2.1, r10.2.2)
      else
        some ({ a0 with Faults := w64 (a0.Faults + 1) }, [], 0)
set_option maxRecDepth 100000 in
theorem session_Broken_ok (a0 : api_Session) : Spec Try.prog 49 [.rd R_api_Session a0] [] (session_Broken a0) (fun r nv => ⟨[.rd R_api_Session r.1, .val (nv 0), .rd i64R r.2.2], [(100, some (nv 0, .list R_api_Doing 136 r.2.1))]⟩) := by
  refine spec 28 Try.func49 rfl rfl rfl fun H w => ?_
  refine gSeq <| gReg <| Eb rfl (bx 1 rfl) fun v1 => Eb rfl (allc 2 ti66 (.zr zr66)) fun v2 => R rfl (asg rfl) <| R rfl (asg rfl) <| gNil <| eThen <| gSeq <| gSeq <| gReg <| R rfl (ld 1 rfl rfl Foc.here ty66 rfl) <| call [] [] rfl Try.func85 rfl rfl (session_Check_ok _) (aQ rfl <| aN) rN fun r3 n4 => R rfl (asg rfl) <| gNil <| eThen <| gSeq <| gReg <| R rfl (mv rfl) <| R rfl (I.neq rfl rfl) <| gNil <| eThen <| gIf rfl rfl (fun h5 => ?_) (fun h5 => ?_)
  · skip
    refine gSeq <| gReg <| R rfl (bld (x' := (⟨0, 0, 0, 0⟩ : api_Session)) [(0, 1), (1, 1), (2, 1), (3, 1)] Try.underlying66 ti66 rfl zr66 rfl (Bld.done rfl)) <| R rfl (mv rfl) <| Es (sto 2 rfl rfl Foc.here rfl ti66) <| R rfl (asg rfl) <| R rfl (asg rfl) <| gNil <| eThen <| gRet <| eTret <| eNew R_api_Doing 136 3 <| eRet [(.slice none 0 0)] [3] rfl (eC 2 rfl rfl ty66 <| eE rfl <| eE rfl <| eN) (rR rfl rfl <| rN)
  · skip
    refine gSkip <| eThen <| gSeq <| gSeq <| gReg <| R rfl (ld 1 rfl rfl Foc.here ty66 rfl) <| call [] [] rfl Try.func109 rfl rfl (session_over_ok _) (aQ rfl <| aN) rN fun r6 n7 => gNil <| eThen <| gIf rfl rfl (fun h8 => ?_) (fun h8 => ?_)
    · skip
      refine gSeq <| gReg <| R rfl (ld 1 rfl rfl Foc.here ty66 rfl) <| Es (sto 2 rfl rfl Foc.here rfl ti66) <| R rfl (asg rfl) <| R rfl (asg rfl) <| gNil <| eThen <| gRet <| eTret <| eNew R_api_Doing 136 4 <| eRet [(.slice none 0 0)] [4] rfl (eC 2 rfl rfl ty66 <| eE rfl <| eE rfl <| eN) (rR rfl rfl <| rN)
    · skip
      refine gSkip <| eThen <| gSeq <| gReg <| R rfl (faB 1 rfl rfl Try.underlying66 rfl (by exact ti3)) <| R rfl (ld 1 rfl rfl ((Foc.here).part (pt_api_Session_Faults _)) ty3 rfl) <| R rfl (I.add rfl rfl) <| R rfl (faB 1 rfl rfl Try.underlying66 rfl (by exact ti3)) <| Es (sto 1 rfl rfl ((Foc.here).part (pt_api_Session_Faults _)) rfl ti3) <| gNil <| eThen <| gSeq <| gSeq <| gReg <| R rfl (faB 1 rfl rfl Try.underlying66 rfl (by exact ti3)) <| R rfl (ld 1 rfl rfl ((Foc.here).part (pt_api_Session_Faults _)) ty3 rfl) <| R rfl (I.eql rfl rfl) <| gNil <| eThen <| gIf rfl rfl (fun h9 => ?_) (fun h9 => ?_)
      · skip
        refine gSeq <| gReg <| R rfl (ld 1 rfl rfl Foc.here ty66 rfl) <| call [] [(100, 5)] rfl Try.func110 rfl rfl (session_bye_ok _ _ _) (aQ rfl <| aQ rfl <| aQ rfl <| aN) rN fun r10 n11 => R rfl (ext rfl rfl) <| R rfl (ext rfl rfl) <| R rfl (ext rfl rfl) <| Es (sto 2 rfl rfl Foc.here rfl ti66) <| R rfl (asg rfl) <| R rfl (asg rfl) <| gNil <| eThen <| gRet <| eTret <| eRet [(n11 0)] [5] rfl (eC 2 rfl rfl ty66 <| eE rfl <| eE rfl <| eN) (rR rfl rfl <| rN)
      · skip
        refine gSkip <| eThen <| gSeq <| gReg <| R rfl (ld 1 rfl rfl Foc.here ty66 rfl) <| Es (sto 2 rfl rfl Foc.here rfl ti66) <| R rfl (asg rfl) <| R rfl (asg rfl) <| gNil <| eThen <| gRet <| eNew R_api_Doing 136 6 <| eRet [(.slice none 0 0)] [6] rfl (eC 2 rfl rfl ty66 <| eE rfl <| eE rfl <| eN) (rR rfl rfl <| rN)


def session_Judged (a0 : api_Session) (a1 : UInt8) : Option (api_Session × (List api_Doing) × Int) :=
  session_Check a0 >>= fun r3 =>
  if r3 != 0 then
    some ((⟨0, 0, 0, 0⟩ : api_Session), [], r3)
  else
    (if decide (a1 < 1) then
      some true
    else
      some (decide (9 < a1)) >>= fun y8 =>
      some y8) >>= fun s6 =>
    if s6 then
      some ((⟨0, 0, 0, 0⟩ : api_Session), [], 2)
    else
      (if a1 == 2 then
        some true
      else
        if a1 == 3 then
          some true
        else
          some (a1 == 4)) >>= fun s10 =>
      if s10 then
        session_Broken a0 >>= fun r14 =>
        some (r14.1, r14.2.1, r14.2.2)
      else
        some (a0, [], 0)
set_option maxRecDepth 100000 in
theorem session_Judged_ok (a0 : api_Session) (a1 : UInt8) : Spec Try.prog 51 [.rd R_api_Session a0, .rd u8R a1] [] (session_Judged a0 a1) (fun r nv => ⟨[.rd R_api_Session r.1, .val (nv 0), .rd i64R r.2.2], [(100, some (nv 0, .list R_api_Doing 136 r.2.1))]⟩) := by
  refine spec 39 Try.func51 rfl rfl rfl fun H w => ?_
  refine gSeq <| gReg <| Eb rfl (bx 1 rfl) fun v1 => Eb rfl (allc 2 ti66 (.zr zr66)) fun v2 => R rfl (asg rfl) <| R rfl (asg rfl) <| gNil <| eThen <| gSeq <| gSeq <| gReg <| R rfl (ld 1 rfl rfl Foc.here ty66 rfl) <| call [] [] rfl Try.func85 rfl rfl (session_Check_ok _) (aQ rfl <| aN) rN fun r3 n4 => R rfl (asg rfl) <| gNil <| eThen <| gSeq <| gReg <| R rfl (mv rfl) <| R rfl (I.neq rfl rfl) <| gNil <| eThen <| gIf rfl rfl (fun h5 => ?_) (fun h5 => ?_)
  · skip
    refine gSeq <| gReg <| R rfl (bld (x' := (⟨0, 0, 0, 0⟩ : api_Session)) [(0, 1), (1, 1), (2, 1), (3, 1)] Try.underlying66 ti66 rfl zr66 rfl (Bld.done rfl)) <| R rfl (mv rfl) <| Es (sto 2 rfl rfl Foc.here rfl ti66) <| R rfl (asg rfl) <| R rfl (asg rfl) <| gNil <| eThen <| gRet <| eTret <| eNew R_api_Doing 136 3 <| eRet [(.slice none 0 0)] [3] rfl (eC 2 rfl rfl ty66 <| eE rfl <| eE rfl <| eN) (rR rfl rfl <| rN)
  · skip
    refine gSkip <| eThen <| gSeq <| gBlk <| gMid (fun (s6 : Bool) aa ww => Sta (ctx 39 H [] w) [(1, .rd u8R a1), (2, .val (ptrTo v1 0)), (4, .val (ptrTo v2 0)), (14, .rd boolR s6)] [(1, some (v1, .box 66 [.rd R_api_Session a0])), (2, some (v2, .box 66 [.rd R_api_Session (⟨0, 0, 0, 0⟩ : api_Session)]))] aa ww) ?_ (fun s6 => ?_)
    · skip
      refine gReg <| R rfl (mv rfl) <| R rfl (B.lss rfl rfl) <| R rfl (mv rfl) <| lSplit 17 rfl (fun h7 => ?_) (fun h7 => ?_)
      · skip
        refine lKn 16 rfl h7 <| lSkip (gd rfl rfl rfl rfl) rfl rfl <| lSkip (gd rfl rfl rfl rfl) rfl rfl <| R rfl (pkT rfl rfl) <| R rfl (asg rfl) <| gNil <| eMid (fun aa ww h => h.sub [1, 2] (sS rfl <| sS rfl <| sS rfl <| sS rfl <| sN) (rR rfl rfl <| rR rfl rfl <| rN))
      · skip
        refine lKn 16 rfl h7 <| lRun (gd rfl rfl rfl rfl) rfl rfl (mv rfl) <| lRun (gd rfl rfl rfl rfl) rfl rfl (B.gtr rfl rfl) <| R rfl (pkF rfl rfl) <| R rfl (asg rfl) <| lName 14 rfl fun y8 => gNil <| eMid (fun aa ww h => h.sub [1, 2] (sS rfl <| sS rfl <| sS rfl <| sS rfl <| sN) (rR rfl rfl <| rR rfl rfl <| rN))
    · skip
      refine gIf rfl rfl (fun h9 => ?_) (fun h9 => ?_)
      · skip
        refine gSeq <| gReg <| R rfl (bld (x' := (⟨0, 0, 0, 0⟩ : api_Session)) [(0, 1), (1, 1), (2, 1), (3, 1)] Try.underlying66 ti66 rfl zr66 rfl (Bld.done rfl)) <| Es (sto 2 rfl rfl Foc.here rfl ti66) <| R rfl (asg rfl) <| R rfl (asg rfl) <| gNil <| eThen <| gRet <| eBret <| eTret <| eNew R_api_Doing 136 4 <| eRet [(.slice none 0 0)] [4] rfl (eC 2 rfl rfl ty66 <| eE rfl <| eE rfl <| eN) (rR rfl rfl <| rN)
      · skip
        refine gMid (fun (s10 : Bool) aa ww => Sta (ctx 39 H [] w) [(2, .val (ptrTo v1 0)), (4, .val (ptrTo v2 0)), (22, .rd boolR s10)] [(1, some (v1, .box 66 [.rd R_api_Session a0])), (2, some (v2, .box 66 [.rd R_api_Session (⟨0, 0, 0, 0⟩ : api_Session)]))] aa ww) ?_ (fun s10 => ?_)
        · skip
          refine gReg <| R rfl (mv rfl) <| R rfl (B.eql rfl rfl) <| R rfl (mv rfl) <| lSplit 25 rfl (fun h11 => ?_) (fun h11 => ?_)
          · skip
            refine lKn 24 rfl h11 <| lSkip (gd rfl rfl rfl rfl) rfl rfl <| lSkip (gd rfl rfl rfl rfl) rfl rfl <| R rfl (pkT rfl rfl) <| R rfl (mv rfl) <| lSkip (gd rfl rfl rfl rfl) rfl rfl <| lSkip (gd rfl rfl rfl rfl) rfl rfl <| R rfl (pkT rfl rfl) <| R rfl (asg rfl) <| gNil <| eMid (fun aa ww h => h.sub [1, 2] (sS rfl <| sS rfl <| sS rfl <| sN) (rR rfl rfl <| rR rfl rfl <| rN))
          · skip
            refine lKn 24 rfl h11 <| lRun (gd rfl rfl rfl rfl) rfl rfl (mv rfl) <| lRun (gd rfl rfl rfl rfl) rfl rfl (B.eql rfl rfl) <| R rfl (pkF rfl rfl) <| R rfl (mv rfl) <| lSplit 29 rfl (fun h12 => ?_) (fun h12 => ?_)
            · skip
              refine lKn 27 rfl h12 <| lKn 28 rfl h12 <| lSkip (gd rfl rfl rfl rfl) rfl rfl <| lSkip (gd rfl rfl rfl rfl) rfl rfl <| R rfl (pkT rfl rfl) <| R rfl (asg rfl) <| gNil <| eMid (fun aa ww h => h.sub [1, 2] (sS rfl <| sS rfl <| sS rfl <| sN) (rR rfl rfl <| rR rfl rfl <| rN))
            · skip
              refine lKn 27 rfl h12 <| lKn 28 rfl h12 <| lRun (gd rfl rfl rfl rfl) rfl rfl (mv rfl) <| lRun (gd rfl rfl rfl rfl) rfl rfl (B.eql rfl rfl) <| R rfl (pkF rfl rfl) <| R rfl (asg rfl) <| gNil <| eMid (fun aa ww h => h.sub [1, 2] (sS rfl <| sS rfl <| sS rfl <| sN) (rR rfl rfl <| rR rfl rfl <| rN))
        · skip
          refine gIf rfl rfl (fun h13 => ?_) (fun h13 => ?_)
          · skip
            refine gSeq <| gReg <| R rfl (ld 1 rfl rfl Foc.here ty66 rfl) <| call [] [(100, 5)] rfl Try.func49 rfl rfl (session_Broken_ok _) (aQ rfl <| aN) rN fun r14 n15 => R rfl (ext rfl rfl) <| R rfl (ext rfl rfl) <| R rfl (ext rfl rfl) <| Es (sto 2 rfl rfl Foc.here rfl ti66) <| R rfl (asg rfl) <| R rfl (asg rfl) <| gNil <| eThen <| gRet <| eBret <| eTret <| eRet [(n15 0)] [5] rfl (eC 2 rfl rfl ty66 <| eE rfl <| eE rfl <| eN) (rR rfl rfl <| rN)
          · skip
            refine gSkip <| eBlk <| eThen <| gSeq <| gReg <| R rfl (ld 1 rfl rfl Foc.here ty66 rfl) <| Es (sto 2 rfl rfl Foc.here rfl ti66) <| R rfl (asg rfl) <| R rfl (asg rfl) <| gNil <| eThen <| gRet <| eNew R_api_Doing 136 6 <| eRet [(.slice none 0 0)] [6] rfl (eC 2 rfl rfl ty66 <| eE rfl <| eE rfl <| eN) (rR rfl rfl <| rN)


def braidlaw25_alive  : Option (Bool) :=
  session_New >>= fun r1 =>
  braidlaw25_hello 1 >>= fun r3 =>
  session_Take r1 r3 >>= fun r5 =>
  session_Take r5.1 (⟨2, 0, [], []⟩ : api_Frame) >>= fun r8 =>
  (braidlaw25_hello 1 >>= fun r12 =>
  session_Take r8.1 r12 >>= fun r14 =>
  some (r14.2.1, r14.2.2)) >>= fun s11 =>
  (if r5.2.2 != 0 then
    some true
  else
    if r8.2.2 != 0 then
      some true
    else
      if s11.2 != 0 then
        some true
      else
        if r5.1.State != 2 then
          some true
        else
          some (r8.1.State != 3)) >>= fun s26 =>
  if s26 then
    some false
  else
    braidlaw25_hello 1 >>= fun r32 =>
    session_Judged r8.1 4 >>= fun r37 =>
    session_Judged r37.1 5 >>= fun r40 =>
    session_Judged r40.1 2 >>= fun r42 =>
    session_Judged r42.1 3 >>= fun r44 =>
    if r37.2.2 == 0 then
      if r40.2.2 == 0 then
        if r42.2.2 == 0 then
          if r44.2.2 == 0 then
            if r42.1.State == 3 then
              if r44.1.State == 5 then
                if (r44.2.1.length : Int) == 2 then
                  braidref25_Same r5.2.1 [(⟨1, r32⟩ : api_Doing), (⟨2, (⟨0, 0, [], []⟩ : api_Frame)⟩ : api_Doing)] >>= fun r54 =>
                  if r54 then
                    braidref25_Same r8.2.1 [(⟨3, (⟨2, 0, [], []⟩ : api_Frame)⟩ : api_Doing)] >>= fun r57 =>
                    if r57 then
                      braidref25_Same s11.1 [(⟨1, (⟨6, 2, [], []⟩ : api_Frame)⟩ : api_Doing), (⟨6, (⟨0, 0, [], []⟩ : api_Frame)⟩ : api_Doing)] >>= fun r60 =>
                      some r60
                    else
                      some false
                  else
                    some false
                else
                  some false
              else
                some false
            else
              some false
          else
            some false
        else
          some false
      else
        some false
    else
      some false
set_option maxRecDepth 100000 in
theorem braidlaw25_alive_ok  : Spec Try.prog 88 [] [] (braidlaw25_alive) (fun r nv => ⟨[.rd boolR r], []⟩) := by
  refine spec 143 Try.func88 rfl rfl rfl fun H w => ?_
  refine gSeq <| gReg <| R rfl (asg rfl) <| gNil <| eThen <| gSeq <| gReg <| call [] [] rfl Try.func57 rfl rfl (session_New_ok) (aN) rN fun r1 n2 => call [] [] rfl Try.func91 rfl rfl (braidlaw25_hello_ok _) (aQ rfl <| aN) rN fun r3 n4 => call [] [(100, 1)] rfl Try.func83 rfl rfl (session_Take_ok _ _) (aQ rfl <| aQ rfl <| aN) rN fun r5 n6 => R rfl (mv rfl) <| R rfl (ext rfl rfl) <| R rfl (ext rfl rfl) <| R rfl (ext rfl rfl) <| Eb rfl (allc 2 ti66 (.zr zr66)) fun v7 => Es (sto 2 rfl rfl Foc.here rfl ti66) <| R rfl (asg rfl) <| R rfl (asg rfl) <| gNil <| eThen <| gSeq <| gReg <| R rfl (ld 2 rfl rfl Foc.here ty66 rfl) <| R rfl (bld (x' := (⟨2, 0, [], []⟩ : api_Frame)) [(0, 1), (1, 1), (2, 1), (3, 1)] Try.underlying105 ti105 rfl zr105 rfl (Bld.cons (pt_api_Frame_Kind _) rfl rfl <| Bld.done rfl)) <| call [] [(100, 3)] rfl Try.func83 rfl rfl (session_Take_ok _ _) (aQ rfl <| aQ rfl <| aN) rN fun r8 n9 => R rfl (mv rfl) <| R rfl (ext rfl rfl) <| R rfl (ext rfl rfl) <| R rfl (ext rfl rfl) <| Eb rfl (allc 4 ti66 (.zr zr66)) fun v10 => Es (sto 4 rfl rfl Foc.here rfl ti66) <| R rfl (asg rfl) <| R rfl (asg rfl) <| gNil <| eThen <| gMid (fun (s11 : (List api_Doing) × Int) aa ww => ∃ nv : Nat → Value, Sta (ctx 143 H [] w) [(1, .val (ptrTo v7 0)), (2, .val (n6 0)), (3, .rd i64R r5.2.2), (4, .val (ptrTo v10 0)), (5, .val (n9 0)), (6, .rd i64R r8.2.2), (8, .val (nv 0)), (9, .rd i64R s11.2)] [(2, some (v7, .box 66 [.rd R_api_Session r5.1])), (1, some ((n6 0), .list R_api_Doing 136 r5.2.1)), (4, some (v10, .box 66 [.rd R_api_Session r8.1])), (3, some ((n9 0), .list R_api_Doing 136 r8.2.1)), (11, some ((nv 0), .list R_api_Doing 136 s11.1))] aa ww) ?_ (fun s11 => ?_)
  · skip
    refine gRegH [18, 33] mixed rfl rfl <| hTake 0 rfl (by kernel_rfl) (by kernel_rfl) (by kernel_rfl) (gd0 rfl) rfl rfl (ld 4 rfl rfl Foc.here ty66 rfl) <| hAlt [1, 7] (by kernel_rfl) rfl ⟨?_, ?_, trivial⟩
    · skip
      refine oCallJ 1 [] [] rfl rfl (gd0 rfl) rfl Try.func91 rfl rfl (braidlaw25_hello_ok _) (aQ rfl <| aN) rN rfl fun r12 n13 => hAlt [2, 7] (by kernel_rfl) rfl ⟨?_, ?_, trivial⟩
      · skip
        refine oCallJ 2 [] [(100, 18)] rfl rfl (gd0 rfl) rfl Try.func83 rfl rfl (session_Take_ok _ _) (aQ rfl <| aQ rfl <| aN) rN rfl fun r14 n15 => hTakeP 3 rfl (by kernel_rfl) (by kernel_rfl) (by kernel_rfl) (gd0 rfl) rfl rfl (mv rfl) <| hTakeP 4 rfl (by kernel_rfl) (by kernel_rfl) (by kernel_rfl) (gd0 rfl) rfl rfl (ext rfl rfl) <| hTakeF 5 rfl (by kernel_rfl) (by kernel_rfl) (by kernel_rfl) (gd0 rfl) rfl rfl flat_val (ext rfl rfl) <| hTakeF 6 rfl (by kernel_rfl) (by kernel_rfl) (by kernel_rfl) (gd0 rfl) rfl rfl flat_num (ext rfl rfl) <| hDoB 7 rfl (by kernel_rfl) (gd0 rfl) rfl rfl rfl (allc 33 ti66 (.zr zr66)) fun v16 => hDoS 8 rfl (by kernel_rfl) (gd0 rfl) rfl rfl rfl rfl (sto 33 rfl rfl Foc.here rfl ti66) <| hTakeF 9 rfl (by kernel_rfl) (by kernel_rfl) (by kernel_rfl) (gd0 rfl) rfl rfl flat_val (asg rfl) <| hTake 10 rfl (by kernel_rfl) (by kernel_rfl) (by kernel_rfl) (gd0 rfl) rfl rfl (asg rfl) <| hDone (by kernel_rfl) <| eMid (fun aa ww h => ⟨nvl [(n15 0)], h.sub [2, 1, 4, 3, 18] (sS rfl <| sS rfl <| sS rfl <| sS rfl <| sS rfl <| sS rfl <| sS rfl <| sS rfl <| sN) (rR rfl rfl <| rR rfl rfl <| rR rfl rfl <| rR rfl rfl <| rR rfl rfl <| rN)⟩)
      · skip
        refine oDoB 7 rfl (gd0 rfl) rfl rfl rfl (allc 33 ti66 (.zr zr66)) fun v17 => hCallJ 2 [] [(100, 18)] rfl (by kernel_rfl) rfl (gd0 rfl) rfl Try.func83 rfl rfl (session_Take_ok _ _) (aQ rfl <| aQ rfl <| aN) rN rfl fun r18 n19 => hTakeP 3 rfl (by kernel_rfl) (by kernel_rfl) (by kernel_rfl) (gd0 rfl) rfl rfl (mv rfl) <| hTakeP 4 rfl (by kernel_rfl) (by kernel_rfl) (by kernel_rfl) (gd0 rfl) rfl rfl (ext rfl rfl) <| hTakeF 5 rfl (by kernel_rfl) (by kernel_rfl) (by kernel_rfl) (gd0 rfl) rfl rfl flat_val (ext rfl rfl) <| hTakeF 6 rfl (by kernel_rfl) (by kernel_rfl) (by kernel_rfl) (gd0 rfl) rfl rfl flat_num (ext rfl rfl) <| hDoS 8 rfl (by kernel_rfl) (gd0 rfl) rfl rfl rfl rfl (sto 33 rfl rfl Foc.here rfl ti66) <| hTakeF 9 rfl (by kernel_rfl) (by kernel_rfl) (by kernel_rfl) (gd0 rfl) rfl rfl flat_val (asg rfl) <| hTake 10 rfl (by kernel_rfl) (by kernel_rfl) (by kernel_rfl) (gd0 rfl) rfl rfl (asg rfl) <| hDone (by kernel_rfl) <| eMid (fun aa ww h => ⟨nvl [(n19 0)], h.sub [2, 1, 4, 3, 18] (sS rfl <| sS rfl <| sS rfl <| sS rfl <| sS rfl <| sS rfl <| sS rfl <| sS rfl <| sN) (rR rfl rfl <| rR rfl rfl <| rR rfl rfl <| rR rfl rfl <| rR rfl rfl <| rN)⟩)
    · skip
      refine oDoB 7 rfl (gd0 rfl) rfl rfl rfl (allc 33 ti66 (.zr zr66)) fun v20 => hCallJ 1 [] [] rfl (by kernel_rfl) rfl (gd0 rfl) rfl Try.func91 rfl rfl (braidlaw25_hello_ok _) (aQ rfl <| aN) rN rfl fun r21 n22 => hCallJ 2 [] [(100, 18)] rfl (by kernel_rfl) rfl (gd0 rfl) rfl Try.func83 rfl rfl (session_Take_ok _ _) (aQ rfl <| aQ rfl <| aN) rN rfl fun r23 n24 => hTakeP 3 rfl (by kernel_rfl) (by kernel_rfl) (by kernel_rfl) (gd0 rfl) rfl rfl (mv rfl) <| hTakeP 4 rfl (by kernel_rfl) (by kernel_rfl) (by kernel_rfl) (gd0 rfl) rfl rfl (ext rfl rfl) <| hTakeF 5 rfl (by kernel_rfl) (by kernel_rfl) (by kernel_rfl) (gd0 rfl) rfl rfl flat_val (ext rfl rfl) <| hTakeF 6 rfl (by kernel_rfl) (by kernel_rfl) (by kernel_rfl) (gd0 rfl) rfl rfl flat_num (ext rfl rfl) <| hDoS 8 rfl (by kernel_rfl) (gd0 rfl) rfl rfl rfl rfl (sto 33 rfl rfl Foc.here rfl ti66) <| hTakeF 9 rfl (by kernel_rfl) (by kernel_rfl) (by kernel_rfl) (gd0 rfl) rfl rfl flat_val (asg rfl) <| hTake 10 rfl (by kernel_rfl) (by kernel_rfl) (by kernel_rfl) (gd0 rfl) rfl rfl (asg rfl) <| hDone (by kernel_rfl) <| eMid (fun aa ww h => ⟨nvl [(n24 0)], h.sub [2, 1, 4, 3, 18] (sS rfl <| sS rfl <| sS rfl <| sS rfl <| sS rfl <| sS rfl <| sS rfl <| sS rfl <| sN) (rR rfl rfl <| rR rfl rfl <| rR rfl rfl <| rR rfl rfl <| rR rfl rfl <| rN)⟩)
  · skip
    refine gEx fun n25 => gSeq <| gMid (fun (s26 : Bool) aa ww => Sta (ctx 143 H [] w) [(2, .val (n6 0)), (4, .val (ptrTo v10 0)), (5, .val (n9 0)), (8, .val (n25 0)), (63, .rd boolR s26)] [(1, some ((n6 0), .list R_api_Doing 136 r5.2.1)), (4, some (v10, .box 66 [.rd R_api_Session r8.1])), (3, some ((n9 0), .list R_api_Doing 136 r8.2.1)), (11, some ((n25 0), .list R_api_Doing 136 s11.1))] aa ww) ?_ (fun s26 => ?_)
    · skip
      refine gReg <| R rfl (mv rfl) <| R rfl (I.neq rfl rfl) <| R rfl (mv rfl) <| lSplit 46 rfl (fun h27 => ?_) (fun h27 => ?_)
      · skip
        refine lKn 45 rfl h27 <| lSkip (gd rfl rfl rfl rfl) rfl rfl <| lSkip (gd rfl rfl rfl rfl) rfl rfl <| R rfl (pkT rfl rfl) <| R rfl (mv rfl) <| lSkip (gd rfl rfl rfl rfl) rfl rfl <| lSkip (gd rfl rfl rfl rfl) rfl rfl <| R rfl (pkT rfl rfl) <| R rfl (mv rfl) <| lSkip (gd rfl rfl rfl rfl) rfl rfl <| lSkip (gd rfl rfl rfl rfl) rfl rfl <| lSkip (gd rfl rfl rfl rfl) rfl rfl <| R rfl (pkT rfl rfl) <| R rfl (mv rfl) <| lSkip (gd rfl rfl rfl rfl) rfl rfl <| lSkip (gd rfl rfl rfl rfl) rfl rfl <| lSkip (gd rfl rfl rfl rfl) rfl rfl <| R rfl (pkT rfl rfl) <| gNil <| eMid (fun aa ww h => h.sub [1, 4, 3, 11] (sS rfl <| sS rfl <| sS rfl <| sS rfl <| sS rfl <| sN) (rR rfl rfl <| rR rfl rfl <| rR rfl rfl <| rR rfl rfl <| rN))
      · skip
        refine lKn 45 rfl h27 <| lRun (gd rfl rfl rfl rfl) rfl rfl (mv rfl) <| lRun (gd rfl rfl rfl rfl) rfl rfl (I.neq rfl rfl) <| R rfl (pkF rfl rfl) <| R rfl (mv rfl) <| lSplit 50 rfl (fun h28 => ?_) (fun h28 => ?_)
        · skip
          refine lKn 48 rfl h28 <| lKn 49 rfl h28 <| lSkip (gd rfl rfl rfl rfl) rfl rfl <| lSkip (gd rfl rfl rfl rfl) rfl rfl <| R rfl (pkT rfl rfl) <| R rfl (mv rfl) <| lSkip (gd rfl rfl rfl rfl) rfl rfl <| lSkip (gd rfl rfl rfl rfl) rfl rfl <| lSkip (gd rfl rfl rfl rfl) rfl rfl <| R rfl (pkT rfl rfl) <| R rfl (mv rfl) <| lSkip (gd rfl rfl rfl rfl) rfl rfl <| lSkip (gd rfl rfl rfl rfl) rfl rfl <| lSkip (gd rfl rfl rfl rfl) rfl rfl <| R rfl (pkT rfl rfl) <| gNil <| eMid (fun aa ww h => h.sub [1, 4, 3, 11] (sS rfl <| sS rfl <| sS rfl <| sS rfl <| sS rfl <| sN) (rR rfl rfl <| rR rfl rfl <| rR rfl rfl <| rR rfl rfl <| rN))
        · skip
          refine lKn 48 rfl h28 <| lKn 49 rfl h28 <| lRun (gd rfl rfl rfl rfl) rfl rfl (mv rfl) <| lRun (gd rfl rfl rfl rfl) rfl rfl (I.neq rfl rfl) <| R rfl (pkF rfl rfl) <| R rfl (mv rfl) <| lSplit 54 rfl (fun h29 => ?_) (fun h29 => ?_)
          · skip
            refine lKn 52 rfl h29 <| lKn 53 rfl h29 <| lSkip (gd rfl rfl rfl rfl) rfl rfl <| lSkip (gd rfl rfl rfl rfl) rfl rfl <| lSkip (gd rfl rfl rfl rfl) rfl rfl <| R rfl (pkT rfl rfl) <| R rfl (mv rfl) <| lSkip (gd rfl rfl rfl rfl) rfl rfl <| lSkip (gd rfl rfl rfl rfl) rfl rfl <| lSkip (gd rfl rfl rfl rfl) rfl rfl <| R rfl (pkT rfl rfl) <| gNil <| eMid (fun aa ww h => h.sub [1, 4, 3, 11] (sS rfl <| sS rfl <| sS rfl <| sS rfl <| sS rfl <| sN) (rR rfl rfl <| rR rfl rfl <| rR rfl rfl <| rR rfl rfl <| rN))
          · skip
            refine lKn 52 rfl h29 <| lKn 53 rfl h29 <| lRun (gd rfl rfl rfl rfl) rfl rfl (faB 2 rfl rfl Try.underlying66 rfl (by exact ti5)) <| lRun (gd rfl rfl rfl rfl) rfl rfl (ld 2 rfl rfl ((Foc.here).part (pt_api_Session_State _)) ty5 rfl) <| lRun (gd rfl rfl rfl rfl) rfl rfl (B.neq rfl rfl) <| R rfl (pkF rfl rfl) <| R rfl (mv rfl) <| lSplit 59 rfl (fun h30 => ?_) (fun h30 => ?_)
            · skip
              refine lKn 57 rfl h30 <| lKn 58 rfl h30 <| lSkip (gd rfl rfl rfl rfl) rfl rfl <| lSkip (gd rfl rfl rfl rfl) rfl rfl <| lSkip (gd rfl rfl rfl rfl) rfl rfl <| R rfl (pkT rfl rfl) <| gNil <| eMid (fun aa ww h => h.sub [1, 4, 3, 11] (sS rfl <| sS rfl <| sS rfl <| sS rfl <| sS rfl <| sN) (rR rfl rfl <| rR rfl rfl <| rR rfl rfl <| rR rfl rfl <| rN))
            · skip
              refine lKn 57 rfl h30 <| lKn 58 rfl h30 <| lRun (gd rfl rfl rfl rfl) rfl rfl (faB 4 rfl rfl Try.underlying66 rfl (by exact ti5)) <| lRun (gd rfl rfl rfl rfl) rfl rfl (ld 4 rfl rfl ((Foc.here).part (pt_api_Session_State _)) ty5 rfl) <| lRun (gd rfl rfl rfl rfl) rfl rfl (B.neq rfl rfl) <| R rfl (pkF rfl rfl) <| gNil <| eMid (fun aa ww h => h.sub [1, 4, 3, 11] (sS rfl <| sS rfl <| sS rfl <| sS rfl <| sS rfl <| sN) (rR rfl rfl <| rR rfl rfl <| rR rfl rfl <| rR rfl rfl <| rN))
    · skip
      refine gIf rfl rfl (fun h31 => ?_) (fun h31 => ?_)
      · skip
        refine gSeq <| gReg <| R rfl (asg rfl) <| gNil <| eThen <| gRet <| eTret <| eRet [] [] rfl (eE rfl <| eN) (rN)
      · skip
        refine gSkip <| eThen <| gSeq <| gReg <| call [] [] rfl Try.func91 rfl rfl (braidlaw25_hello_ok _) (aQ rfl <| aN) rN fun r32 n33 => R rfl (bld (x' := (⟨1, r32⟩ : api_Doing)) [(0, 1), (1, 4)] Try.underlying136 ti136 rfl zr136 rfl (Bld.cons (pt_api_Doing_Kind _) rfl rfl <| Bld.cons (pt_api_Doing_Frame _) rfl rfl <| Bld.done rfl)) <| R rfl (bld (x' := (⟨2, (⟨0, 0, [], []⟩ : api_Frame)⟩ : api_Doing)) [(0, 1), (1, 4)] Try.underlying136 ti136 rfl zr136 rfl (Bld.cons (pt_api_Doing_Kind _) rfl rfl <| Bld.done rfl)) <| Ef rfl (lit (R := R_api_Doing) ([(⟨1, r32⟩ : api_Doing), (⟨2, (⟨0, 0, [], []⟩ : api_Frame)⟩ : api_Doing)] : List api_Doing) 48 (pP rfl rfl <| pP rfl rfl <| pN) rfl Try.underlying67 ti136 rfl rfl) fun v34 => R rfl (asg rfl) <| gNil <| eThen <| gSeq <| gReg <| R rfl (bld (x' := (⟨2, 0, [], []⟩ : api_Frame)) [(0, 1), (1, 1), (2, 1), (3, 1)] Try.underlying105 ti105 rfl zr105 rfl (Bld.cons (pt_api_Frame_Kind _) rfl rfl <| Bld.done rfl)) <| R rfl (bld (x' := (⟨3, (⟨2, 0, [], []⟩ : api_Frame)⟩ : api_Doing)) [(0, 1), (1, 4)] Try.underlying136 ti136 rfl zr136 rfl (Bld.cons (pt_api_Doing_Kind _) rfl rfl <| Bld.cons (pt_api_Doing_Frame _) rfl rfl <| Bld.done rfl)) <| Ef rfl (lit (R := R_api_Doing) ([(⟨3, (⟨2, 0, [], []⟩ : api_Frame)⟩ : api_Doing)] : List api_Doing) 49 (pP rfl rfl <| pN) rfl Try.underlying67 ti136 rfl rfl) fun v35 => R rfl (asg rfl) <| gNil <| eThen <| gSeq <| gReg <| R rfl (bld (x' := (⟨6, 2, [], []⟩ : api_Frame)) [(0, 1), (1, 1), (2, 1), (3, 1)] Try.underlying105 ti105 rfl zr105 rfl (Bld.cons (pt_api_Frame_Kind _) rfl rfl <| Bld.cons (pt_api_Frame_N _) rfl rfl <| Bld.done rfl)) <| R rfl (bld (x' := (⟨1, (⟨6, 2, [], []⟩ : api_Frame)⟩ : api_Doing)) [(0, 1), (1, 4)] Try.underlying136 ti136 rfl zr136 rfl (Bld.cons (pt_api_Doing_Kind _) rfl rfl <| Bld.cons (pt_api_Doing_Frame _) rfl rfl <| Bld.done rfl)) <| R rfl (bld (x' := (⟨6, (⟨0, 0, [], []⟩ : api_Frame)⟩ : api_Doing)) [(0, 1), (1, 4)] Try.underlying136 ti136 rfl zr136 rfl (Bld.cons (pt_api_Doing_Kind _) rfl rfl <| Bld.done rfl)) <| Ef rfl (lit (R := R_api_Doing) ([(⟨1, (⟨6, 2, [], []⟩ : api_Frame)⟩ : api_Doing), (⟨6, (⟨0, 0, [], []⟩ : api_Frame)⟩ : api_Doing)] : List api_Doing) 50 (pP rfl rfl <| pP rfl rfl <| pN) rfl Try.underlying67 ti136 rfl rfl) fun v36 => R rfl (asg rfl) <| gNil <| eThen <| gSeq <| gReg <| R rfl (ld 4 rfl rfl Foc.here ty66 rfl) <| call [] [(100, 51)] rfl Try.func51 rfl rfl (session_Judged_ok _ _) (aQ rfl <| aQ rfl <| aN) rN fun r37 n38 => R rfl (mv rfl) <| R rfl (ext rfl rfl) <| R rfl (ext rfl rfl) <| R rfl (ext rfl rfl) <| Eb rfl (allc 52 ti66 (.zr zr66)) fun v39 => Es (sto 52 rfl rfl Foc.here rfl ti66) <| R rfl (asg rfl) <| R rfl (asg rfl) <| gNil <| eThen <| gSeq <| gReg <| R rfl (ld 52 rfl rfl Foc.here ty66 rfl) <| call [] [(100, 53)] rfl Try.func51 rfl rfl (session_Judged_ok _ _) (aQ rfl <| aQ rfl <| aN) rN fun r40 n41 => R rfl (mv rfl) <| R rfl (ext rfl rfl) <| R rfl (ext rfl rfl) <| R rfl (ext rfl rfl) <| Es (sto 52 rfl rfl Foc.here rfl ti66) <| R rfl (asg rfl) <| R rfl (asg rfl) <| gNil <| eThen <| gSeq <| gReg <| R rfl (ld 52 rfl rfl Foc.here ty66 rfl) <| call [] [(100, 54)] rfl Try.func51 rfl rfl (session_Judged_ok _ _) (aQ rfl <| aQ rfl <| aN) rN fun r42 n43 => R rfl (mv rfl) <| R rfl (ext rfl rfl) <| R rfl (ext rfl rfl) <| R rfl (ext rfl rfl) <| Es (sto 52 rfl rfl Foc.here rfl ti66) <| R rfl (asg rfl) <| R rfl (asg rfl) <| gNil <| eThen <| gSeq <| gReg <| R rfl (ld 52 rfl rfl Foc.here ty66 rfl) <| call [] [(100, 55)] rfl Try.func51 rfl rfl (session_Judged_ok _ _) (aQ rfl <| aQ rfl <| aN) rN fun r44 n45 => R rfl (mv rfl) <| R rfl (ext rfl rfl) <| R rfl (ext rfl rfl) <| R rfl (ext rfl rfl) <| Eb rfl (allc 56 ti66 (.zr zr66)) fun v46 => Es (sto 56 rfl rfl Foc.here rfl ti66) <| R rfl (asg rfl) <| R rfl (asg rfl) <| gNil <| eThen <| gSeq <| gReg <| R rfl (mv rfl) <| R rfl (I.eql rfl rfl) <| R rfl (mv rfl) <| lSplit 101 rfl (fun h47 => ?_) (fun h47 => ?_)
        · skip
          refine lKn 100 rfl h47 <| lRun (gd rfl rfl rfl rfl) rfl rfl (mv rfl) <| lRun (gd rfl rfl rfl rfl) rfl rfl (I.eql rfl rfl) <| R rfl (pkT rfl rfl) <| R rfl (mv rfl) <| lSplit 105 rfl (fun h48 => ?_) (fun h48 => ?_)
          · skip
            refine lKn 103 rfl h48 <| lKn 104 rfl h48 <| lRun (gd rfl rfl rfl rfl) rfl rfl (mv rfl) <| lRun (gd rfl rfl rfl rfl) rfl rfl (I.eql rfl rfl) <| R rfl (pkT rfl rfl) <| R rfl (mv rfl) <| lSplit 109 rfl (fun h49 => ?_) (fun h49 => ?_)
            · skip
              refine lKn 107 rfl h49 <| lKn 108 rfl h49 <| lRun (gd rfl rfl rfl rfl) rfl rfl (mv rfl) <| lRun (gd rfl rfl rfl rfl) rfl rfl (I.eql rfl rfl) <| R rfl (pkT rfl rfl) <| R rfl (mv rfl) <| lSplit 113 rfl (fun h50 => ?_) (fun h50 => ?_)
              · skip
                refine lKn 111 rfl h50 <| lKn 112 rfl h50 <| lRun (gd rfl rfl rfl rfl) rfl rfl (faB 52 rfl rfl Try.underlying66 rfl (by exact ti5)) <| lRun (gd rfl rfl rfl rfl) rfl rfl (ld 52 rfl rfl ((Foc.here).part (pt_api_Session_State _)) ty5 rfl) <| lRun (gd rfl rfl rfl rfl) rfl rfl (B.eql rfl rfl) <| R rfl (pkT rfl rfl) <| R rfl (mv rfl) <| lSplit 118 rfl (fun h51 => ?_) (fun h51 => ?_)
                · skip
                  refine lKn 116 rfl h51 <| lKn 117 rfl h51 <| lRun (gd rfl rfl rfl rfl) rfl rfl (faB 56 rfl rfl Try.underlying66 rfl (by exact ti5)) <| lRun (gd rfl rfl rfl rfl) rfl rfl (ld 56 rfl rfl ((Foc.here).part (pt_api_Session_State _)) ty5 rfl) <| lRun (gd rfl rfl rfl rfl) rfl rfl (B.eql rfl rfl) <| R rfl (pkT rfl rfl) <| R rfl (mv rfl) <| lSplit 123 rfl (fun h52 => ?_) (fun h52 => ?_)
                  · skip
                    refine lKn 121 rfl h52 <| lKn 122 rfl h52 <| lRun (gd rfl rfl rfl rfl) rfl rfl (mv rfl) <| lRun (gd rfl rfl rfl rfl) rfl rfl (len' rfl (.own 55 rfl) rfl Try.underlying67) <| lRun (gd rfl rfl rfl rfl) rfl rfl (I.eql rfl rfl) <| R rfl (pkT rfl rfl) <| R rfl (mv rfl) <| lSplit 128 rfl (fun h53 => ?_) (fun h53 => ?_)
                    · skip
                      refine lKn 126 rfl h53 <| lKn 127 rfl h53 <| lRun (gd rfl rfl rfl rfl) rfl rfl (mv rfl) <| lRun (gd rfl rfl rfl rfl) rfl rfl (mv rfl) <| lFrz 1 [2, 129] rfl (fS rfl <| fS rfl <| fN) <| lFrz 48 [67, 10, 130] rfl (fS rfl <| fS rfl <| fS rfl <| fN) <| callg [] [] (gd rfl rfl rfl rfl) rfl Try.func58 rfl rfl (braidref25_Same_ok _ _) (aQ rfl <| aQ rfl <| aN) rN fun r54 n55 => R rfl (pkT rfl rfl) <| R rfl (mv rfl) <| lSplit 133 rfl (fun h56 => ?_) (fun h56 => ?_)
                      · skip
                        refine lKn 131 rfl h56 <| lKn 132 rfl h56 <| lRun (gd rfl rfl rfl rfl) rfl rfl (mv rfl) <| lRun (gd rfl rfl rfl rfl) rfl rfl (mv rfl) <| lFrz 3 [5, 134] rfl (fS rfl <| fS rfl <| fN) <| lFrz 49 [70, 11, 135] rfl (fS rfl <| fS rfl <| fS rfl <| fN) <| callg [] [] (gd rfl rfl rfl rfl) rfl Try.func58 rfl rfl (braidref25_Same_ok _ _) (aQ rfl <| aQ rfl <| aN) rN fun r57 n58 => R rfl (pkT rfl rfl) <| R rfl (mv rfl) <| lSplit 138 rfl (fun h59 => ?_) (fun h59 => ?_)
                        · skip
                          refine lKn 136 rfl h59 <| lKn 137 rfl h59 <| lRun (gd rfl rfl rfl rfl) rfl rfl (mv rfl) <| lRun (gd rfl rfl rfl rfl) rfl rfl (mv rfl) <| lFrz 11 [8, 139] rfl (fS rfl <| fS rfl <| fN) <| lFrz 50 [74, 12, 140] rfl (fS rfl <| fS rfl <| fS rfl <| fN) <| callg [] [] (gd rfl rfl rfl rfl) rfl Try.func58 rfl rfl (braidref25_Same_ok _ _) (aQ rfl <| aQ rfl <| aN) rN fun r60 n61 => R rfl (pkT rfl rfl) <| R rfl (asg rfl) <| gNil <| eThen <| gRet <| eRet [] [] rfl (eE rfl <| eN) (rN)
                        · skip
                          refine lKn 136 rfl h59 <| lKn 137 rfl h59 <| lSkip (gd rfl rfl rfl rfl) rfl rfl <| lSkip (gd rfl rfl rfl rfl) rfl rfl <| lSkip (gd rfl rfl rfl rfl) rfl rfl <| R rfl (pkF rfl rfl) <| R rfl (asg rfl) <| gNil <| eThen <| gRet <| eRet [] [] rfl (eE rfl <| eN) (rN)
                      · skip
                        refine lKn 131 rfl h56 <| lKn 132 rfl h56 <| lSkip (gd rfl rfl rfl rfl) rfl rfl <| lSkip (gd rfl rfl rfl rfl) rfl rfl <| lSkip (gd rfl rfl rfl rfl) rfl rfl <| R rfl (pkF rfl rfl) <| R rfl (mv rfl) <| lSkip (gd rfl rfl rfl rfl) rfl rfl <| lSkip (gd rfl rfl rfl rfl) rfl rfl <| lSkip (gd rfl rfl rfl rfl) rfl rfl <| R rfl (pkF rfl rfl) <| R rfl (asg rfl) <| gNil <| eThen <| gRet <| eRet [] [] rfl (eE rfl <| eN) (rN)
                    · skip
                      refine lKn 126 rfl h53 <| lKn 127 rfl h53 <| lSkip (gd rfl rfl rfl rfl) rfl rfl <| lSkip (gd rfl rfl rfl rfl) rfl rfl <| lSkip (gd rfl rfl rfl rfl) rfl rfl <| R rfl (pkF rfl rfl) <| R rfl (mv rfl) <| lSkip (gd rfl rfl rfl rfl) rfl rfl <| lSkip (gd rfl rfl rfl rfl) rfl rfl <| lSkip (gd rfl rfl rfl rfl) rfl rfl <| R rfl (pkF rfl rfl) <| R rfl (mv rfl) <| lSkip (gd rfl rfl rfl rfl) rfl rfl <| lSkip (gd rfl rfl rfl rfl) rfl rfl <| lSkip (gd rfl rfl rfl rfl) rfl rfl <| R rfl (pkF rfl rfl) <| R rfl (asg rfl) <| gNil <| eThen <| gRet <| eRet [] [] rfl (eE rfl <| eN) (rN)
                  · skip
                    refine lKn 121 rfl h52 <| lKn 122 rfl h52 <| lSkip (gd rfl rfl rfl rfl) rfl rfl <| lSkip (gd rfl rfl rfl rfl) rfl rfl <| lSkip (gd rfl rfl rfl rfl) rfl rfl <| R rfl (pkF rfl rfl) <| R rfl (mv rfl) <| lSkip (gd rfl rfl rfl rfl) rfl rfl <| lSkip (gd rfl rfl rfl rfl) rfl rfl <| lSkip (gd rfl rfl rfl rfl) rfl rfl <| R rfl (pkF rfl rfl) <| R rfl (mv rfl) <| lSkip (gd rfl rfl rfl rfl) rfl rfl <| lSkip (gd rfl rfl rfl rfl) rfl rfl <| lSkip (gd rfl rfl rfl rfl) rfl rfl <| R rfl (pkF rfl rfl) <| R rfl (mv rfl) <| lSkip (gd rfl rfl rfl rfl) rfl rfl <| lSkip (gd rfl rfl rfl rfl) rfl rfl <| lSkip (gd rfl rfl rfl rfl) rfl rfl <| R rfl (pkF rfl rfl) <| R rfl (asg rfl) <| gNil <| eThen <| gRet <| eRet [] [] rfl (eE rfl <| eN) (rN)
                · skip
                  refine lKn 116 rfl h51 <| lKn 117 rfl h51 <| lSkip (gd rfl rfl rfl rfl) rfl rfl <| lSkip (gd rfl rfl rfl rfl) rfl rfl <| lSkip (gd rfl rfl rfl rfl) rfl rfl <| R rfl (pkF rfl rfl) <| R rfl (mv rfl) <| lSkip (gd rfl rfl rfl rfl) rfl rfl <| lSkip (gd rfl rfl rfl rfl) rfl rfl <| lSkip (gd rfl rfl rfl rfl) rfl rfl <| R rfl (pkF rfl rfl) <| R rfl (mv rfl) <| lSkip (gd rfl rfl rfl rfl) rfl rfl <| lSkip (gd rfl rfl rfl rfl) rfl rfl <| lSkip (gd rfl rfl rfl rfl) rfl rfl <| R rfl (pkF rfl rfl) <| R rfl (mv rfl) <| lSkip (gd rfl rfl rfl rfl) rfl rfl <| lSkip (gd rfl rfl rfl rfl) rfl rfl <| lSkip (gd rfl rfl rfl rfl) rfl rfl <| R rfl (pkF rfl rfl) <| R rfl (mv rfl) <| lSkip (gd rfl rfl rfl rfl) rfl rfl <| lSkip (gd rfl rfl rfl rfl) rfl rfl <| lSkip (gd rfl rfl rfl rfl) rfl rfl <| R rfl (pkF rfl rfl) <| R rfl (asg rfl) <| gNil <| eThen <| gRet <| eRet [] [] rfl (eE rfl <| eN) (rN)
              · skip
                refine lKn 111 rfl h50 <| lKn 112 rfl h50 <| lSkip (gd rfl rfl rfl rfl) rfl rfl <| lSkip (gd rfl rfl rfl rfl) rfl rfl <| lSkip (gd rfl rfl rfl rfl) rfl rfl <| R rfl (pkF rfl rfl) <| R rfl (mv rfl) <| lSkip (gd rfl rfl rfl rfl) rfl rfl <| lSkip (gd rfl rfl rfl rfl) rfl rfl <| lSkip (gd rfl rfl rfl rfl) rfl rfl <| R rfl (pkF rfl rfl) <| R rfl (mv rfl) <| lSkip (gd rfl rfl rfl rfl) rfl rfl <| lSkip (gd rfl rfl rfl rfl) rfl rfl <| lSkip (gd rfl rfl rfl rfl) rfl rfl <| R rfl (pkF rfl rfl) <| R rfl (mv rfl) <| lSkip (gd rfl rfl rfl rfl) rfl rfl <| lSkip (gd rfl rfl rfl rfl) rfl rfl <| lSkip (gd rfl rfl rfl rfl) rfl rfl <| R rfl (pkF rfl rfl) <| R rfl (mv rfl) <| lSkip (gd rfl rfl rfl rfl) rfl rfl <| lSkip (gd rfl rfl rfl rfl) rfl rfl <| lSkip (gd rfl rfl rfl rfl) rfl rfl <| R rfl (pkF rfl rfl) <| R rfl (mv rfl) <| lSkip (gd rfl rfl rfl rfl) rfl rfl <| lSkip (gd rfl rfl rfl rfl) rfl rfl <| lSkip (gd rfl rfl rfl rfl) rfl rfl <| R rfl (pkF rfl rfl) <| R rfl (asg rfl) <| gNil <| eThen <| gRet <| eRet [] [] rfl (eE rfl <| eN) (rN)
            · skip
              refine lKn 107 rfl h49 <| lKn 108 rfl h49 <| lSkip (gd rfl rfl rfl rfl) rfl rfl <| lSkip (gd rfl rfl rfl rfl) rfl rfl <| R rfl (pkF rfl rfl) <| R rfl (mv rfl) <| lSkip (gd rfl rfl rfl rfl) rfl rfl <| lSkip (gd rfl rfl rfl rfl) rfl rfl <| lSkip (gd rfl rfl rfl rfl) rfl rfl <| R rfl (pkF rfl rfl) <| R rfl (mv rfl) <| lSkip (gd rfl rfl rfl rfl) rfl rfl <| lSkip (gd rfl rfl rfl rfl) rfl rfl <| lSkip (gd rfl rfl rfl rfl) rfl rfl <| R rfl (pkF rfl rfl) <| R rfl (mv rfl) <| lSkip (gd rfl rfl rfl rfl) rfl rfl <| lSkip (gd rfl rfl rfl rfl) rfl rfl <| lSkip (gd rfl rfl rfl rfl) rfl rfl <| R rfl (pkF rfl rfl) <| R rfl (mv rfl) <| lSkip (gd rfl rfl rfl rfl) rfl rfl <| lSkip (gd rfl rfl rfl rfl) rfl rfl <| lSkip (gd rfl rfl rfl rfl) rfl rfl <| R rfl (pkF rfl rfl) <| R rfl (mv rfl) <| lSkip (gd rfl rfl rfl rfl) rfl rfl <| lSkip (gd rfl rfl rfl rfl) rfl rfl <| lSkip (gd rfl rfl rfl rfl) rfl rfl <| R rfl (pkF rfl rfl) <| R rfl (mv rfl) <| lSkip (gd rfl rfl rfl rfl) rfl rfl <| lSkip (gd rfl rfl rfl rfl) rfl rfl <| lSkip (gd rfl rfl rfl rfl) rfl rfl <| R rfl (pkF rfl rfl) <| R rfl (asg rfl) <| gNil <| eThen <| gRet <| eRet [] [] rfl (eE rfl <| eN) (rN)
          · skip
            refine lKn 103 rfl h48 <| lKn 104 rfl h48 <| lSkip (gd rfl rfl rfl rfl) rfl rfl <| lSkip (gd rfl rfl rfl rfl) rfl rfl <| R rfl (pkF rfl rfl) <| R rfl (mv rfl) <| lSkip (gd rfl rfl rfl rfl) rfl rfl <| lSkip (gd rfl rfl rfl rfl) rfl rfl <| R rfl (pkF rfl rfl) <| R rfl (mv rfl) <| lSkip (gd rfl rfl rfl rfl) rfl rfl <| lSkip (gd rfl rfl rfl rfl) rfl rfl <| lSkip (gd rfl rfl rfl rfl) rfl rfl <| R rfl (pkF rfl rfl) <| R rfl (mv rfl) <| lSkip (gd rfl rfl rfl rfl) rfl rfl <| lSkip (gd rfl rfl rfl rfl) rfl rfl <| lSkip (gd rfl rfl rfl rfl) rfl rfl <| R rfl (pkF rfl rfl) <| R rfl (mv rfl) <| lSkip (gd rfl rfl rfl rfl) rfl rfl <| lSkip (gd rfl rfl rfl rfl) rfl rfl <| lSkip (gd rfl rfl rfl rfl) rfl rfl <| R rfl (pkF rfl rfl) <| R rfl (mv rfl) <| lSkip (gd rfl rfl rfl rfl) rfl rfl <| lSkip (gd rfl rfl rfl rfl) rfl rfl <| lSkip (gd rfl rfl rfl rfl) rfl rfl <| R rfl (pkF rfl rfl) <| R rfl (mv rfl) <| lSkip (gd rfl rfl rfl rfl) rfl rfl <| lSkip (gd rfl rfl rfl rfl) rfl rfl <| lSkip (gd rfl rfl rfl rfl) rfl rfl <| R rfl (pkF rfl rfl) <| R rfl (mv rfl) <| lSkip (gd rfl rfl rfl rfl) rfl rfl <| lSkip (gd rfl rfl rfl rfl) rfl rfl <| lSkip (gd rfl rfl rfl rfl) rfl rfl <| R rfl (pkF rfl rfl) <| R rfl (asg rfl) <| gNil <| eThen <| gRet <| eRet [] [] rfl (eE rfl <| eN) (rN)
        · skip
          refine lKn 100 rfl h47 <| lSkip (gd rfl rfl rfl rfl) rfl rfl <| lSkip (gd rfl rfl rfl rfl) rfl rfl <| R rfl (pkF rfl rfl) <| R rfl (mv rfl) <| lSkip (gd rfl rfl rfl rfl) rfl rfl <| lSkip (gd rfl rfl rfl rfl) rfl rfl <| R rfl (pkF rfl rfl) <| R rfl (mv rfl) <| lSkip (gd rfl rfl rfl rfl) rfl rfl <| lSkip (gd rfl rfl rfl rfl) rfl rfl <| R rfl (pkF rfl rfl) <| R rfl (mv rfl) <| lSkip (gd rfl rfl rfl rfl) rfl rfl <| lSkip (gd rfl rfl rfl rfl) rfl rfl <| lSkip (gd rfl rfl rfl rfl) rfl rfl <| R rfl (pkF rfl rfl) <| R rfl (mv rfl) <| lSkip (gd rfl rfl rfl rfl) rfl rfl <| lSkip (gd rfl rfl rfl rfl) rfl rfl <| lSkip (gd rfl rfl rfl rfl) rfl rfl <| R rfl (pkF rfl rfl) <| R rfl (mv rfl) <| lSkip (gd rfl rfl rfl rfl) rfl rfl <| lSkip (gd rfl rfl rfl rfl) rfl rfl <| lSkip (gd rfl rfl rfl rfl) rfl rfl <| R rfl (pkF rfl rfl) <| R rfl (mv rfl) <| lSkip (gd rfl rfl rfl rfl) rfl rfl <| lSkip (gd rfl rfl rfl rfl) rfl rfl <| lSkip (gd rfl rfl rfl rfl) rfl rfl <| R rfl (pkF rfl rfl) <| R rfl (mv rfl) <| lSkip (gd rfl rfl rfl rfl) rfl rfl <| lSkip (gd rfl rfl rfl rfl) rfl rfl <| lSkip (gd rfl rfl rfl rfl) rfl rfl <| R rfl (pkF rfl rfl) <| R rfl (mv rfl) <| lSkip (gd rfl rfl rfl rfl) rfl rfl <| lSkip (gd rfl rfl rfl rfl) rfl rfl <| lSkip (gd rfl rfl rfl rfl) rfl rfl <| R rfl (pkF rfl rfl) <| R rfl (asg rfl) <| gNil <| eThen <| gRet <| eRet [] [] rfl (eE rfl <| eN) (rN)

def braidlaw25_ends_L0 (a2 : List api_Doing) (s10 : Bool × Int) : Option (Sum (Sum Bool Bool) (Bool × Int)) :=
  if decide (s10.2 < (a2.length : Int)) then
    (idx a2 s10.2 >>= fun x13 =>
    if s10.1 then
      if (x13.Kind == 6) != (s10.2 == (w64 ((a2.length : Int) - 1))) then
        some (true, true)
      else
        idx a2 s10.2 >>= fun x17 =>
        if x17.Kind == 1 then
          idx a2 s10.2 >>= fun x20 =>
          frame_Check x20.Frame >>= fun r22 =>
          some (true, r22 != 0)
        else
          some (true, false)
    else
      if (x13.Kind == 6) != false then
        some (false, true)
      else
        idx a2 s10.2 >>= fun x25 =>
        if x25.Kind == 1 then
          idx a2 s10.2 >>= fun x28 =>
          frame_Check x28.Frame >>= fun r30 =>
          some (false, r30 != 0)
        else
          some (false, false)) >>= fun s12 =>
    if s12.2 then
      some (.inl (.inl false))
    else
      some (w64 (s10.2 + 1)) >>= fun y33 =>
      some (.inr (s12.1, y33))
  else
    some (.inl (.inr s10.1))
def braidlaw25_ends (a0 : api_Session) (a1 : api_Session) (a2 : List api_Doing) : Option (Bool) :=
  (braidref25_Over a0 >>= fun r4 =>
  if !r4 then
    braidref25_Over a1 >>= fun r7 =>
    some r7
  else
    some false) >>= fun s3 =>
  orRet (iter (braidlaw25_ends_L0 a2) (s3, 0)) fun s9 =>
  if decide (0 < (a2.length : Int)) then
    idx a2 (w64 ((a2.length : Int) - 1)) >>= fun x35 =>
    if s9 == (x35.Kind == 6) then
      braidref25_Over a0 >>= fun r38 =>
      if !r38 then
        some true
      else
        some ((a2.length : Int) == 0) >>= fun y41 =>
        some y41
    else
      some false
  else
    if s9 == false then
      braidref25_Over a0 >>= fun r43 =>
      if !r43 then
        some true
      else
        some ((a2.length : Int) == 0) >>= fun y46 =>
        some y46
    else
      some false
set_option maxRecDepth 100000 in
theorem braidlaw25_ends_ok (a0 : api_Session) (a1 : api_Session) (a2 : List api_Doing) : Spec Try.prog 89 [.rd R_api_Session a0, .rd R_api_Session a1, .rd (sliceR R_api_Doing) a2] [] (braidlaw25_ends a0 a1 a2) (fun r nv => ⟨[.rd boolR r], []⟩) := by
  refine spec 79 Try.func89 rfl rfl rfl fun H w => ?_
  refine gSeq <| gReg <| Eb rfl (bx 1 rfl) fun v1 => Eb rfl (bx 2 rfl) fun v2 => R rfl (asg rfl) <| gNil <| eThen <| gMid (fun (s3 : Bool) aa ww => Sta (ctx 79 H [] w) [(2, .rd (sliceR R_api_Doing) a2), (3, .val (ptrTo v1 0)), (7, .rd boolR s3)] [(1, some (v1, .box 66 [.rd R_api_Session a0]))] aa ww) ?_ (fun s3 => ?_)
  · skip
    refine gReg <| R rfl (ld 1 rfl rfl Foc.here ty66 rfl) <| call [] [] rfl Try.func90 rfl rfl (braidref25_Over_ok _) (aQ rfl <| aN) rN fun r4 n5 => R rfl (not' rfl) <| R rfl (mv rfl) <| lSplit 12 rfl (fun h6 => ?_) (fun h6 => ?_)
    · skip
      refine lKn 11 rfl h6 <| lRun (gd rfl rfl rfl rfl) rfl rfl (ld 2 rfl rfl Foc.here ty66 rfl) <| callg [] [] (gd rfl rfl rfl rfl) rfl Try.func90 rfl rfl (braidref25_Over_ok _) (aQ rfl <| aN) rN fun r7 n8 => R rfl (pkT rfl rfl) <| R rfl (asg rfl) <| gNil <| eMid (fun aa ww h => h.sub [1] (sS rfl <| sS rfl <| sS rfl <| sN) (rR rfl rfl <| rN))
    · skip
      refine lKn 11 rfl h6 <| lSkip (gd rfl rfl rfl rfl) rfl rfl <| lSkip (gd rfl rfl rfl rfl) rfl rfl <| R rfl (pkF rfl rfl) <| R rfl (asg rfl) <| gNil <| eMid (fun aa ww h => h.sub [1] (sS rfl <| sS rfl <| sS rfl <| sN) (rR rfl rfl <| rN))
  · skip
    refine gMidR (fun (s9 : Bool) aa ww => Sta (ctx 79 H [] w) [(2, .rd (sliceR R_api_Doing) a2), (3, .val (ptrTo v1 0)), (7, .rd boolR s9)] [(1, some (v1, .box 66 [.rd R_api_Session a0]))] aa ww) ?_ (fun s9 => ?_)
    · skip
      refine gSeq <| gReg <| R rfl (asg rfl) <| gNil <| eThen <| gLoop (fun (s10 : Bool × Int) aa ww => Sta (ctx 79 H [] w) [(2, .rd (sliceR R_api_Doing) a2), (3, .val (ptrTo v1 0)), (7, .rd boolR s10.1), (8, .rd i64R s10.2)] [(1, some (v1, .box 66 [.rd R_api_Session a0]))] aa ww) (fun aa ww h => h.sub [1] (sS rfl <| sS rfl <| sS rfl <| sS rfl <| sN) (rR rfl rfl <| rN)) (fun s10 => ?_)
      refine gSeq <| gSeq <| gReg <| R rfl (mv rfl) <| R rfl (mv rfl) <| R rfl (len' rfl .rd rfl Try.underlying67) <| R rfl (I.lss rfl rfl) <| gNil <| eThen <| gIf rfl rfl (fun h11 => ?_) (fun h11 => ?_)
      · skip
        refine gSkip <| eThen <| gSeq <| gBlk <| gMid (fun (s12 : Bool × Bool) aa ww => Sta (ctx 79 H [] w) [(2, .rd (sliceR R_api_Doing) a2), (3, .val (ptrTo v1 0)), (7, .rd boolR s12.1), (8, .rd i64R s10.2), (53, .rd boolR s12.2)] [(1, some (v1, .box 66 [.rd R_api_Session a0]))] aa ww) ?_ (fun s12 => ?_)
        · skip
          refine gReg <| R rfl (mv rfl) <| R rfl (mv rfl) <| lBind fun x13 h14 => R rfl (ixR rfl rfl h14 Try.underlying67 ti136 rfl) <| R rfl (faR rfl (pt_api_Doing_Kind _) Try.underlying136 rfl rfl (by exact ti5)) <| R rfl (ldR rfl ty5) <| R rfl (B.eql rfl rfl) <| R rfl (mv rfl) <| R rfl (mv rfl) <| lSplit 29 rfl (fun h15 => ?_) (fun h15 => ?_)
          · skip
            refine lKn 7 rfl h15 <| lKn 28 rfl h15 <| lRun (gd rfl rfl rfl rfl) rfl rfl (mv rfl) <| lRun (gd rfl rfl rfl rfl) rfl rfl (mv rfl) <| lRun (gd rfl rfl rfl rfl) rfl rfl (len' rfl .rd rfl Try.underlying67) <| lRun (gd rfl rfl rfl rfl) rfl rfl (I.sub rfl rfl) <| lRun (gd rfl rfl rfl rfl) rfl rfl (I.eql rfl rfl) <| R rfl (pkT rfl rfl) <| R rfl (neB Try.underlying4 rfl rfl) <| R rfl (mv rfl) <| lSplit 37 rfl (fun h16 => ?_) (fun h16 => ?_)
            · skip
              refine lKn 36 rfl h16 <| lSkip (gd rfl rfl rfl rfl) rfl rfl <| lSkip (gd rfl rfl rfl rfl) rfl rfl <| lSkip (gd rfl rfl rfl rfl) rfl rfl <| lSkip (gd rfl rfl rfl rfl) rfl rfl <| lSkip (gd rfl rfl rfl rfl) rfl rfl <| lSkip (gd rfl rfl rfl rfl) rfl rfl <| lSkip (gd rfl rfl rfl rfl) rfl rfl <| lSkip (gdU rfl rfl rfl) rfl rfl <| lSkip (gdU rfl rfl rfl) rfl rfl <| lSkip (gdU rfl rfl rfl) rfl rfl <| lSkip (gdU rfl rfl rfl) rfl rfl <| lSkip (gdU rfl rfl rfl) rfl rfl <| lSkip (gdU rfl rfl rfl) rfl rfl <| lSkip (gdU rfl rfl rfl) rfl rfl <| lSkip (gd rfl rfl rfl rfl) rfl rfl <| R rfl (pkT rfl rfl) <| gNil <| eMid (fun aa ww h => h.sub [1] (sS rfl <| sS rfl <| sS rfl <| sS rfl <| sS rfl <| sN) (rR rfl rfl <| rN))
            · skip
              refine lKn 36 rfl h16 <| lRun (gd rfl rfl rfl rfl) rfl rfl (mv rfl) <| lRun (gd rfl rfl rfl rfl) rfl rfl (mv rfl) <| lBind fun x17 h18 => lRun (gd rfl rfl rfl rfl) rfl rfl (ixR rfl rfl h18 Try.underlying67 ti136 rfl) <| lRun (gd rfl rfl rfl rfl) rfl rfl (faR rfl (pt_api_Doing_Kind _) Try.underlying136 rfl rfl (by exact ti5)) <| lRun (gd rfl rfl rfl rfl) rfl rfl (ldR rfl ty5) <| lRun (gd rfl rfl rfl rfl) rfl rfl (B.eql rfl rfl) <| lRun (gd rfl rfl rfl rfl) rfl rfl (mv rfl) <| lSplit 44 rfl (fun h19 => ?_) (fun h19 => ?_)
              · skip
                refine lKn 43 rfl h19 <| lRun (gd rfl rfl rfl rfl) rfl rfl (mv rfl) <| lRun (gd rfl rfl rfl rfl) rfl rfl (mv rfl) <| lBind fun x20 h21 => lRun (gd rfl rfl rfl rfl) rfl rfl (ixR rfl rfl h21 Try.underlying67 ti136 rfl) <| lRun (gd rfl rfl rfl rfl) rfl rfl (faR rfl (pt_api_Doing_Frame _) Try.underlying136 rfl rfl (by exact ti105)) <| lRun (gd rfl rfl rfl rfl) rfl rfl (ldR rfl ty105) <| callg [] [] (gd rfl rfl rfl rfl) rfl Try.func76 rfl rfl (frame_Check_ok _) (aQ rfl <| aN) rN fun r22 n23 => lRun (gd rfl rfl rfl rfl) rfl rfl (I.neq rfl rfl) <| lRun (gd rfl rfl rfl rfl) rfl rfl (pkT rfl rfl) <| R rfl (pkF rfl rfl) <| gNil <| eMid (fun aa ww h => h.sub [1] (sS rfl <| sS rfl <| sS rfl <| sS rfl <| sS rfl <| sN) (rR rfl rfl <| rN))
              · skip
                refine lKn 43 rfl h19 <| lSkip (gd rfl rfl rfl rfl) rfl rfl <| lSkip (gd rfl rfl rfl rfl) rfl rfl <| lSkip (gd rfl rfl rfl rfl) rfl rfl <| lSkip (gd rfl rfl rfl rfl) rfl rfl <| lSkip (gd rfl rfl rfl rfl) rfl rfl <| lSkip (gd rfl rfl rfl rfl) rfl rfl <| lSkip (gd rfl rfl rfl rfl) rfl rfl <| lRun (gd rfl rfl rfl rfl) rfl rfl (pkF rfl rfl) <| R rfl (pkF rfl rfl) <| gNil <| eMid (fun aa ww h => h.sub [1] (sS rfl <| sS rfl <| sS rfl <| sS rfl <| sS rfl <| sN) (rR rfl rfl <| rN))
          · skip
            refine lKn 7 rfl h15 <| lKn 28 rfl h15 <| lSkip (gd rfl rfl rfl rfl) rfl rfl <| lSkip (gd rfl rfl rfl rfl) rfl rfl <| lSkip (gd rfl rfl rfl rfl) rfl rfl <| lSkip (gd rfl rfl rfl rfl) rfl rfl <| lSkip (gd rfl rfl rfl rfl) rfl rfl <| R rfl (pkF rfl rfl) <| R rfl (neB Try.underlying4 rfl rfl) <| R rfl (mv rfl) <| lSplit 37 rfl (fun h24 => ?_) (fun h24 => ?_)
            · skip
              refine lKn 36 rfl h24 <| lSkip (gd rfl rfl rfl rfl) rfl rfl <| lSkip (gd rfl rfl rfl rfl) rfl rfl <| lSkip (gd rfl rfl rfl rfl) rfl rfl <| lSkip (gd rfl rfl rfl rfl) rfl rfl <| lSkip (gd rfl rfl rfl rfl) rfl rfl <| lSkip (gd rfl rfl rfl rfl) rfl rfl <| lSkip (gd rfl rfl rfl rfl) rfl rfl <| lSkip (gdU rfl rfl rfl) rfl rfl <| lSkip (gdU rfl rfl rfl) rfl rfl <| lSkip (gdU rfl rfl rfl) rfl rfl <| lSkip (gdU rfl rfl rfl) rfl rfl <| lSkip (gdU rfl rfl rfl) rfl rfl <| lSkip (gdU rfl rfl rfl) rfl rfl <| lSkip (gdU rfl rfl rfl) rfl rfl <| lSkip (gd rfl rfl rfl rfl) rfl rfl <| R rfl (pkT rfl rfl) <| gNil <| eMid (fun aa ww h => h.sub [1] (sS rfl <| sS rfl <| sS rfl <| sS rfl <| sS rfl <| sN) (rR rfl rfl <| rN))
            · skip
              refine lKn 36 rfl h24 <| lRun (gd rfl rfl rfl rfl) rfl rfl (mv rfl) <| lRun (gd rfl rfl rfl rfl) rfl rfl (mv rfl) <| lBind fun x25 h26 => lRun (gd rfl rfl rfl rfl) rfl rfl (ixR rfl rfl h26 Try.underlying67 ti136 rfl) <| lRun (gd rfl rfl rfl rfl) rfl rfl (faR rfl (pt_api_Doing_Kind _) Try.underlying136 rfl rfl (by exact ti5)) <| lRun (gd rfl rfl rfl rfl) rfl rfl (ldR rfl ty5) <| lRun (gd rfl rfl rfl rfl) rfl rfl (B.eql rfl rfl) <| lRun (gd rfl rfl rfl rfl) rfl rfl (mv rfl) <| lSplit 44 rfl (fun h27 => ?_) (fun h27 => ?_)
              · skip
                refine lKn 43 rfl h27 <| lRun (gd rfl rfl rfl rfl) rfl rfl (mv rfl) <| lRun (gd rfl rfl rfl rfl) rfl rfl (mv rfl) <| lBind fun x28 h29 => lRun (gd rfl rfl rfl rfl) rfl rfl (ixR rfl rfl h29 Try.underlying67 ti136 rfl) <| lRun (gd rfl rfl rfl rfl) rfl rfl (faR rfl (pt_api_Doing_Frame _) Try.underlying136 rfl rfl (by exact ti105)) <| lRun (gd rfl rfl rfl rfl) rfl rfl (ldR rfl ty105) <| callg [] [] (gd rfl rfl rfl rfl) rfl Try.func76 rfl rfl (frame_Check_ok _) (aQ rfl <| aN) rN fun r30 n31 => lRun (gd rfl rfl rfl rfl) rfl rfl (I.neq rfl rfl) <| lRun (gd rfl rfl rfl rfl) rfl rfl (pkT rfl rfl) <| R rfl (pkF rfl rfl) <| gNil <| eMid (fun aa ww h => h.sub [1] (sS rfl <| sS rfl <| sS rfl <| sS rfl <| sS rfl <| sN) (rR rfl rfl <| rN))
              · skip
                refine lKn 43 rfl h27 <| lSkip (gd rfl rfl rfl rfl) rfl rfl <| lSkip (gd rfl rfl rfl rfl) rfl rfl <| lSkip (gd rfl rfl rfl rfl) rfl rfl <| lSkip (gd rfl rfl rfl rfl) rfl rfl <| lSkip (gd rfl rfl rfl rfl) rfl rfl <| lSkip (gd rfl rfl rfl rfl) rfl rfl <| lSkip (gd rfl rfl rfl rfl) rfl rfl <| lRun (gd rfl rfl rfl rfl) rfl rfl (pkF rfl rfl) <| R rfl (pkF rfl rfl) <| gNil <| eMid (fun aa ww h => h.sub [1] (sS rfl <| sS rfl <| sS rfl <| sS rfl <| sS rfl <| sN) (rR rfl rfl <| rN))
        · skip
          refine gIf rfl rfl (fun h32 => ?_) (fun h32 => ?_)
          · skip
            refine gSeq <| gReg <| R rfl (asg rfl) <| gNil <| eThen <| gRet <| eBret <| eTret <| eLret <| eMret <| eRet [] [] rfl (eE rfl <| eN) (rN)
          · skip
            refine gSkip <| eBlk <| eThen <| gReg <| R rfl (mv rfl) <| R rfl (I.add rfl rfl) <| R rfl (asg rfl) <| lName 8 rfl fun y33 => gNil <| eNext (fun aa ww h => h.sub [1] (sS rfl <| sS rfl <| sS rfl <| sS rfl <| sN) (rR rfl rfl <| rN))
      · skip
        refine gExit <| eTexit <| eLeave <| eMidR (fun aa ww h => h.sub [1] (sS rfl <| sS rfl <| sS rfl <| sN) (rR rfl rfl <| rN))
    · skip
      refine gSeq <| gReg <| R rfl (mv rfl) <| R rfl (mv rfl) <| R rfl (len' rfl .rd rfl Try.underlying67) <| R rfl (I.gtr rfl rfl) <| R rfl (mv rfl) <| lSplit 58 rfl (fun h34 => ?_) (fun h34 => ?_)
      · skip
        refine lKn 57 rfl h34 <| lRun (gd rfl rfl rfl rfl) rfl rfl (mv rfl) <| lRun (gd rfl rfl rfl rfl) rfl rfl (mv rfl) <| lRun (gd rfl rfl rfl rfl) rfl rfl (len' rfl .rd rfl Try.underlying67) <| lRun (gd rfl rfl rfl rfl) rfl rfl (I.sub rfl rfl) <| lBind fun x35 h36 => lRun (gd rfl rfl rfl rfl) rfl rfl (ixR rfl rfl h36 Try.underlying67 ti136 rfl) <| lRun (gd rfl rfl rfl rfl) rfl rfl (faR rfl (pt_api_Doing_Kind _) Try.underlying136 rfl rfl (by exact ti5)) <| lRun (gd rfl rfl rfl rfl) rfl rfl (ldR rfl ty5) <| lRun (gd rfl rfl rfl rfl) rfl rfl (B.eql rfl rfl) <| R rfl (pkT rfl rfl) <| R rfl (eqB Try.underlying4 rfl rfl) <| R rfl (mv rfl) <| lSplit 69 rfl (fun h37 => ?_) (fun h37 => ?_)
        · skip
          refine lKn 68 rfl h37 <| lRun (gd rfl rfl rfl rfl) rfl rfl (ld 1 rfl rfl Foc.here ty66 rfl) <| callg [] [] (gd rfl rfl rfl rfl) rfl Try.func90 rfl rfl (braidref25_Over_ok _) (aQ rfl <| aN) rN fun r38 n39 => lRun (gd rfl rfl rfl rfl) rfl rfl (not' rfl) <| lRun (gd rfl rfl rfl rfl) rfl rfl (mv rfl) <| lSplit 73 rfl (fun h40 => ?_) (fun h40 => ?_)
          · skip
            refine lKn 72 rfl h40 <| lSkip (gd rfl rfl rfl rfl) rfl rfl <| lSkip (gd rfl rfl rfl rfl) rfl rfl <| lSkip (gd rfl rfl rfl rfl) rfl rfl <| lRun (gd rfl rfl rfl rfl) rfl rfl (pkT rfl rfl) <| R rfl (pkT rfl rfl) <| R rfl (asg rfl) <| gNil <| eThen <| gRet <| eRet [] [] rfl (eE rfl <| eN) (rN)
          · skip
            refine lKn 72 rfl h40 <| lRun (gd rfl rfl rfl rfl) rfl rfl (mv rfl) <| lRun (gd rfl rfl rfl rfl) rfl rfl (len' rfl .rd rfl Try.underlying67) <| lRun (gd rfl rfl rfl rfl) rfl rfl (I.eql rfl rfl) <| lRun (gd rfl rfl rfl rfl) rfl rfl (pkF rfl rfl) <| R rfl (pkT rfl rfl) <| R rfl (asg rfl) <| lName 6 rfl fun y41 => gNil <| eThen <| gRet <| eRet [] [] rfl (eE rfl <| eN) (rN)
        · skip
          refine lKn 68 rfl h37 <| lSkip (gd rfl rfl rfl rfl) rfl rfl <| lSkip (gd rfl rfl rfl rfl) rfl rfl <| lSkip (gd rfl rfl rfl rfl) rfl rfl <| lSkip (gd rfl rfl rfl rfl) rfl rfl <| lSkip (gdU rfl rfl rfl) rfl rfl <| lSkip (gdU rfl rfl rfl) rfl rfl <| lSkip (gdU rfl rfl rfl) rfl rfl <| lSkip (gd rfl rfl rfl rfl) rfl rfl <| R rfl (pkF rfl rfl) <| R rfl (asg rfl) <| gNil <| eThen <| gRet <| eRet [] [] rfl (eE rfl <| eN) (rN)
      · skip
        refine lKn 57 rfl h34 <| lSkip (gd rfl rfl rfl rfl) rfl rfl <| lSkip (gd rfl rfl rfl rfl) rfl rfl <| lSkip (gd rfl rfl rfl rfl) rfl rfl <| lSkip (gd rfl rfl rfl rfl) rfl rfl <| lSkip (gd rfl rfl rfl rfl) rfl rfl <| lSkip (gd rfl rfl rfl rfl) rfl rfl <| lSkip (gd rfl rfl rfl rfl) rfl rfl <| lSkip (gd rfl rfl rfl rfl) rfl rfl <| R rfl (pkF rfl rfl) <| R rfl (eqB Try.underlying4 rfl rfl) <| R rfl (mv rfl) <| lSplit 69 rfl (fun h42 => ?_) (fun h42 => ?_)
        · skip
          refine lKn 68 rfl h42 <| lRun (gd rfl rfl rfl rfl) rfl rfl (ld 1 rfl rfl Foc.here ty66 rfl) <| callg [] [] (gd rfl rfl rfl rfl) rfl Try.func90 rfl rfl (braidref25_Over_ok _) (aQ rfl <| aN) rN fun r43 n44 => lRun (gd rfl rfl rfl rfl) rfl rfl (not' rfl) <| lRun (gd rfl rfl rfl rfl) rfl rfl (mv rfl) <| lSplit 73 rfl (fun h45 => ?_) (fun h45 => ?_)
          · skip
            refine lKn 72 rfl h45 <| lSkip (gd rfl rfl rfl rfl) rfl rfl <| lSkip (gd rfl rfl rfl rfl) rfl rfl <| lSkip (gd rfl rfl rfl rfl) rfl rfl <| lRun (gd rfl rfl rfl rfl) rfl rfl (pkT rfl rfl) <| R rfl (pkT rfl rfl) <| R rfl (asg rfl) <| gNil <| eThen <| gRet <| eRet [] [] rfl (eE rfl <| eN) (rN)
          · skip
            refine lKn 72 rfl h45 <| lRun (gd rfl rfl rfl rfl) rfl rfl (mv rfl) <| lRun (gd rfl rfl rfl rfl) rfl rfl (len' rfl .rd rfl Try.underlying67) <| lRun (gd rfl rfl rfl rfl) rfl rfl (I.eql rfl rfl) <| lRun (gd rfl rfl rfl rfl) rfl rfl (pkF rfl rfl) <| R rfl (pkT rfl rfl) <| R rfl (asg rfl) <| lName 6 rfl fun y46 => gNil <| eThen <| gRet <| eRet [] [] rfl (eE rfl <| eN) (rN)
        · skip
          refine lKn 68 rfl h42 <| lSkip (gd rfl rfl rfl rfl) rfl rfl <| lSkip (gd rfl rfl rfl rfl) rfl rfl <| lSkip (gd rfl rfl rfl rfl) rfl rfl <| lSkip (gd rfl rfl rfl rfl) rfl rfl <| lSkip (gdU rfl rfl rfl) rfl rfl <| lSkip (gdU rfl rfl rfl) rfl rfl <| lSkip (gdU rfl rfl rfl) rfl rfl <| lSkip (gd rfl rfl rfl rfl) rfl rfl <| R rfl (pkF rfl rfl) <| R rfl (asg rfl) <| gNil <| eThen <| gRet <| eRet [] [] rfl (eE rfl <| eN) (rN)

def braidlaw25_SessionFaults_L0 (a0 : List UInt8) (a1 : api_Frame) (r2 : Bool) (s17 : api_Session × Int × Int) : Option (Sum (Sum Bool Unit) (api_Session × Int × Int)) :=
  if decide (s17.2.2 < (a0.length : Int)) then
    idx a0 s17.2.2 >>= fun x19 =>
    if decide (x19 < 1) then
      some (.inl (.inl r2))
    else
      idx a0 s17.2.2 >>= fun x22 =>
      if decide (9 < x22) then
        some (.inl (.inl r2))
      else
        (idx a0 s17.2.2 >>= fun x26 =>
        session_Judged s17.1 x26 >>= fun r28 =>
        some (r28.1, r28.2.1, r28.2.2)) >>= fun s25 =>
        (if s25.2.2 != 0 then
          some true
        else
          braidref25_Check s25.1 >>= fun r37 =>
          if r37 != 0 then
            some true
          else
            braidlaw25_ends s17.1 s25.1 s25.2.1 >>= fun r40 =>
            some (!r40)) >>= fun s35 =>
        if s35 then
          some (.inl (.inl false))
        else
          (braidref25_Over s17.1 >>= fun r44 =>
          if !r44 then
            idx a0 s17.2.2 >>= fun x47 =>
            if x47 == 2 then
              some (w64 (s17.2.1 + 1)) >>= fun y50 =>
              some y50
            else
              idx a0 s17.2.2 >>= fun x51 =>
              if x51 == 3 then
                some (w64 (s17.2.1 + 1)) >>= fun y54 =>
                some y54
              else
                idx a0 s17.2.2 >>= fun x55 =>
                if x55 == 4 then
                  some (w64 (s17.2.1 + 1)) >>= fun y58 =>
                  some y58
                else
                  some s17.2.1
          else
            some s17.2.1) >>= fun s43 =>
          if s25.1.Faults != s43 then
            some (.inl (.inl false))
          else
            if (s25.1.State == 5) != (s43 == 3) then
              some (.inl (.inl false))
            else
              session_Take s25.1 a1 >>= fun r61 =>
              (if r61.2.2 != 0 then
                some true
              else
                braidlaw25_ends s25.1 r61.1 r61.2.1 >>= fun r66 =>
                if !r66 then
                  some true
                else
                  some (r61.1.Faults != s43)) >>= fun s64 =>
              if s64 then
                some (.inl (.inl false))
              else
                some (w64 (s17.2.2 + 1)) >>= fun y70 =>
                some (.inr (r61.1, s43, y70))
  else
    some (.inl (.inr ()))
def braidlaw25_SessionFaults (a0 : List UInt8) (a1 : api_Frame) : Option (Bool) :=
  braidlaw25_alive >>= fun r2 =>
  (if decide (12 < (a0.length : Int)) then
    some true
  else
    braidref25_Great a1 >>= fun r6 =>
    if r6 then
      some true
    else
      braidref07_Check a1 >>= fun r9 =>
      if r9 != 0 then
        some true
      else
        some (!r2)) >>= fun s4 =>
  if s4 then
    some r2
  else
    session_New >>= fun r13 =>
    orRet (iter (braidlaw25_SessionFaults_L0 a0 a1 r2) (r13, 0, 0)) fun s16 =>
    some r2
set_option maxRecDepth 100000 in
theorem braidlaw25_SessionFaults_ok (a0 : List UInt8) (a1 : api_Frame) : Spec Try.prog 15 [.rd (sliceR u8R) a0, .rd R_api_Frame a1] [] (braidlaw25_SessionFaults a0 a1) (fun r nv => ⟨[.rd boolR r], []⟩) := by
  refine spec 139 Try.func15 rfl rfl rfl fun H w => ?_
  refine gSeq <| gReg <| Eb rfl (bx 1 rfl) fun v1 => R rfl (asg rfl) <| gNil <| eThen <| gSeq <| gReg <| call [] [] rfl Try.func88 rfl rfl (braidlaw25_alive_ok) (aN) rN fun r2 n3 => R rfl (asg rfl) <| gNil <| eThen <| gSeq <| gMid (fun (s4 : Bool) aa ww => Sta (ctx 139 H [] w) [(0, .rd (sliceR u8R) a0), (3, .val (ptrTo v1 0)), (5, .rd boolR r2), (31, .rd boolR s4)] [(1, some (v1, .box 105 [.rd R_api_Frame a1]))] aa ww) ?_ (fun s4 => ?_)
  · skip
    refine gReg <| R rfl (mv rfl) <| R rfl (len' rfl .rd rfl Try.underlying32) <| R rfl (I.gtr rfl rfl) <| R rfl (mv rfl) <| lSplit 19 rfl (fun h5 => ?_) (fun h5 => ?_)
    · skip
      refine lKn 18 rfl h5 <| lSkip (gd rfl rfl rfl rfl) rfl rfl <| lSkip (gd rfl rfl rfl rfl) rfl rfl <| R rfl (pkT rfl rfl) <| R rfl (mv rfl) <| lSkip (gd rfl rfl rfl rfl) rfl rfl <| lSkip (gd rfl rfl rfl rfl) rfl rfl <| lSkip (gd rfl rfl rfl rfl) rfl rfl <| R rfl (pkT rfl rfl) <| R rfl (mv rfl) <| lSkip (gd rfl rfl rfl rfl) rfl rfl <| lSkip (gd rfl rfl rfl rfl) rfl rfl <| R rfl (pkT rfl rfl) <| gNil <| eMid (fun aa ww h => h.sub [1] (sS rfl <| sS rfl <| sS rfl <| sS rfl <| sN) (rR rfl rfl <| rN))
    · skip
      refine lKn 18 rfl h5 <| lRun (gd rfl rfl rfl rfl) rfl rfl (ld 1 rfl rfl Foc.here ty105 rfl) <| callg [] [] (gd rfl rfl rfl rfl) rfl Try.func81 rfl rfl (braidref25_Great_ok _) (aQ rfl <| aN) rN fun r6 n7 => R rfl (pkF rfl rfl) <| R rfl (mv rfl) <| lSplit 23 rfl (fun h8 => ?_) (fun h8 => ?_)
      · skip
        refine lKn 21 rfl h8 <| lKn 22 rfl h8 <| lSkip (gd rfl rfl rfl rfl) rfl rfl <| lSkip (gd rfl rfl rfl rfl) rfl rfl <| lSkip (gd rfl rfl rfl rfl) rfl rfl <| R rfl (pkT rfl rfl) <| R rfl (mv rfl) <| lSkip (gd rfl rfl rfl rfl) rfl rfl <| lSkip (gd rfl rfl rfl rfl) rfl rfl <| R rfl (pkT rfl rfl) <| gNil <| eMid (fun aa ww h => h.sub [1] (sS rfl <| sS rfl <| sS rfl <| sS rfl <| sN) (rR rfl rfl <| rN))
      · skip
        refine lKn 21 rfl h8 <| lKn 22 rfl h8 <| lRun (gd rfl rfl rfl rfl) rfl rfl (ld 1 rfl rfl Foc.here ty105 rfl) <| callg [] [] (gd rfl rfl rfl rfl) rfl Try.func77 rfl rfl (braidref07_Check_ok _) (aQ rfl <| aN) rN fun r9 n10 => lRun (gd rfl rfl rfl rfl) rfl rfl (I.neq rfl rfl) <| R rfl (pkF rfl rfl) <| R rfl (mv rfl) <| lSplit 28 rfl (fun h11 => ?_) (fun h11 => ?_)
        · skip
          refine lKn 26 rfl h11 <| lKn 27 rfl h11 <| lSkip (gd rfl rfl rfl rfl) rfl rfl <| lSkip (gd rfl rfl rfl rfl) rfl rfl <| R rfl (pkT rfl rfl) <| gNil <| eMid (fun aa ww h => h.sub [1] (sS rfl <| sS rfl <| sS rfl <| sS rfl <| sN) (rR rfl rfl <| rN))
        · skip
          refine lKn 26 rfl h11 <| lKn 27 rfl h11 <| lRun (gd rfl rfl rfl rfl) rfl rfl (mv rfl) <| lRun (gd rfl rfl rfl rfl) rfl rfl (not' rfl) <| R rfl (pkF rfl rfl) <| gNil <| eMid (fun aa ww h => h.sub [1] (sS rfl <| sS rfl <| sS rfl <| sS rfl <| sN) (rR rfl rfl <| rN))
  · skip
    refine gIf rfl rfl (fun h12 => ?_) (fun h12 => ?_)
    · skip
      refine gSeq <| gReg <| R rfl (mv rfl) <| R rfl (asg rfl) <| gNil <| eThen <| gRet <| eTret <| eRet [] [] rfl (eE rfl <| eN) (rN)
    · skip
      refine gSkip <| eThen <| gSeq <| gReg <| call [] [] rfl Try.func57 rfl rfl (session_New_ok) (aN) rN fun r13 n14 => Eb rfl (allc 2 ti66 (.zr zr66)) fun v15 => Es (sto 2 rfl rfl Foc.here rfl ti66) <| gNil <| eThen <| gSeq <| gReg <| R rfl (asg rfl) <| gNil <| eThen <| gMidR (fun (s16 : Unit) aa ww => Sta (ctx 139 H [] w) [(5, .rd boolR r2)] [] aa ww) ?_ (fun s16 => ?_)
      · skip
        refine gSeq <| gReg <| R rfl (asg rfl) <| gNil <| eThen <| gLoop (fun (s17 : api_Session × Int × Int) aa ww => Sta (ctx 139 H [] w) [(0, .rd (sliceR u8R) a0), (3, .val (ptrTo v1 0)), (5, .rd boolR r2), (6, .val (ptrTo v15 0)), (7, .rd i64R s17.2.1), (8, .rd i64R s17.2.2)] [(1, some (v1, .box 105 [.rd R_api_Frame a1])), (2, some (v15, .box 66 [.rd R_api_Session s17.1]))] aa ww) (fun aa ww h => h.sub [1, 2] (sS rfl <| sS rfl <| sS rfl <| sS rfl <| sS rfl <| sS rfl <| sN) (rR rfl rfl <| rR rfl rfl <| rN)) (fun s17 => ?_)
        refine gSeq <| gSeq <| gReg <| R rfl (mv rfl) <| R rfl (mv rfl) <| R rfl (len' rfl .rd rfl Try.underlying32) <| R rfl (I.lss rfl rfl) <| gNil <| eThen <| gIf rfl rfl (fun h18 => ?_) (fun h18 => ?_)
        · skip
          refine gSkip <| eThen <| gSeq <| gBlk <| gSeq <| gSeq <| gReg <| R rfl (mv rfl) <| R rfl (mv rfl) <| lBind fun x19 h20 => R rfl (ixR rfl rfl h20 Try.underlying32 ti5 rfl) <| R rfl (ldR rfl ty5) <| R rfl (B.lss rfl rfl) <| R rfl (mv rfl) <| lSplit 45 rfl (fun h21 => ?_) (fun h21 => ?_)
          · skip
            refine lKn 44 rfl h21 <| lSkip (gd rfl rfl rfl rfl) rfl rfl <| lSkip (gd rfl rfl rfl rfl) rfl rfl <| lSkip (gd rfl rfl rfl rfl) rfl rfl <| lSkip (gd rfl rfl rfl rfl) rfl rfl <| lSkip (gd rfl rfl rfl rfl) rfl rfl <| R rfl (pkT rfl rfl) <| gNil <| eThen <| gTrue rfl <| gSeq <| gReg <| R rfl (mv rfl) <| R rfl (asg rfl) <| gNil <| eThen <| gRet <| eTret <| eBret <| eTret <| eLret <| eMret <| eRet [] [] rfl (eE rfl <| eN) (rN)
          · skip
            refine lKn 44 rfl h21 <| lRun (gd rfl rfl rfl rfl) rfl rfl (mv rfl) <| lRun (gd rfl rfl rfl rfl) rfl rfl (mv rfl) <| lBind fun x22 h23 => lRun (gd rfl rfl rfl rfl) rfl rfl (ixR rfl rfl h23 Try.underlying32 ti5 rfl) <| lRun (gd rfl rfl rfl rfl) rfl rfl (ldR rfl ty5) <| lRun (gd rfl rfl rfl rfl) rfl rfl (B.gtr rfl rfl) <| R rfl (pkF rfl rfl) <| gNil <| eThen <| gIf rfl rfl (fun h24 => ?_) (fun h24 => ?_)
            · skip
              refine gKn 50 rfl h24 <| gSeq <| gReg <| R rfl (mv rfl) <| R rfl (asg rfl) <| gNil <| eThen <| gRet <| eTret <| eBret <| eTret <| eLret <| eMret <| eRet [] [] rfl (eE rfl <| eN) (rN)
            · skip
              refine gKn 50 rfl h24 <| gSkip <| eThen <| gMid (fun (s25 : api_Session × (List api_Doing) × Int) aa ww => ∃ nv : Nat → Value, Sta (ctx 139 H [] w) [(0, .rd (sliceR u8R) a0), (3, .val (ptrTo v1 0)), (5, .rd boolR r2), (6, .val (ptrTo v15 0)), (7, .rd i64R s17.2.1), (8, .rd i64R s17.2.2), (9, .val (ptrTo (nv 0) 0)), (10, .val (nv 1)), (11, .rd i64R s25.2.2)] [(1, some (v1, .box 105 [.rd R_api_Frame a1])), (2, some (v15, .box 66 [.rd R_api_Session s17.1])), (33, some ((nv 0), .box 66 [.rd R_api_Session s25.1])), (18, some ((nv 1), .list R_api_Doing 136 s25.2.1))] aa ww) ?_ (fun s25 => ?_)
              · skip
                refine gRegH [49, 64] mixed rfl rfl <| hTake 0 rfl (by kernel_rfl) (by kernel_rfl) (by kernel_rfl) (gd0 rfl) rfl rfl (ld 2 rfl rfl Foc.here ty66 rfl) <| hTake 1 rfl (by kernel_rfl) (by kernel_rfl) (by kernel_rfl) (gd0 rfl) rfl rfl (mv rfl) <| hTake 2 rfl (by kernel_rfl) (by kernel_rfl) (by kernel_rfl) (gd0 rfl) rfl rfl (mv rfl) <| hBind fun x26 h27 => hTake 3 rfl (by kernel_rfl) (by kernel_rfl) (by kernel_rfl) (gd0 rfl) rfl rfl (ixR rfl rfl h27 Try.underlying32 ti5 rfl) <| hTake 4 rfl (by kernel_rfl) (by kernel_rfl) (by kernel_rfl) (gd0 rfl) rfl rfl (ldR rfl ty5) <| hAlt [5, 10] (by kernel_rfl) rfl ⟨?_, ?_, trivial⟩
                · skip
                  refine oCallJ 5 [] [(100, 49)] rfl rfl (gd0 rfl) rfl Try.func51 rfl rfl (session_Judged_ok _ _) (aQ rfl <| aQ rfl <| aN) rN rfl fun r28 n29 => hTakeP 6 rfl (by kernel_rfl) (by kernel_rfl) (by kernel_rfl) (gd0 rfl) rfl rfl (mv rfl) <| hTakeP 7 rfl (by kernel_rfl) (by kernel_rfl) (by kernel_rfl) (gd0 rfl) rfl rfl (ext rfl rfl) <| hTakeF 8 rfl (by kernel_rfl) (by kernel_rfl) (by kernel_rfl) (gd0 rfl) rfl rfl flat_val (ext rfl rfl) <| hTakeF 9 rfl (by kernel_rfl) (by kernel_rfl) (by kernel_rfl) (gd0 rfl) rfl rfl flat_num (ext rfl rfl) <| hDoB 10 rfl (by kernel_rfl) (gd0 rfl) rfl rfl rfl (allc 64 ti66 (.zr zr66)) fun v30 => hDoS 11 rfl (by kernel_rfl) (gd0 rfl) rfl rfl rfl rfl (sto 64 rfl rfl Foc.here rfl ti66) <| hTakeF 12 rfl (by kernel_rfl) (by kernel_rfl) (by kernel_rfl) (gd0 rfl) rfl rfl flat_val (asg rfl) <| hTake 13 rfl (by kernel_rfl) (by kernel_rfl) (by kernel_rfl) (gd0 rfl) rfl rfl (asg rfl) <| hDone (by kernel_rfl) <| eMid (fun aa ww h => ⟨nvl [v30, (n29 0)], h.sub [1, 2, 64, 49] (sS rfl <| sS rfl <| sS rfl <| sS rfl <| sS rfl <| sS rfl <| sS rfl <| sS rfl <| sS rfl <| sN) (rR rfl rfl <| rR rfl rfl <| rR rfl rfl <| rR rfl rfl <| rN)⟩)
                · skip
                  refine oDoB 10 rfl (gd0 rfl) rfl rfl rfl (allc 64 ti66 (.zr zr66)) fun v31 => hCallJ 5 [] [(100, 49)] rfl (by kernel_rfl) rfl (gd0 rfl) rfl Try.func51 rfl rfl (session_Judged_ok _ _) (aQ rfl <| aQ rfl <| aN) rN rfl fun r32 n33 => hTakeP 6 rfl (by kernel_rfl) (by kernel_rfl) (by kernel_rfl) (gd0 rfl) rfl rfl (mv rfl) <| hTakeP 7 rfl (by kernel_rfl) (by kernel_rfl) (by kernel_rfl) (gd0 rfl) rfl rfl (ext rfl rfl) <| hTakeF 8 rfl (by kernel_rfl) (by kernel_rfl) (by kernel_rfl) (gd0 rfl) rfl rfl flat_val (ext rfl rfl) <| hTakeF 9 rfl (by kernel_rfl) (by kernel_rfl) (by kernel_rfl) (gd0 rfl) rfl rfl flat_num (ext rfl rfl) <| hDoS 11 rfl (by kernel_rfl) (gd0 rfl) rfl rfl rfl rfl (sto 64 rfl rfl Foc.here rfl ti66) <| hTakeF 12 rfl (by kernel_rfl) (by kernel_rfl) (by kernel_rfl) (gd0 rfl) rfl rfl flat_val (asg rfl) <| hTake 13 rfl (by kernel_rfl) (by kernel_rfl) (by kernel_rfl) (gd0 rfl) rfl rfl (asg rfl) <| hDone (by kernel_rfl) <| eMid (fun aa ww h => ⟨nvl [v31, (n33 0)], h.sub [1, 2, 64, 49] (sS rfl <| sS rfl <| sS rfl <| sS rfl <| sS rfl <| sS rfl <| sS rfl <| sS rfl <| sS rfl <| sN) (rR rfl rfl <| rR rfl rfl <| rR rfl rfl <| rR rfl rfl <| rN)⟩)
              · skip
                refine gEx fun n34 => gSeq <| gMid (fun (s35 : Bool) aa ww => Sta (ctx 139 H [] w) [(0, .rd (sliceR u8R) a0), (3, .val (ptrTo v1 0)), (5, .rd boolR r2), (6, .val (ptrTo v15 0)), (7, .rd i64R s17.2.1), (8, .rd i64R s17.2.2), (9, .val (ptrTo (n34 0) 0)), (76, .rd boolR s35)] [(1, some (v1, .box 105 [.rd R_api_Frame a1])), (2, some (v15, .box 66 [.rd R_api_Session s17.1])), (33, some ((n34 0), .box 66 [.rd R_api_Session s25.1]))] aa ww) ?_ (fun s35 => ?_)
                · skip
                  refine gReg <| R rfl (mv rfl) <| R rfl (I.neq rfl rfl) <| R rfl (mv rfl) <| lSplit 65 rfl (fun h36 => ?_) (fun h36 => ?_)
                  · skip
                    refine lKn 64 rfl h36 <| lSkip (gd rfl rfl rfl rfl) rfl rfl <| lSkip (gd rfl rfl rfl rfl) rfl rfl <| lSkip (gd rfl rfl rfl rfl) rfl rfl <| R rfl (pkT rfl rfl) <| R rfl (mv rfl) <| lSkip (gd rfl rfl rfl rfl) rfl rfl <| lSkip (gd rfl rfl rfl rfl) rfl rfl <| lSkip (gd rfl rfl rfl rfl) rfl rfl <| lSkip (gd rfl rfl rfl rfl) rfl rfl <| lSkip (gd rfl rfl rfl rfl) rfl rfl <| R rfl (pkT rfl rfl) <| gNil <| eMid (fun aa ww h => h.sub [1, 2, 33] (sS rfl <| sS rfl <| sS rfl <| sS rfl <| sS rfl <| sS rfl <| sS rfl <| sS rfl <| sN) (rR rfl rfl <| rR rfl rfl <| rR rfl rfl <| rN))
                  · skip
                    refine lKn 64 rfl h36 <| lRun (gd rfl rfl rfl rfl) rfl rfl (ld 33 rfl rfl Foc.here ty66 rfl) <| callg [] [] (gd rfl rfl rfl rfl) rfl Try.func86 rfl rfl (braidref25_Check_ok _) (aQ rfl <| aN) rN fun r37 n38 => lRun (gd rfl rfl rfl rfl) rfl rfl (I.neq rfl rfl) <| R rfl (pkF rfl rfl) <| R rfl (mv rfl) <| lSplit 70 rfl (fun h39 => ?_) (fun h39 => ?_)
                    · skip
                      refine lKn 68 rfl h39 <| lKn 69 rfl h39 <| lSkip (gd rfl rfl rfl rfl) rfl rfl <| lSkip (gd rfl rfl rfl rfl) rfl rfl <| lSkip (gd rfl rfl rfl rfl) rfl rfl <| lSkip (gd rfl rfl rfl rfl) rfl rfl <| lSkip (gd rfl rfl rfl rfl) rfl rfl <| R rfl (pkT rfl rfl) <| gNil <| eMid (fun aa ww h => h.sub [1, 2, 33] (sS rfl <| sS rfl <| sS rfl <| sS rfl <| sS rfl <| sS rfl <| sS rfl <| sS rfl <| sN) (rR rfl rfl <| rR rfl rfl <| rR rfl rfl <| rN))
                    · skip
                      refine lKn 68 rfl h39 <| lKn 69 rfl h39 <| lRun (gd rfl rfl rfl rfl) rfl rfl (ld 2 rfl rfl Foc.here ty66 rfl) <| lRun (gd rfl rfl rfl rfl) rfl rfl (ld 33 rfl rfl Foc.here ty66 rfl) <| lRun (gd rfl rfl rfl rfl) rfl rfl (mv rfl) <| lFrz 18 [10, 73] rfl (fS rfl <| fS rfl <| fN) <| callg [] [] (gd rfl rfl rfl rfl) rfl Try.func89 rfl rfl (braidlaw25_ends_ok _ _ _) (aQ rfl <| aQ rfl <| aQ rfl <| aN) rN fun r40 n41 => lRun (gd rfl rfl rfl rfl) rfl rfl (not' rfl) <| R rfl (pkF rfl rfl) <| gNil <| eMid (fun aa ww h => h.sub [1, 2, 33] (sS rfl <| sS rfl <| sS rfl <| sS rfl <| sS rfl <| sS rfl <| sS rfl <| sS rfl <| sN) (rR rfl rfl <| rR rfl rfl <| rR rfl rfl <| rN))
                · skip
                  refine gIf rfl rfl (fun h42 => ?_) (fun h42 => ?_)
                  · skip
                    refine gSeq <| gReg <| R rfl (asg rfl) <| gNil <| eThen <| gRet <| eTret <| eBret <| eTret <| eLret <| eMret <| eRet [] [] rfl (eE rfl <| eN) (rN)
                  · skip
                    refine gSkip <| eThen <| gMid (fun (s43 : Int) aa ww => Sta (ctx 139 H [] w) [(0, .rd (sliceR u8R) a0), (3, .val (ptrTo v1 0)), (5, .rd boolR r2), (6, .val (ptrTo v15 0)), (7, .rd i64R s43), (8, .rd i64R s17.2.2), (9, .val (ptrTo (n34 0) 0))] [(1, some (v1, .box 105 [.rd R_api_Frame a1])), (2, some (v15, .box 66 [.rd R_api_Session s17.1])), (33, some ((n34 0), .box 66 [.rd R_api_Session s25.1]))] aa ww) ?_ (fun s43 => ?_)
                    · skip
                      refine gSeq <| gReg <| R rfl (ld 2 rfl rfl Foc.here ty66 rfl) <| call [] [] rfl Try.func90 rfl rfl (braidref25_Over_ok _) (aQ rfl <| aN) rN fun r44 n45 => R rfl (not' rfl) <| R rfl (mv rfl) <| lSplit 80 rfl (fun h46 => ?_) (fun h46 => ?_)
                      · skip
                        refine lKn 79 rfl h46 <| lRun (gd rfl rfl rfl rfl) rfl rfl (mv rfl) <| lRun (gd rfl rfl rfl rfl) rfl rfl (mv rfl) <| lBind fun x47 h48 => lRun (gd rfl rfl rfl rfl) rfl rfl (ixR rfl rfl h48 Try.underlying32 ti5 rfl) <| lRun (gd rfl rfl rfl rfl) rfl rfl (ldR rfl ty5) <| lRun (gd rfl rfl rfl rfl) rfl rfl (B.eql rfl rfl) <| lRun (gd rfl rfl rfl rfl) rfl rfl (mv rfl) <| lSplit 86 rfl (fun h49 => ?_) (fun h49 => ?_)
                        · skip
                          refine lKn 85 rfl h49 <| lSkip (gd rfl rfl rfl rfl) rfl rfl <| lSkip (gd rfl rfl rfl rfl) rfl rfl <| lSkip (gd rfl rfl rfl rfl) rfl rfl <| lSkip (gd rfl rfl rfl rfl) rfl rfl <| lSkip (gd rfl rfl rfl rfl) rfl rfl <| lRun (gd rfl rfl rfl rfl) rfl rfl (pkT rfl rfl) <| lRun (gd rfl rfl rfl rfl) rfl rfl (mv rfl) <| lSkip (gd rfl rfl rfl rfl) rfl rfl <| lSkip (gd rfl rfl rfl rfl) rfl rfl <| lSkip (gd rfl rfl rfl rfl) rfl rfl <| lSkip (gd rfl rfl rfl rfl) rfl rfl <| lSkip (gd rfl rfl rfl rfl) rfl rfl <| lRun (gd rfl rfl rfl rfl) rfl rfl (pkT rfl rfl) <| R rfl (pkT rfl rfl) <| gNil <| eThen <| gTrue rfl <| gReg <| R rfl (mv rfl) <| R rfl (I.add rfl rfl) <| R rfl (asg rfl) <| lName 7 rfl fun y50 => gNil <| eMid (fun aa ww h => h.sub [1, 2, 33] (sS rfl <| sS rfl <| sS rfl <| sS rfl <| sS rfl <| sS rfl <| sS rfl <| sN) (rR rfl rfl <| rR rfl rfl <| rR rfl rfl <| rN))
                        · skip
                          refine lKn 85 rfl h49 <| lRun (gd rfl rfl rfl rfl) rfl rfl (mv rfl) <| lRun (gd rfl rfl rfl rfl) rfl rfl (mv rfl) <| lBind fun x51 h52 => lRun (gd rfl rfl rfl rfl) rfl rfl (ixR rfl rfl h52 Try.underlying32 ti5 rfl) <| lRun (gd rfl rfl rfl rfl) rfl rfl (ldR rfl ty5) <| lRun (gd rfl rfl rfl rfl) rfl rfl (B.eql rfl rfl) <| lRun (gd rfl rfl rfl rfl) rfl rfl (pkF rfl rfl) <| lRun (gd rfl rfl rfl rfl) rfl rfl (mv rfl) <| lSplit 93 rfl (fun h53 => ?_) (fun h53 => ?_)
                          · skip
                            refine lKn 91 rfl h53 <| lKn 92 rfl h53 <| lSkip (gd rfl rfl rfl rfl) rfl rfl <| lSkip (gd rfl rfl rfl rfl) rfl rfl <| lSkip (gd rfl rfl rfl rfl) rfl rfl <| lSkip (gd rfl rfl rfl rfl) rfl rfl <| lSkip (gd rfl rfl rfl rfl) rfl rfl <| lRun (gd rfl rfl rfl rfl) rfl rfl (pkT rfl rfl) <| R rfl (pkT rfl rfl) <| gNil <| eThen <| gTrue rfl <| gReg <| R rfl (mv rfl) <| R rfl (I.add rfl rfl) <| R rfl (asg rfl) <| lName 7 rfl fun y54 => gNil <| eMid (fun aa ww h => h.sub [1, 2, 33] (sS rfl <| sS rfl <| sS rfl <| sS rfl <| sS rfl <| sS rfl <| sS rfl <| sN) (rR rfl rfl <| rR rfl rfl <| rR rfl rfl <| rN))
                          · skip
                            refine lKn 91 rfl h53 <| lKn 92 rfl h53 <| lRun (gd rfl rfl rfl rfl) rfl rfl (mv rfl) <| lRun (gd rfl rfl rfl rfl) rfl rfl (mv rfl) <| lBind fun x55 h56 => lRun (gd rfl rfl rfl rfl) rfl rfl (ixR rfl rfl h56 Try.underlying32 ti5 rfl) <| lRun (gd rfl rfl rfl rfl) rfl rfl (ldR rfl ty5) <| lRun (gd rfl rfl rfl rfl) rfl rfl (B.eql rfl rfl) <| lRun (gd rfl rfl rfl rfl) rfl rfl (pkF rfl rfl) <| R rfl (pkT rfl rfl) <| gNil <| eThen <| gIf rfl rfl (fun h57 => ?_) (fun h57 => ?_)
                            · skip
                              refine gKn 98 rfl h57 <| gKn 99 rfl h57 <| gReg <| R rfl (mv rfl) <| R rfl (I.add rfl rfl) <| R rfl (asg rfl) <| lName 7 rfl fun y58 => gNil <| eMid (fun aa ww h => h.sub [1, 2, 33] (sS rfl <| sS rfl <| sS rfl <| sS rfl <| sS rfl <| sS rfl <| sS rfl <| sN) (rR rfl rfl <| rR rfl rfl <| rR rfl rfl <| rN))
                            · skip
                              refine gKn 98 rfl h57 <| gKn 99 rfl h57 <| gSkip <| eMid (fun aa ww h => h.sub [1, 2, 33] (sS rfl <| sS rfl <| sS rfl <| sS rfl <| sS rfl <| sS rfl <| sS rfl <| sN) (rR rfl rfl <| rR rfl rfl <| rR rfl rfl <| rN))
                      · skip
                        refine lKn 79 rfl h46 <| lSkip (gd rfl rfl rfl rfl) rfl rfl <| lSkip (gd rfl rfl rfl rfl) rfl rfl <| lSkip (gd rfl rfl rfl rfl) rfl rfl <| lSkip (gd rfl rfl rfl rfl) rfl rfl <| lSkip (gd rfl rfl rfl rfl) rfl rfl <| lSkip (gd rfl rfl rfl rfl) rfl rfl <| lSkip (gdU rfl rfl rfl) rfl rfl <| lSkip (gdU rfl rfl rfl) rfl rfl <| lSkip (gdU rfl rfl rfl) rfl rfl <| lSkip (gdU rfl rfl rfl) rfl rfl <| lSkip (gdU rfl rfl rfl) rfl rfl <| lSkip (gd rfl rfl rfl rfl) rfl rfl <| lSkip (gd rfl rfl rfl rfl) rfl rfl <| lSkip (gdU rfl rfl rfl) rfl rfl <| lSkip (gdU rfl rfl rfl) rfl rfl <| lSkip (gdU rfl rfl rfl) rfl rfl <| lSkip (gdU rfl rfl rfl) rfl rfl <| lSkip (gdU rfl rfl rfl) rfl rfl <| lSkip (gd rfl rfl rfl rfl) rfl rfl <| R rfl (pkF rfl rfl) <| gNil <| eThen <| gFalse rfl <| gSkip <| eMid (fun aa ww h => h.sub [1, 2, 33] (sS rfl <| sS rfl <| sS rfl <| sS rfl <| sS rfl <| sS rfl <| sS rfl <| sN) (rR rfl rfl <| rR rfl rfl <| rR rfl rfl <| rN))
                    · skip
                      refine gSeq <| gSeq <| gReg <| R rfl (faB 33 rfl rfl Try.underlying66 rfl (by exact ti3)) <| R rfl (ld 33 rfl rfl ((Foc.here).part (pt_api_Session_Faults _)) ty3 rfl) <| R rfl (mv rfl) <| R rfl (I.neq rfl rfl) <| R rfl (mv rfl) <| lSplit 107 rfl (fun h59 => ?_) (fun h59 => ?_)
                      · skip
                        refine lKn 106 rfl h59 <| lSkip (gd rfl rfl rfl rfl) rfl rfl <| lSkip (gd rfl rfl rfl rfl) rfl rfl <| lSkip (gd rfl rfl rfl rfl) rfl rfl <| lSkip (gd rfl rfl rfl rfl) rfl rfl <| lSkip (gd rfl rfl rfl rfl) rfl rfl <| lSkip (gd rfl rfl rfl rfl) rfl rfl <| R rfl (pkT rfl rfl) <| gNil <| eThen <| gTrue rfl <| gSeq <| gReg <| R rfl (asg rfl) <| gNil <| eThen <| gRet <| eTret <| eBret <| eTret <| eLret <| eMret <| eRet [] [] rfl (eE rfl <| eN) (rN)
                      · skip
                        refine lKn 106 rfl h59 <| lRun (gd rfl rfl rfl rfl) rfl rfl (faB 33 rfl rfl Try.underlying66 rfl (by exact ti5)) <| lRun (gd rfl rfl rfl rfl) rfl rfl (ld 33 rfl rfl ((Foc.here).part (pt_api_Session_State _)) ty5 rfl) <| lRun (gd rfl rfl rfl rfl) rfl rfl (B.eql rfl rfl) <| lRun (gd rfl rfl rfl rfl) rfl rfl (mv rfl) <| lRun (gd rfl rfl rfl rfl) rfl rfl (I.eql rfl rfl) <| lRun (gd rfl rfl rfl rfl) rfl rfl (neB Try.underlying4 rfl rfl) <| R rfl (pkF rfl rfl) <| gNil <| eThen <| gIf rfl rfl (fun h60 => ?_) (fun h60 => ?_)
                        · skip
                          refine gKn 113 rfl h60 <| gSeq <| gReg <| R rfl (asg rfl) <| gNil <| eThen <| gRet <| eTret <| eBret <| eTret <| eLret <| eMret <| eRet [] [] rfl (eE rfl <| eN) (rN)
                        · skip
                          refine gKn 113 rfl h60 <| gSkip <| eThen <| gSeq <| gReg <| R rfl (ld 33 rfl rfl Foc.here ty66 rfl) <| R rfl (ld 1 rfl rfl Foc.here ty105 rfl) <| call [] [(100, 79)] rfl Try.func83 rfl rfl (session_Take_ok _ _) (aQ rfl <| aQ rfl <| aN) rN fun r61 n62 => R rfl (mv rfl) <| R rfl (ext rfl rfl) <| R rfl (ext rfl rfl) <| R rfl (ext rfl rfl) <| Eb rfl (allc 80 ti66 (.zr zr66)) fun v63 => Es (sto 80 rfl rfl Foc.here rfl ti66) <| R rfl (asg rfl) <| R rfl (asg rfl) <| gNil <| eThen <| gSeq <| gMid (fun (s64 : Bool) aa ww => Sta (ctx 139 H [] w) [(0, .rd (sliceR u8R) a0), (3, .val (ptrTo v1 0)), (5, .rd boolR r2), (6, .val (ptrTo v15 0)), (7, .rd i64R s43), (8, .rd i64R s17.2.2), (12, .val (ptrTo v63 0)), (136, .rd boolR s64)] [(1, some (v1, .box 105 [.rd R_api_Frame a1])), (2, some (v15, .box 66 [.rd R_api_Session s17.1])), (80, some (v63, .box 66 [.rd R_api_Session r61.1]))] aa ww) ?_ (fun s64 => ?_)
                          · skip
                            refine gReg <| R rfl (mv rfl) <| R rfl (I.neq rfl rfl) <| R rfl (mv rfl) <| lSplit 124 rfl (fun h65 => ?_) (fun h65 => ?_)
                            · skip
                              refine lKn 123 rfl h65 <| lSkip (gd rfl rfl rfl rfl) rfl rfl <| lSkip (gd rfl rfl rfl rfl) rfl rfl <| lSkip (gd rfl rfl rfl rfl) rfl rfl <| lSkip (gd rfl rfl rfl rfl) rfl rfl <| lSkip (gd rfl rfl rfl rfl) rfl rfl <| R rfl (pkT rfl rfl) <| R rfl (mv rfl) <| lSkip (gd rfl rfl rfl rfl) rfl rfl <| lSkip (gd rfl rfl rfl rfl) rfl rfl <| lSkip (gd rfl rfl rfl rfl) rfl rfl <| lSkip (gd rfl rfl rfl rfl) rfl rfl <| R rfl (pkT rfl rfl) <| gNil <| eMid (fun aa ww h => h.sub [1, 2, 80] (sS rfl <| sS rfl <| sS rfl <| sS rfl <| sS rfl <| sS rfl <| sS rfl <| sS rfl <| sN) (rR rfl rfl <| rR rfl rfl <| rR rfl rfl <| rN))
                            · skip
                              refine lKn 123 rfl h65 <| lRun (gd rfl rfl rfl rfl) rfl rfl (ld 33 rfl rfl Foc.here ty66 rfl) <| lRun (gd rfl rfl rfl rfl) rfl rfl (ld 80 rfl rfl Foc.here ty66 rfl) <| lRun (gd rfl rfl rfl rfl) rfl rfl (mv rfl) <| lFrz 79 [120, 13, 127] rfl (fS rfl <| fS rfl <| fS rfl <| fN) <| callg [] [] (gd rfl rfl rfl rfl) rfl Try.func89 rfl rfl (braidlaw25_ends_ok _ _ _) (aQ rfl <| aQ rfl <| aQ rfl <| aN) rN fun r66 n67 => lRun (gd rfl rfl rfl rfl) rfl rfl (not' rfl) <| R rfl (pkF rfl rfl) <| R rfl (mv rfl) <| lSplit 131 rfl (fun h68 => ?_) (fun h68 => ?_)
                              · skip
                                refine lKn 129 rfl h68 <| lKn 130 rfl h68 <| lSkip (gd rfl rfl rfl rfl) rfl rfl <| lSkip (gd rfl rfl rfl rfl) rfl rfl <| lSkip (gd rfl rfl rfl rfl) rfl rfl <| lSkip (gd rfl rfl rfl rfl) rfl rfl <| R rfl (pkT rfl rfl) <| gNil <| eMid (fun aa ww h => h.sub [1, 2, 80] (sS rfl <| sS rfl <| sS rfl <| sS rfl <| sS rfl <| sS rfl <| sS rfl <| sS rfl <| sN) (rR rfl rfl <| rR rfl rfl <| rR rfl rfl <| rN))
                              · skip
                                refine lKn 129 rfl h68 <| lKn 130 rfl h68 <| lRun (gd rfl rfl rfl rfl) rfl rfl (faB 80 rfl rfl Try.underlying66 rfl (by exact ti3)) <| lRun (gd rfl rfl rfl rfl) rfl rfl (ld 80 rfl rfl ((Foc.here).part (pt_api_Session_Faults _)) ty3 rfl) <| lRun (gd rfl rfl rfl rfl) rfl rfl (mv rfl) <| lRun (gd rfl rfl rfl rfl) rfl rfl (I.neq rfl rfl) <| R rfl (pkF rfl rfl) <| gNil <| eMid (fun aa ww h => h.sub [1, 2, 80] (sS rfl <| sS rfl <| sS rfl <| sS rfl <| sS rfl <| sS rfl <| sS rfl <| sS rfl <| sN) (rR rfl rfl <| rR rfl rfl <| rR rfl rfl <| rN))
                          · skip
                            refine gIf rfl rfl (fun h69 => ?_) (fun h69 => ?_)
                            · skip
                              refine gSeq <| gReg <| R rfl (asg rfl) <| gNil <| eThen <| gRet <| eTret <| eBret <| eTret <| eLret <| eMret <| eRet [] [] rfl (eE rfl <| eN) (rN)
                            · skip
                              refine gSkip <| eThen <| gReg <| R rfl (ld 80 rfl rfl Foc.here ty66 rfl) <| Es (sto 2 rfl rfl Foc.here rfl ti66) <| gNil <| eBlk <| eThen <| gReg <| R rfl (mv rfl) <| R rfl (I.add rfl rfl) <| R rfl (asg rfl) <| lName 8 rfl fun y70 => gNil <| eNext (fun aa ww h => h.sub [1, 2] (sS rfl <| sS rfl <| sS rfl <| sS rfl <| sS rfl <| sS rfl <| sN) (rR rfl rfl <| rR rfl rfl <| rN))
        · skip
          refine gExit <| eTexit <| eLeave <| eMidR (fun aa ww h => h.sub [] (sS rfl <| sN) (rN))
      · skip
        refine gSeq <| gReg <| R rfl (mv rfl) <| R rfl (asg rfl) <| gNil <| eThen <| gRet <| eRet [] [] rfl (eE rfl <| eN) (rN)


def session_Next (a0 : UInt8) (a1 : UInt8) : Option (UInt8 × Int) :=
  (if decide (a0 < 1) then
    some true
  else
    if decide (5 < a0) then
      some true
    else
      if decide (a1 < 1) then
        some true
      else
        some (decide (6 < a1))) >>= fun s1 =>
  if s1 then
    some (0, 2)
  else
    session_find a0 a1 >>= fun r6 =>
    if r6.2 then
      some (r6.1.next, 0)
    else
      some (max a0 4, 0)
set_option maxRecDepth 100000 in
theorem session_Next_ok (a0 : UInt8) (a1 : UInt8) : Spec Try.prog 55 [.rd u8R a0, .rd u8R a1] [] (session_Next a0 a1) (fun r nv => ⟨[.rd u8R r.1, .rd i64R r.2], []⟩) := by
  refine spec 33 Try.func55 rfl rfl rfl fun H w => ?_
  refine gSeq <| gReg <| R rfl (asg rfl) <| R rfl (asg rfl) <| gNil <| eThen <| gSeq <| gMid (fun (s1 : Bool) aa ww => Sta (ctx 33 H [] w) [(0, .rd u8R a0), (1, .rd u8R a1), (21, .rd boolR s1)] [] aa ww) ?_ (fun s1 => ?_)
  · skip
    refine gReg <| R rfl (mv rfl) <| R rfl (B.lss rfl rfl) <| R rfl (mv rfl) <| lSplit 10 rfl (fun h2 => ?_) (fun h2 => ?_)
    · skip
      refine lKn 9 rfl h2 <| lSkip (gd rfl rfl rfl rfl) rfl rfl <| lSkip (gd rfl rfl rfl rfl) rfl rfl <| R rfl (pkT rfl rfl) <| R rfl (mv rfl) <| lSkip (gd rfl rfl rfl rfl) rfl rfl <| lSkip (gd rfl rfl rfl rfl) rfl rfl <| R rfl (pkT rfl rfl) <| R rfl (mv rfl) <| lSkip (gd rfl rfl rfl rfl) rfl rfl <| lSkip (gd rfl rfl rfl rfl) rfl rfl <| R rfl (pkT rfl rfl) <| gNil <| eMid (fun aa ww h => h.sub [] (sS rfl <| sS rfl <| sS rfl <| sN) (rN))
    · skip
      refine lKn 9 rfl h2 <| lRun (gd rfl rfl rfl rfl) rfl rfl (mv rfl) <| lRun (gd rfl rfl rfl rfl) rfl rfl (B.gtr rfl rfl) <| R rfl (pkF rfl rfl) <| R rfl (mv rfl) <| lSplit 14 rfl (fun h3 => ?_) (fun h3 => ?_)
      · skip
        refine lKn 12 rfl h3 <| lKn 13 rfl h3 <| lSkip (gd rfl rfl rfl rfl) rfl rfl <| lSkip (gd rfl rfl rfl rfl) rfl rfl <| R rfl (pkT rfl rfl) <| R rfl (mv rfl) <| lSkip (gd rfl rfl rfl rfl) rfl rfl <| lSkip (gd rfl rfl rfl rfl) rfl rfl <| R rfl (pkT rfl rfl) <| gNil <| eMid (fun aa ww h => h.sub [] (sS rfl <| sS rfl <| sS rfl <| sN) (rN))
      · skip
        refine lKn 12 rfl h3 <| lKn 13 rfl h3 <| lRun (gd rfl rfl rfl rfl) rfl rfl (mv rfl) <| lRun (gd rfl rfl rfl rfl) rfl rfl (B.lss rfl rfl) <| R rfl (pkF rfl rfl) <| R rfl (mv rfl) <| lSplit 18 rfl (fun h4 => ?_) (fun h4 => ?_)
        · skip
          refine lKn 16 rfl h4 <| lKn 17 rfl h4 <| lSkip (gd rfl rfl rfl rfl) rfl rfl <| lSkip (gd rfl rfl rfl rfl) rfl rfl <| R rfl (pkT rfl rfl) <| gNil <| eMid (fun aa ww h => h.sub [] (sS rfl <| sS rfl <| sS rfl <| sN) (rN))
        · skip
          refine lKn 16 rfl h4 <| lKn 17 rfl h4 <| lRun (gd rfl rfl rfl rfl) rfl rfl (mv rfl) <| lRun (gd rfl rfl rfl rfl) rfl rfl (B.gtr rfl rfl) <| R rfl (pkF rfl rfl) <| gNil <| eMid (fun aa ww h => h.sub [] (sS rfl <| sS rfl <| sS rfl <| sN) (rN))
  · skip
    refine gIf rfl rfl (fun h5 => ?_) (fun h5 => ?_)
    · skip
      refine gSeq <| gReg <| R rfl (asg rfl) <| R rfl (asg rfl) <| gNil <| eThen <| gRet <| eTret <| eRet [] [] rfl (eE rfl <| eE rfl <| eN) (rN)
    · skip
      refine gSkip <| eThen <| gSeq <| gSeq <| gReg <| R rfl (mv rfl) <| R rfl (mv rfl) <| call [] [] rfl Try.func113 rfl rfl (session_find_ok _ _) (aQ rfl <| aQ rfl <| aN) rN fun r6 n7 => R rfl (mv rfl) <| R rfl (ext rfl rfl) <| R rfl (ext rfl rfl) <| Eb rfl (allc 1 ti161 (.zr zr161)) fun v8 => Es (sto 1 rfl rfl Foc.here rfl ti161) <| R rfl (asg rfl) <| gNil <| eThen <| gSeq <| gReg <| R rfl (mv rfl) <| gNil <| eThen <| gIf rfl rfl (fun h9 => ?_) (fun h9 => ?_)
      · skip
        refine gKn 27 rfl h9 <| gKn 7 rfl h9 <| gSeq <| gReg <| R rfl (faB 1 rfl rfl Try.underlying161 rfl (by exact ti5)) <| R rfl (ld 1 rfl rfl ((Foc.here).part (pt_session_rule_next _)) ty5 rfl) <| R rfl (asg rfl) <| R rfl (asg rfl) <| gNil <| eThen <| gRet <| eTret <| eRet [] [] rfl (eE rfl <| eE rfl <| eN) (rN)
      · skip
        refine gKn 27 rfl h9 <| gKn 7 rfl h9 <| gSkip <| eThen <| gSeq <| gReg <| R rfl (mv rfl) <| R rfl (B.max rfl rfl) <| R rfl (asg rfl) <| R rfl (asg rfl) <| gNil <| eThen <| gRet <| eRet [] [] rfl (eE rfl <| eE rfl <| eN) (rN)


def braidlaw25_SessionNext (a0 : api_Session) (a1 : api_Frame) : Option (Bool) :=
  braidlaw25_alive >>= fun r3 =>
  (braidref25_Great a1 >>= fun r6 =>
  if r6 then
    some true
  else
    braidref25_Check a0 >>= fun r9 =>
    if r9 != 0 then
      some true
    else
      braidref07_Check a1 >>= fun r12 =>
      if r12 != 0 then
        some true
      else
        some (!r3)) >>= fun s5 =>
  if s5 then
    some r3
  else
    session_Take a0 a1 >>= fun r16 =>
    session_Next a0.State a1.Kind >>= fun r19 =>
    (if r16.2.2 != 0 then
      some true
    else
      if r19.2 != 0 then
        some true
      else
        braidref25_Check r16.1 >>= fun r24 =>
        if r24 != 0 then
          some true
        else
          some (r16.1.Faults != a0.Faults)) >>= fun s21 =>
    if s21 then
      some false
    else
      (if a0.State == 1 then
        if a1.Kind == 1 then
          some (a1.N != 1)
        else
          some false
      else
        some false) >>= fun s28 =>
      orRet (if !s28 then
        if r16.1.State != r19.1 then
          some (.inl false)
        else
          if s28 then
            if r16.1.State != 4 then
              some (.inl false)
            else
              some (.inr ())
          else
            some (.inr ())
      else
        if s28 then
          if r16.1.State != 4 then
            some (.inl false)
          else
            some (.inr ())
        else
          some (.inr ())) fun s31 =>
      if r3 then
        braidlaw25_ends a0 r16.1 r16.2.1 >>= fun r39 =>
        some r39
      else
        some false
set_option maxRecDepth 100000 in
theorem braidlaw25_SessionNext_ok (a0 : api_Session) (a1 : api_Frame) : Spec Try.prog 16 [.rd R_api_Session a0, .rd R_api_Frame a1] [] (braidlaw25_SessionNext a0 a1) (fun r nv => ⟨[.rd boolR r], []⟩) := by
  refine spec 99 Try.func16 rfl rfl rfl fun H w => ?_
  refine gSeq <| gReg <| Eb rfl (bx 1 rfl) fun v1 => Eb rfl (bx 2 rfl) fun v2 => R rfl (asg rfl) <| gNil <| eThen <| gSeq <| gReg <| call [] [] rfl Try.func88 rfl rfl (braidlaw25_alive_ok) (aN) rN fun r3 n4 => R rfl (asg rfl) <| gNil <| eThen <| gSeq <| gMid (fun (s5 : Bool) aa ww => Sta (ctx 99 H [] w) [(2, .val (ptrTo v1 0)), (3, .val (ptrTo v2 0)), (5, .rd boolR r3), (28, .rd boolR s5)] [(1, some (v1, .box 66 [.rd R_api_Session a0])), (2, some (v2, .box 105 [.rd R_api_Frame a1]))] aa ww) ?_ (fun s5 => ?_)
  · skip
    refine gReg <| R rfl (ld 2 rfl rfl Foc.here ty105 rfl) <| call [] [] rfl Try.func81 rfl rfl (braidref25_Great_ok _) (aQ rfl <| aN) rN fun r6 n7 => R rfl (mv rfl) <| lSplit 15 rfl (fun h8 => ?_) (fun h8 => ?_)
    · skip
      refine lKn 14 rfl h8 <| lSkip (gd rfl rfl rfl rfl) rfl rfl <| lSkip (gd rfl rfl rfl rfl) rfl rfl <| lSkip (gd rfl rfl rfl rfl) rfl rfl <| R rfl (pkT rfl rfl) <| R rfl (mv rfl) <| lSkip (gd rfl rfl rfl rfl) rfl rfl <| lSkip (gd rfl rfl rfl rfl) rfl rfl <| lSkip (gd rfl rfl rfl rfl) rfl rfl <| R rfl (pkT rfl rfl) <| R rfl (mv rfl) <| lSkip (gd rfl rfl rfl rfl) rfl rfl <| lSkip (gd rfl rfl rfl rfl) rfl rfl <| R rfl (pkT rfl rfl) <| gNil <| eMid (fun aa ww h => h.sub [1, 2] (sS rfl <| sS rfl <| sS rfl <| sS rfl <| sN) (rR rfl rfl <| rR rfl rfl <| rN))
    · skip
      refine lKn 14 rfl h8 <| lRun (gd rfl rfl rfl rfl) rfl rfl (ld 1 rfl rfl Foc.here ty66 rfl) <| callg [] [] (gd rfl rfl rfl rfl) rfl Try.func86 rfl rfl (braidref25_Check_ok _) (aQ rfl <| aN) rN fun r9 n10 => lRun (gd rfl rfl rfl rfl) rfl rfl (I.neq rfl rfl) <| R rfl (pkF rfl rfl) <| R rfl (mv rfl) <| lSplit 20 rfl (fun h11 => ?_) (fun h11 => ?_)
      · skip
        refine lKn 18 rfl h11 <| lKn 19 rfl h11 <| lSkip (gd rfl rfl rfl rfl) rfl rfl <| lSkip (gd rfl rfl rfl rfl) rfl rfl <| lSkip (gd rfl rfl rfl rfl) rfl rfl <| R rfl (pkT rfl rfl) <| R rfl (mv rfl) <| lSkip (gd rfl rfl rfl rfl) rfl rfl <| lSkip (gd rfl rfl rfl rfl) rfl rfl <| R rfl (pkT rfl rfl) <| gNil <| eMid (fun aa ww h => h.sub [1, 2] (sS rfl <| sS rfl <| sS rfl <| sS rfl <| sN) (rR rfl rfl <| rR rfl rfl <| rN))
      · skip
        refine lKn 18 rfl h11 <| lKn 19 rfl h11 <| lRun (gd rfl rfl rfl rfl) rfl rfl (ld 2 rfl rfl Foc.here ty105 rfl) <| callg [] [] (gd rfl rfl rfl rfl) rfl Try.func77 rfl rfl (braidref07_Check_ok _) (aQ rfl <| aN) rN fun r12 n13 => lRun (gd rfl rfl rfl rfl) rfl rfl (I.neq rfl rfl) <| R rfl (pkF rfl rfl) <| R rfl (mv rfl) <| lSplit 25 rfl (fun h14 => ?_) (fun h14 => ?_)
        · skip
          refine lKn 23 rfl h14 <| lKn 24 rfl h14 <| lSkip (gd rfl rfl rfl rfl) rfl rfl <| lSkip (gd rfl rfl rfl rfl) rfl rfl <| R rfl (pkT rfl rfl) <| gNil <| eMid (fun aa ww h => h.sub [1, 2] (sS rfl <| sS rfl <| sS rfl <| sS rfl <| sN) (rR rfl rfl <| rR rfl rfl <| rN))
        · skip
          refine lKn 23 rfl h14 <| lKn 24 rfl h14 <| lRun (gd rfl rfl rfl rfl) rfl rfl (mv rfl) <| lRun (gd rfl rfl rfl rfl) rfl rfl (not' rfl) <| R rfl (pkF rfl rfl) <| gNil <| eMid (fun aa ww h => h.sub [1, 2] (sS rfl <| sS rfl <| sS rfl <| sS rfl <| sN) (rR rfl rfl <| rR rfl rfl <| rN))
  · skip
    refine gIf rfl rfl (fun h15 => ?_) (fun h15 => ?_)
    · skip
      refine gSeq <| gReg <| R rfl (mv rfl) <| R rfl (asg rfl) <| gNil <| eThen <| gRet <| eTret <| eRet [] [] rfl (eE rfl <| eN) (rN)
    · skip
      refine gSkip <| eThen <| gSeq <| gReg <| R rfl (ld 1 rfl rfl Foc.here ty66 rfl) <| R rfl (ld 2 rfl rfl Foc.here ty105 rfl) <| call [] [(100, 3)] rfl Try.func83 rfl rfl (session_Take_ok _ _) (aQ rfl <| aQ rfl <| aN) rN fun r16 n17 => R rfl (mv rfl) <| R rfl (ext rfl rfl) <| R rfl (ext rfl rfl) <| R rfl (ext rfl rfl) <| Eb rfl (allc 4 ti66 (.zr zr66)) fun v18 => Es (sto 4 rfl rfl Foc.here rfl ti66) <| R rfl (asg rfl) <| R rfl (asg rfl) <| gNil <| eThen <| gSeq <| gReg <| R rfl (faB 1 rfl rfl Try.underlying66 rfl (by exact ti5)) <| R rfl (ld 1 rfl rfl ((Foc.here).part (pt_api_Session_State _)) ty5 rfl) <| R rfl (faB 2 rfl rfl Try.underlying105 rfl (by exact ti5)) <| R rfl (ld 2 rfl rfl ((Foc.here).part (pt_api_Frame_Kind _)) ty5 rfl) <| call [] [] rfl Try.func55 rfl rfl (session_Next_ok _ _) (aQ rfl <| aQ rfl <| aN) rN fun r19 n20 => R rfl (mv rfl) <| R rfl (ext rfl rfl) <| R rfl (ext rfl rfl) <| R rfl (asg rfl) <| R rfl (asg rfl) <| gNil <| eThen <| gSeq <| gMid (fun (s21 : Bool) aa ww => Sta (ctx 99 H [] w) [(2, .val (ptrTo v1 0)), (3, .val (ptrTo v2 0)), (5, .rd boolR r3), (6, .val (ptrTo v18 0)), (7, .val (n17 0)), (9, .rd u8R r19.1), (62, .rd boolR s21)] [(1, some (v1, .box 66 [.rd R_api_Session a0])), (2, some (v2, .box 105 [.rd R_api_Frame a1])), (4, some (v18, .box 66 [.rd R_api_Session r16.1])), (3, some ((n17 0), .list R_api_Doing 136 r16.2.1))] aa ww) ?_ (fun s21 => ?_)
      · skip
        refine gReg <| R rfl (mv rfl) <| R rfl (I.neq rfl rfl) <| R rfl (mv rfl) <| lSplit 47 rfl (fun h22 => ?_) (fun h22 => ?_)
        · skip
          refine lKn 46 rfl h22 <| lSkip (gd rfl rfl rfl rfl) rfl rfl <| lSkip (gd rfl rfl rfl rfl) rfl rfl <| R rfl (pkT rfl rfl) <| R rfl (mv rfl) <| lSkip (gd rfl rfl rfl rfl) rfl rfl <| lSkip (gd rfl rfl rfl rfl) rfl rfl <| lSkip (gd rfl rfl rfl rfl) rfl rfl <| R rfl (pkT rfl rfl) <| R rfl (mv rfl) <| lSkip (gd rfl rfl rfl rfl) rfl rfl <| lSkip (gd rfl rfl rfl rfl) rfl rfl <| lSkip (gd rfl rfl rfl rfl) rfl rfl <| lSkip (gd rfl rfl rfl rfl) rfl rfl <| lSkip (gd rfl rfl rfl rfl) rfl rfl <| R rfl (pkT rfl rfl) <| gNil <| eMid (fun aa ww h => h.sub [1, 2, 4, 3] (sS rfl <| sS rfl <| sS rfl <| sS rfl <| sS rfl <| sS rfl <| sS rfl <| sN) (rR rfl rfl <| rR rfl rfl <| rR rfl rfl <| rR rfl rfl <| rN))
        · skip
          refine lKn 46 rfl h22 <| lRun (gd rfl rfl rfl rfl) rfl rfl (mv rfl) <| lRun (gd rfl rfl rfl rfl) rfl rfl (I.neq rfl rfl) <| R rfl (pkF rfl rfl) <| R rfl (mv rfl) <| lSplit 51 rfl (fun h23 => ?_) (fun h23 => ?_)
          · skip
            refine lKn 49 rfl h23 <| lKn 50 rfl h23 <| lSkip (gd rfl rfl rfl rfl) rfl rfl <| lSkip (gd rfl rfl rfl rfl) rfl rfl <| lSkip (gd rfl rfl rfl rfl) rfl rfl <| R rfl (pkT rfl rfl) <| R rfl (mv rfl) <| lSkip (gd rfl rfl rfl rfl) rfl rfl <| lSkip (gd rfl rfl rfl rfl) rfl rfl <| lSkip (gd rfl rfl rfl rfl) rfl rfl <| lSkip (gd rfl rfl rfl rfl) rfl rfl <| lSkip (gd rfl rfl rfl rfl) rfl rfl <| R rfl (pkT rfl rfl) <| gNil <| eMid (fun aa ww h => h.sub [1, 2, 4, 3] (sS rfl <| sS rfl <| sS rfl <| sS rfl <| sS rfl <| sS rfl <| sS rfl <| sN) (rR rfl rfl <| rR rfl rfl <| rR rfl rfl <| rR rfl rfl <| rN))
          · skip
            refine lKn 49 rfl h23 <| lKn 50 rfl h23 <| lRun (gd rfl rfl rfl rfl) rfl rfl (ld 4 rfl rfl Foc.here ty66 rfl) <| callg [] [] (gd rfl rfl rfl rfl) rfl Try.func86 rfl rfl (braidref25_Check_ok _) (aQ rfl <| aN) rN fun r24 n25 => lRun (gd rfl rfl rfl rfl) rfl rfl (I.neq rfl rfl) <| R rfl (pkF rfl rfl) <| R rfl (mv rfl) <| lSplit 56 rfl (fun h26 => ?_) (fun h26 => ?_)
            · skip
              refine lKn 54 rfl h26 <| lKn 55 rfl h26 <| lSkip (gd rfl rfl rfl rfl) rfl rfl <| lSkip (gd rfl rfl rfl rfl) rfl rfl <| lSkip (gd rfl rfl rfl rfl) rfl rfl <| lSkip (gd rfl rfl rfl rfl) rfl rfl <| lSkip (gd rfl rfl rfl rfl) rfl rfl <| R rfl (pkT rfl rfl) <| gNil <| eMid (fun aa ww h => h.sub [1, 2, 4, 3] (sS rfl <| sS rfl <| sS rfl <| sS rfl <| sS rfl <| sS rfl <| sS rfl <| sN) (rR rfl rfl <| rR rfl rfl <| rR rfl rfl <| rR rfl rfl <| rN))
            · skip
              refine lKn 54 rfl h26 <| lKn 55 rfl h26 <| lRun (gd rfl rfl rfl rfl) rfl rfl (faB 4 rfl rfl Try.underlying66 rfl (by exact ti3)) <| lRun (gd rfl rfl rfl rfl) rfl rfl (ld 4 rfl rfl ((Foc.here).part (pt_api_Session_Faults _)) ty3 rfl) <| lRun (gd rfl rfl rfl rfl) rfl rfl (faB 1 rfl rfl Try.underlying66 rfl (by exact ti3)) <| lRun (gd rfl rfl rfl rfl) rfl rfl (ld 1 rfl rfl ((Foc.here).part (pt_api_Session_Faults _)) ty3 rfl) <| lRun (gd rfl rfl rfl rfl) rfl rfl (I.neq rfl rfl) <| R rfl (pkF rfl rfl) <| gNil <| eMid (fun aa ww h => h.sub [1, 2, 4, 3] (sS rfl <| sS rfl <| sS rfl <| sS rfl <| sS rfl <| sS rfl <| sS rfl <| sN) (rR rfl rfl <| rR rfl rfl <| rR rfl rfl <| rR rfl rfl <| rN))
      · skip
        refine gIf rfl rfl (fun h27 => ?_) (fun h27 => ?_)
        · skip
          refine gSeq <| gReg <| R rfl (asg rfl) <| gNil <| eThen <| gRet <| eTret <| eRet [] [] rfl (eE rfl <| eN) (rN)
        · skip
          refine gSkip <| eThen <| gMid (fun (s28 : Bool) aa ww => Sta (ctx 99 H [] w) [(2, .val (ptrTo v1 0)), (5, .rd boolR r3), (6, .val (ptrTo v18 0)), (7, .val (n17 0)), (9, .rd u8R r19.1), (11, .rd boolR s28)] [(1, some (v1, .box 66 [.rd R_api_Session a0])), (4, some (v18, .box 66 [.rd R_api_Session r16.1])), (3, some ((n17 0), .list R_api_Doing 136 r16.2.1))] aa ww) ?_ (fun s28 => ?_)
          · skip
            refine gReg <| R rfl (faB 1 rfl rfl Try.underlying66 rfl (by exact ti5)) <| R rfl (ld 1 rfl rfl ((Foc.here).part (pt_api_Session_State _)) ty5 rfl) <| R rfl (B.eql rfl rfl) <| R rfl (mv rfl) <| lSplit 66 rfl (fun h29 => ?_) (fun h29 => ?_)
            · skip
              refine lKn 65 rfl h29 <| lRun (gd rfl rfl rfl rfl) rfl rfl (faB 2 rfl rfl Try.underlying105 rfl (by exact ti5)) <| lRun (gd rfl rfl rfl rfl) rfl rfl (ld 2 rfl rfl ((Foc.here).part (pt_api_Frame_Kind _)) ty5 rfl) <| lRun (gd rfl rfl rfl rfl) rfl rfl (B.eql rfl rfl) <| R rfl (pkT rfl rfl) <| R rfl (mv rfl) <| lSplit 71 rfl (fun h30 => ?_) (fun h30 => ?_)
              · skip
                refine lKn 69 rfl h30 <| lKn 70 rfl h30 <| lRun (gd rfl rfl rfl rfl) rfl rfl (faB 2 rfl rfl Try.underlying105 rfl (by exact ti31)) <| lRun (gd rfl rfl rfl rfl) rfl rfl (ld 2 rfl rfl ((Foc.here).part (pt_api_Frame_N _)) ty31 rfl) <| lRun (gd rfl rfl rfl rfl) rfl rfl (U.neq rfl rfl) <| R rfl (pkT rfl rfl) <| R rfl (asg rfl) <| gNil <| eMid (fun aa ww h => h.sub [1, 4, 3] (sS rfl <| sS rfl <| sS rfl <| sS rfl <| sS rfl <| sS rfl <| sN) (rR rfl rfl <| rR rfl rfl <| rR rfl rfl <| rN))
              · skip
                refine lKn 69 rfl h30 <| lKn 70 rfl h30 <| lSkip (gd rfl rfl rfl rfl) rfl rfl <| lSkip (gd rfl rfl rfl rfl) rfl rfl <| lSkip (gd rfl rfl rfl rfl) rfl rfl <| R rfl (pkF rfl rfl) <| R rfl (asg rfl) <| gNil <| eMid (fun aa ww h => h.sub [1, 4, 3] (sS rfl <| sS rfl <| sS rfl <| sS rfl <| sS rfl <| sS rfl <| sN) (rR rfl rfl <| rR rfl rfl <| rR rfl rfl <| rN))
            · skip
              refine lKn 65 rfl h29 <| lSkip (gd rfl rfl rfl rfl) rfl rfl <| lSkip (gd rfl rfl rfl rfl) rfl rfl <| lSkip (gd rfl rfl rfl rfl) rfl rfl <| R rfl (pkF rfl rfl) <| R rfl (mv rfl) <| lSkip (gd rfl rfl rfl rfl) rfl rfl <| lSkip (gd rfl rfl rfl rfl) rfl rfl <| lSkip (gd rfl rfl rfl rfl) rfl rfl <| R rfl (pkF rfl rfl) <| R rfl (asg rfl) <| gNil <| eMid (fun aa ww h => h.sub [1, 4, 3] (sS rfl <| sS rfl <| sS rfl <| sS rfl <| sS rfl <| sS rfl <| sN) (rR rfl rfl <| rR rfl rfl <| rR rfl rfl <| rN))
          · skip
            refine gMidR (fun (s31 : Unit) aa ww => Sta (ctx 99 H [] w) [(2, .val (ptrTo v1 0)), (5, .rd boolR r3), (6, .val (ptrTo v18 0)), (7, .val (n17 0))] [(1, some (v1, .box 66 [.rd R_api_Session a0])), (4, some (v18, .box 66 [.rd R_api_Session r16.1])), (3, some ((n17 0), .list R_api_Doing 136 r16.2.1))] aa ww) ?_ (fun s31 => ?_)
            · skip
              refine gSeq <| gReg <| R rfl (mv rfl) <| R rfl (not' rfl) <| R rfl (mv rfl) <| lSplit 78 rfl (fun h32 => ?_) (fun h32 => ?_)
              · skip
                refine lKn 77 rfl h32 <| lRun (gd rfl rfl rfl rfl) rfl rfl (faB 4 rfl rfl Try.underlying66 rfl (by exact ti5)) <| lRun (gd rfl rfl rfl rfl) rfl rfl (ld 4 rfl rfl ((Foc.here).part (pt_api_Session_State _)) ty5 rfl) <| lRun (gd rfl rfl rfl rfl) rfl rfl (mv rfl) <| lRun (gd rfl rfl rfl rfl) rfl rfl (B.neq rfl rfl) <| R rfl (pkT rfl rfl) <| R rfl (mv rfl) <| lSplit 84 rfl (fun h33 => ?_) (fun h33 => ?_)
                · skip
                  refine lKn 82 rfl h33 <| lKn 83 rfl h33 <| lSkip (gd rfl rfl rfl rfl) rfl rfl <| lSkip (gd rfl rfl rfl rfl) rfl rfl <| lSkip (gdU rfl rfl rfl) rfl rfl <| lSkip (gdU rfl rfl rfl) rfl rfl <| lSkip (gdU rfl rfl rfl) rfl rfl <| lSkip (gd rfl rfl rfl rfl) rfl rfl <| R rfl (pkT rfl rfl) <| gNil <| eThen <| gTrue rfl <| gSeq <| gReg <| R rfl (asg rfl) <| gNil <| eThen <| gRet <| eMret <| eRet [] [] rfl (eE rfl <| eN) (rN)
                · skip
                  refine lKn 82 rfl h33 <| lKn 83 rfl h33 <| lRun (gd rfl rfl rfl rfl) rfl rfl (mv rfl) <| lRun (gd rfl rfl rfl rfl) rfl rfl (mv rfl) <| lSplit 86 rfl (fun h34 => ?_) (fun h34 => ?_)
                  · skip
                    refine lKn 11 rfl h34 <| lKn 76 rfl h34 <| lKn 85 rfl h34 <| lRun (gd rfl rfl rfl rfl) rfl rfl (faB 4 rfl rfl Try.underlying66 rfl (by exact ti5)) <| lRun (gd rfl rfl rfl rfl) rfl rfl (ld 4 rfl rfl ((Foc.here).part (pt_api_Session_State _)) ty5 rfl) <| lRun (gd rfl rfl rfl rfl) rfl rfl (B.neq rfl rfl) <| lRun (gd rfl rfl rfl rfl) rfl rfl (pkT rfl rfl) <| R rfl (pkF rfl rfl) <| gNil <| eThen <| gIf rfl rfl (fun h35 => ?_) (fun h35 => ?_)
                    · skip
                      refine gKn 89 rfl h35 <| gKn 90 rfl h35 <| gSeq <| gReg <| R rfl (asg rfl) <| gNil <| eThen <| gRet <| eMret <| eRet [] [] rfl (eE rfl <| eN) (rN)
                    · skip
                      refine gKn 89 rfl h35 <| gKn 90 rfl h35 <| gSkip <| eMidR (fun aa ww h => h.sub [1, 4, 3] (sS rfl <| sS rfl <| sS rfl <| sS rfl <| sN) (rR rfl rfl <| rR rfl rfl <| rR rfl rfl <| rN))
                  · skip
                    refine lKn 11 rfl h34 <| lKn 76 rfl h34 <| lKn 85 rfl h34 <| lSkip (gd rfl rfl rfl rfl) rfl rfl <| lSkip (gd rfl rfl rfl rfl) rfl rfl <| lSkip (gd rfl rfl rfl rfl) rfl rfl <| lRun (gd rfl rfl rfl rfl) rfl rfl (pkF rfl rfl) <| R rfl (pkF rfl rfl) <| gNil <| eThen <| gFalse rfl <| gSkip <| eMidR (fun aa ww h => h.sub [1, 4, 3] (sS rfl <| sS rfl <| sS rfl <| sS rfl <| sN) (rR rfl rfl <| rR rfl rfl <| rR rfl rfl <| rN))
              · skip
                refine lKn 77 rfl h32 <| lSkip (gd rfl rfl rfl rfl) rfl rfl <| lSkip (gd rfl rfl rfl rfl) rfl rfl <| lSkip (gd rfl rfl rfl rfl) rfl rfl <| lSkip (gd rfl rfl rfl rfl) rfl rfl <| R rfl (pkF rfl rfl) <| R rfl (mv rfl) <| lRun (gd rfl rfl rfl rfl) rfl rfl (mv rfl) <| lRun (gd rfl rfl rfl rfl) rfl rfl (mv rfl) <| lSplit 86 rfl (fun h36 => ?_) (fun h36 => ?_)
                · skip
                  refine lKn 11 rfl h36 <| lKn 76 rfl h36 <| lKn 85 rfl h36 <| lRun (gd rfl rfl rfl rfl) rfl rfl (faB 4 rfl rfl Try.underlying66 rfl (by exact ti5)) <| lRun (gd rfl rfl rfl rfl) rfl rfl (ld 4 rfl rfl ((Foc.here).part (pt_api_Session_State _)) ty5 rfl) <| lRun (gd rfl rfl rfl rfl) rfl rfl (B.neq rfl rfl) <| lRun (gd rfl rfl rfl rfl) rfl rfl (pkT rfl rfl) <| R rfl (pkF rfl rfl) <| gNil <| eThen <| gIf rfl rfl (fun h37 => ?_) (fun h37 => ?_)
                  · skip
                    refine gKn 89 rfl h37 <| gKn 90 rfl h37 <| gSeq <| gReg <| R rfl (asg rfl) <| gNil <| eThen <| gRet <| eMret <| eRet [] [] rfl (eE rfl <| eN) (rN)
                  · skip
                    refine gKn 89 rfl h37 <| gKn 90 rfl h37 <| gSkip <| eMidR (fun aa ww h => h.sub [1, 4, 3] (sS rfl <| sS rfl <| sS rfl <| sS rfl <| sN) (rR rfl rfl <| rR rfl rfl <| rR rfl rfl <| rN))
                · skip
                  refine lKn 11 rfl h36 <| lKn 76 rfl h36 <| lKn 85 rfl h36 <| lSkip (gd rfl rfl rfl rfl) rfl rfl <| lSkip (gd rfl rfl rfl rfl) rfl rfl <| lSkip (gd rfl rfl rfl rfl) rfl rfl <| lRun (gd rfl rfl rfl rfl) rfl rfl (pkF rfl rfl) <| R rfl (pkF rfl rfl) <| gNil <| eThen <| gFalse rfl <| gSkip <| eMidR (fun aa ww h => h.sub [1, 4, 3] (sS rfl <| sS rfl <| sS rfl <| sS rfl <| sN) (rR rfl rfl <| rR rfl rfl <| rR rfl rfl <| rN))
            · skip
              refine gSeq <| gReg <| R rfl (mv rfl) <| R rfl (mv rfl) <| lSplit 93 rfl (fun h38 => ?_) (fun h38 => ?_)
              · skip
                refine lKn 5 rfl h38 <| lKn 92 rfl h38 <| lRun (gd rfl rfl rfl rfl) rfl rfl (ld 1 rfl rfl Foc.here ty66 rfl) <| lRun (gd rfl rfl rfl rfl) rfl rfl (ld 4 rfl rfl Foc.here ty66 rfl) <| lRun (gd rfl rfl rfl rfl) rfl rfl (mv rfl) <| lFrz 3 [7, 96] rfl (fS rfl <| fS rfl <| fN) <| callg [] [] (gd rfl rfl rfl rfl) rfl Try.func89 rfl rfl (braidlaw25_ends_ok _ _ _) (aQ rfl <| aQ rfl <| aQ rfl <| aN) rN fun r39 n40 => R rfl (pkT rfl rfl) <| R rfl (asg rfl) <| gNil <| eThen <| gRet <| eRet [] [] rfl (eE rfl <| eN) (rN)
              · skip
                refine lKn 5 rfl h38 <| lKn 92 rfl h38 <| lSkip (gd rfl rfl rfl rfl) rfl rfl <| lSkip (gd rfl rfl rfl rfl) rfl rfl <| lSkip (gd rfl rfl rfl rfl) rfl rfl <| lSkip (gd rfl rfl rfl rfl) rfl rfl <| R rfl (pkF rfl rfl) <| R rfl (asg rfl) <| gNil <| eThen <| gRet <| eRet [] [] rfl (eE rfl <| eN) (rN)


def session_End (a0 : api_Session) (a1 : UInt64) : Option (api_Session × (List api_Doing) × Int) :=
  session_Check a0 >>= fun r3 =>
  if r3 != 0 then
    some ((⟨0, 0, 0, 0⟩ : api_Session), [], r3)
  else
    session_over a0 >>= fun r6 =>
    if r6 then
      some (a0, [], 0)
    else
      session_bye a0 4 a1 >>= fun r9 =>
      some (r9.1, r9.2.1, r9.2.2)
set_option maxRecDepth 100000 in
theorem session_End_ok (a0 : api_Session) (a1 : UInt64) : Spec Try.prog 53 [.rd R_api_Session a0, .rd u64R a1] [] (session_End a0 a1) (fun r nv => ⟨[.rd R_api_Session r.1, .val (nv 0), .rd i64R r.2.2], [(100, some (nv 0, .list R_api_Doing 136 r.2.1))]⟩) := by
  refine spec 23 Try.func53 rfl rfl rfl fun H w => ?_
  refine gSeq <| gReg <| Eb rfl (bx 1 rfl) fun v1 => Eb rfl (allc 2 ti66 (.zr zr66)) fun v2 => R rfl (asg rfl) <| R rfl (asg rfl) <| gNil <| eThen <| gSeq <| gSeq <| gReg <| R rfl (ld 1 rfl rfl Foc.here ty66 rfl) <| call [] [] rfl Try.func85 rfl rfl (session_Check_ok _) (aQ rfl <| aN) rN fun r3 n4 => R rfl (asg rfl) <| gNil <| eThen <| gSeq <| gReg <| R rfl (mv rfl) <| R rfl (I.neq rfl rfl) <| gNil <| eThen <| gIf rfl rfl (fun h5 => ?_) (fun h5 => ?_)
  · skip
    refine gSeq <| gReg <| R rfl (bld (x' := (⟨0, 0, 0, 0⟩ : api_Session)) [(0, 1), (1, 1), (2, 1), (3, 1)] Try.underlying66 ti66 rfl zr66 rfl (Bld.done rfl)) <| R rfl (mv rfl) <| Es (sto 2 rfl rfl Foc.here rfl ti66) <| R rfl (asg rfl) <| R rfl (asg rfl) <| gNil <| eThen <| gRet <| eTret <| eNew R_api_Doing 136 3 <| eRet [(.slice none 0 0)] [3] rfl (eC 2 rfl rfl ty66 <| eE rfl <| eE rfl <| eN) (rR rfl rfl <| rN)
  · skip
    refine gSkip <| eThen <| gSeq <| gSeq <| gReg <| R rfl (ld 1 rfl rfl Foc.here ty66 rfl) <| call [] [] rfl Try.func109 rfl rfl (session_over_ok _) (aQ rfl <| aN) rN fun r6 n7 => gNil <| eThen <| gIf rfl rfl (fun h8 => ?_) (fun h8 => ?_)
    · skip
      refine gSeq <| gReg <| R rfl (ld 1 rfl rfl Foc.here ty66 rfl) <| Es (sto 2 rfl rfl Foc.here rfl ti66) <| R rfl (asg rfl) <| R rfl (asg rfl) <| gNil <| eThen <| gRet <| eTret <| eNew R_api_Doing 136 4 <| eRet [(.slice none 0 0)] [4] rfl (eC 2 rfl rfl ty66 <| eE rfl <| eE rfl <| eN) (rR rfl rfl <| rN)
    · skip
      refine gSkip <| eThen <| gSeq <| gReg <| R rfl (ld 1 rfl rfl Foc.here ty66 rfl) <| R rfl (mv rfl) <| call [] [(100, 5)] rfl Try.func110 rfl rfl (session_bye_ok _ _ _) (aQ rfl <| aQ rfl <| aQ rfl <| aN) rN fun r9 n10 => R rfl (ext rfl rfl) <| R rfl (ext rfl rfl) <| R rfl (ext rfl rfl) <| Es (sto 2 rfl rfl Foc.here rfl ti66) <| R rfl (asg rfl) <| R rfl (asg rfl) <| gNil <| eThen <| gRet <| eRet [(n10 0)] [5] rfl (eC 2 rfl rfl ty66 <| eE rfl <| eE rfl <| eN) (rR rfl rfl <| rN)


def braidlaw25_SessionOver (a0 : api_Session) (a1 : api_Frame) (a2 : UInt8) (a3 : UInt64) : Option (Bool) :=
  braidlaw25_alive >>= fun r3 =>
  (braidref25_Great a1 >>= fun r6 =>
  if r6 then
    some true
  else
    braidref25_Check a0 >>= fun r9 =>
    if r9 != 0 then
      some true
    else
      braidref25_Over a0 >>= fun r12 =>
      if !r12 then
        some true
      else
        braidref07_Check a1 >>= fun r15 =>
        if r15 != 0 then
          some true
        else
          if decide (a2 < 1) then
            some true
          else
            if decide (9 < a2) then
              some true
            else
              some (!r3)) >>= fun s5 =>
  if s5 then
    some r3
  else
    session_Take a0 a1 >>= fun r21 =>
    session_Broken a0 >>= fun r24 =>
    session_Judged a0 a2 >>= fun r27 =>
    session_End a0 a3 >>= fun r30 =>
    if r3 then
      if r21.2.2 == 0 then
        if r24.2.2 == 0 then
          if r27.2.2 == 0 then
            if r30.2.2 == 0 then
              if decide (r21.1 = a0) then
                if decide (r24.1 = a0) then
                  if decide (r27.1 = a0) then
                    if decide (r30.1 = a0) then
                      some ((w64 ((w64 ((w64 ((r21.2.1.length : Int) + (r24.2.1.length : Int))) + (r27.2.1.length : Int))) + (r30.2.1.length : Int))) == 0) >>= fun y42 =>
                      some y42
                    else
                      some false
                  else
                    some false
                else
                  some false
              else
                some false
            else
              some false
          else
            some false
        else
          some false
      else
        some false
    else
      some false
set_option maxRecDepth 100000 in
theorem braidlaw25_SessionOver_ok (a0 : api_Session) (a1 : api_Frame) (a2 : UInt8) (a3 : UInt64) : Spec Try.prog 17 [.rd R_api_Session a0, .rd R_api_Frame a1, .rd u8R a2, .rd u64R a3] [] (braidlaw25_SessionOver a0 a1 a2 a3) (fun r nv => ⟨[.rd boolR r], []⟩) := by
  refine spec 131 Try.func17 rfl rfl rfl fun H w => ?_
  refine gSeq <| gReg <| Eb rfl (bx 1 rfl) fun v1 => Eb rfl (bx 2 rfl) fun v2 => R rfl (asg rfl) <| gNil <| eThen <| gSeq <| gReg <| call [] [] rfl Try.func88 rfl rfl (braidlaw25_alive_ok) (aN) rN fun r3 n4 => R rfl (asg rfl) <| gNil <| eThen <| gSeq <| gMid (fun (s5 : Bool) aa ww => Sta (ctx 131 H [] w) [(2, .rd u8R a2), (3, .rd u64R a3), (4, .val (ptrTo v1 0)), (5, .val (ptrTo v2 0)), (9, .rd boolR r3), (51, .rd boolR s5)] [(1, some (v1, .box 66 [.rd R_api_Session a0])), (2, some (v2, .box 105 [.rd R_api_Frame a1]))] aa ww) ?_ (fun s5 => ?_)
  · skip
    refine gReg <| R rfl (ld 2 rfl rfl Foc.here ty105 rfl) <| call [] [] rfl Try.func81 rfl rfl (braidref25_Great_ok _) (aQ rfl <| aN) rN fun r6 n7 => R rfl (mv rfl) <| lSplit 25 rfl (fun h8 => ?_) (fun h8 => ?_)
    · skip
      refine lKn 24 rfl h8 <| lSkip (gd rfl rfl rfl rfl) rfl rfl <| lSkip (gd rfl rfl rfl rfl) rfl rfl <| lSkip (gd rfl rfl rfl rfl) rfl rfl <| R rfl (pkT rfl rfl) <| R rfl (mv rfl) <| lSkip (gd rfl rfl rfl rfl) rfl rfl <| lSkip (gd rfl rfl rfl rfl) rfl rfl <| lSkip (gd rfl rfl rfl rfl) rfl rfl <| R rfl (pkT rfl rfl) <| R rfl (mv rfl) <| lSkip (gd rfl rfl rfl rfl) rfl rfl <| lSkip (gd rfl rfl rfl rfl) rfl rfl <| lSkip (gd rfl rfl rfl rfl) rfl rfl <| R rfl (pkT rfl rfl) <| R rfl (mv rfl) <| lSkip (gd rfl rfl rfl rfl) rfl rfl <| lSkip (gd rfl rfl rfl rfl) rfl rfl <| R rfl (pkT rfl rfl) <| R rfl (mv rfl) <| lSkip (gd rfl rfl rfl rfl) rfl rfl <| lSkip (gd rfl rfl rfl rfl) rfl rfl <| R rfl (pkT rfl rfl) <| R rfl (mv rfl) <| lSkip (gd rfl rfl rfl rfl) rfl rfl <| lSkip (gd rfl rfl rfl rfl) rfl rfl <| R rfl (pkT rfl rfl) <| gNil <| eMid (fun aa ww h => h.sub [1, 2] (sS rfl <| sS rfl <| sS rfl <| sS rfl <| sS rfl <| sS rfl <| sN) (rR rfl rfl <| rR rfl rfl <| rN))
    · skip
      refine lKn 24 rfl h8 <| lRun (gd rfl rfl rfl rfl) rfl rfl (ld 1 rfl rfl Foc.here ty66 rfl) <| callg [] [] (gd rfl rfl rfl rfl) rfl Try.func86 rfl rfl (braidref25_Check_ok _) (aQ rfl <| aN) rN fun r9 n10 => lRun (gd rfl rfl rfl rfl) rfl rfl (I.neq rfl rfl) <| R rfl (pkF rfl rfl) <| R rfl (mv rfl) <| lSplit 30 rfl (fun h11 => ?_) (fun h11 => ?_)
      · skip
        refine lKn 28 rfl h11 <| lKn 29 rfl h11 <| lSkip (gd rfl rfl rfl rfl) rfl rfl <| lSkip (gd rfl rfl rfl rfl) rfl rfl <| lSkip (gd rfl rfl rfl rfl) rfl rfl <| R rfl (pkT rfl rfl) <| R rfl (mv rfl) <| lSkip (gd rfl rfl rfl rfl) rfl rfl <| lSkip (gd rfl rfl rfl rfl) rfl rfl <| lSkip (gd rfl rfl rfl rfl) rfl rfl <| R rfl (pkT rfl rfl) <| R rfl (mv rfl) <| lSkip (gd rfl rfl rfl rfl) rfl rfl <| lSkip (gd rfl rfl rfl rfl) rfl rfl <| R rfl (pkT rfl rfl) <| R rfl (mv rfl) <| lSkip (gd rfl rfl rfl rfl) rfl rfl <| lSkip (gd rfl rfl rfl rfl) rfl rfl <| R rfl (pkT rfl rfl) <| R rfl (mv rfl) <| lSkip (gd rfl rfl rfl rfl) rfl rfl <| lSkip (gd rfl rfl rfl rfl) rfl rfl <| R rfl (pkT rfl rfl) <| gNil <| eMid (fun aa ww h => h.sub [1, 2] (sS rfl <| sS rfl <| sS rfl <| sS rfl <| sS rfl <| sS rfl <| sN) (rR rfl rfl <| rR rfl rfl <| rN))
      · skip
        refine lKn 28 rfl h11 <| lKn 29 rfl h11 <| lRun (gd rfl rfl rfl rfl) rfl rfl (ld 1 rfl rfl Foc.here ty66 rfl) <| callg [] [] (gd rfl rfl rfl rfl) rfl Try.func90 rfl rfl (braidref25_Over_ok _) (aQ rfl <| aN) rN fun r12 n13 => lRun (gd rfl rfl rfl rfl) rfl rfl (not' rfl) <| R rfl (pkF rfl rfl) <| R rfl (mv rfl) <| lSplit 35 rfl (fun h14 => ?_) (fun h14 => ?_)
        · skip
          refine lKn 33 rfl h14 <| lKn 34 rfl h14 <| lSkip (gd rfl rfl rfl rfl) rfl rfl <| lSkip (gd rfl rfl rfl rfl) rfl rfl <| lSkip (gd rfl rfl rfl rfl) rfl rfl <| R rfl (pkT rfl rfl) <| R rfl (mv rfl) <| lSkip (gd rfl rfl rfl rfl) rfl rfl <| lSkip (gd rfl rfl rfl rfl) rfl rfl <| R rfl (pkT rfl rfl) <| R rfl (mv rfl) <| lSkip (gd rfl rfl rfl rfl) rfl rfl <| lSkip (gd rfl rfl rfl rfl) rfl rfl <| R rfl (pkT rfl rfl) <| R rfl (mv rfl) <| lSkip (gd rfl rfl rfl rfl) rfl rfl <| lSkip (gd rfl rfl rfl rfl) rfl rfl <| R rfl (pkT rfl rfl) <| gNil <| eMid (fun aa ww h => h.sub [1, 2] (sS rfl <| sS rfl <| sS rfl <| sS rfl <| sS rfl <| sS rfl <| sN) (rR rfl rfl <| rR rfl rfl <| rN))
        · skip
          refine lKn 33 rfl h14 <| lKn 34 rfl h14 <| lRun (gd rfl rfl rfl rfl) rfl rfl (ld 2 rfl rfl Foc.here ty105 rfl) <| callg [] [] (gd rfl rfl rfl rfl) rfl Try.func77 rfl rfl (braidref07_Check_ok _) (aQ rfl <| aN) rN fun r15 n16 => lRun (gd rfl rfl rfl rfl) rfl rfl (I.neq rfl rfl) <| R rfl (pkF rfl rfl) <| R rfl (mv rfl) <| lSplit 40 rfl (fun h17 => ?_) (fun h17 => ?_)
          · skip
            refine lKn 38 rfl h17 <| lKn 39 rfl h17 <| lSkip (gd rfl rfl rfl rfl) rfl rfl <| lSkip (gd rfl rfl rfl rfl) rfl rfl <| R rfl (pkT rfl rfl) <| R rfl (mv rfl) <| lSkip (gd rfl rfl rfl rfl) rfl rfl <| lSkip (gd rfl rfl rfl rfl) rfl rfl <| R rfl (pkT rfl rfl) <| R rfl (mv rfl) <| lSkip (gd rfl rfl rfl rfl) rfl rfl <| lSkip (gd rfl rfl rfl rfl) rfl rfl <| R rfl (pkT rfl rfl) <| gNil <| eMid (fun aa ww h => h.sub [1, 2] (sS rfl <| sS rfl <| sS rfl <| sS rfl <| sS rfl <| sS rfl <| sN) (rR rfl rfl <| rR rfl rfl <| rN))
          · skip
            refine lKn 38 rfl h17 <| lKn 39 rfl h17 <| lRun (gd rfl rfl rfl rfl) rfl rfl (mv rfl) <| lRun (gd rfl rfl rfl rfl) rfl rfl (B.lss rfl rfl) <| R rfl (pkF rfl rfl) <| R rfl (mv rfl) <| lSplit 44 rfl (fun h18 => ?_) (fun h18 => ?_)
            · skip
              refine lKn 42 rfl h18 <| lKn 43 rfl h18 <| lSkip (gd rfl rfl rfl rfl) rfl rfl <| lSkip (gd rfl rfl rfl rfl) rfl rfl <| R rfl (pkT rfl rfl) <| R rfl (mv rfl) <| lSkip (gd rfl rfl rfl rfl) rfl rfl <| lSkip (gd rfl rfl rfl rfl) rfl rfl <| R rfl (pkT rfl rfl) <| gNil <| eMid (fun aa ww h => h.sub [1, 2] (sS rfl <| sS rfl <| sS rfl <| sS rfl <| sS rfl <| sS rfl <| sN) (rR rfl rfl <| rR rfl rfl <| rN))
            · skip
              refine lKn 42 rfl h18 <| lKn 43 rfl h18 <| lRun (gd rfl rfl rfl rfl) rfl rfl (mv rfl) <| lRun (gd rfl rfl rfl rfl) rfl rfl (B.gtr rfl rfl) <| R rfl (pkF rfl rfl) <| R rfl (mv rfl) <| lSplit 48 rfl (fun h19 => ?_) (fun h19 => ?_)
              · skip
                refine lKn 46 rfl h19 <| lKn 47 rfl h19 <| lSkip (gd rfl rfl rfl rfl) rfl rfl <| lSkip (gd rfl rfl rfl rfl) rfl rfl <| R rfl (pkT rfl rfl) <| gNil <| eMid (fun aa ww h => h.sub [1, 2] (sS rfl <| sS rfl <| sS rfl <| sS rfl <| sS rfl <| sS rfl <| sN) (rR rfl rfl <| rR rfl rfl <| rN))
              · skip
                refine lKn 46 rfl h19 <| lKn 47 rfl h19 <| lRun (gd rfl rfl rfl rfl) rfl rfl (mv rfl) <| lRun (gd rfl rfl rfl rfl) rfl rfl (not' rfl) <| R rfl (pkF rfl rfl) <| gNil <| eMid (fun aa ww h => h.sub [1, 2] (sS rfl <| sS rfl <| sS rfl <| sS rfl <| sS rfl <| sS rfl <| sN) (rR rfl rfl <| rR rfl rfl <| rN))
  · skip
    refine gIf rfl rfl (fun h20 => ?_) (fun h20 => ?_)
    · skip
      refine gSeq <| gReg <| R rfl (mv rfl) <| R rfl (asg rfl) <| gNil <| eThen <| gRet <| eTret <| eRet [] [] rfl (eE rfl <| eN) (rN)
    · skip
      refine gSkip <| eThen <| gSeq <| gReg <| R rfl (ld 1 rfl rfl Foc.here ty66 rfl) <| R rfl (ld 2 rfl rfl Foc.here ty105 rfl) <| call [] [(100, 3)] rfl Try.func83 rfl rfl (session_Take_ok _ _) (aQ rfl <| aQ rfl <| aN) rN fun r21 n22 => R rfl (mv rfl) <| R rfl (ext rfl rfl) <| R rfl (ext rfl rfl) <| R rfl (ext rfl rfl) <| Eb rfl (allc 4 ti66 (.zr zr66)) fun v23 => Es (sto 4 rfl rfl Foc.here rfl ti66) <| R rfl (asg rfl) <| R rfl (asg rfl) <| gNil <| eThen <| gSeq <| gReg <| R rfl (ld 1 rfl rfl Foc.here ty66 rfl) <| call [] [(100, 5)] rfl Try.func49 rfl rfl (session_Broken_ok _) (aQ rfl <| aN) rN fun r24 n25 => R rfl (mv rfl) <| R rfl (ext rfl rfl) <| R rfl (ext rfl rfl) <| R rfl (ext rfl rfl) <| Eb rfl (allc 6 ti66 (.zr zr66)) fun v26 => Es (sto 6 rfl rfl Foc.here rfl ti66) <| R rfl (asg rfl) <| R rfl (asg rfl) <| gNil <| eThen <| gSeq <| gReg <| R rfl (ld 1 rfl rfl Foc.here ty66 rfl) <| R rfl (mv rfl) <| call [] [(100, 7)] rfl Try.func51 rfl rfl (session_Judged_ok _ _) (aQ rfl <| aQ rfl <| aN) rN fun r27 n28 => R rfl (mv rfl) <| R rfl (ext rfl rfl) <| R rfl (ext rfl rfl) <| R rfl (ext rfl rfl) <| Eb rfl (allc 8 ti66 (.zr zr66)) fun v29 => Es (sto 8 rfl rfl Foc.here rfl ti66) <| R rfl (asg rfl) <| R rfl (asg rfl) <| gNil <| eThen <| gSeq <| gReg <| R rfl (ld 1 rfl rfl Foc.here ty66 rfl) <| R rfl (mv rfl) <| call [] [(100, 9)] rfl Try.func53 rfl rfl (session_End_ok _ _) (aQ rfl <| aQ rfl <| aN) rN fun r30 n31 => R rfl (mv rfl) <| R rfl (ext rfl rfl) <| R rfl (ext rfl rfl) <| R rfl (ext rfl rfl) <| Eb rfl (allc 10 ti66 (.zr zr66)) fun v32 => Es (sto 10 rfl rfl Foc.here rfl ti66) <| R rfl (asg rfl) <| R rfl (asg rfl) <| gNil <| eThen <| gSeq <| gReg <| R rfl (mv rfl) <| R rfl (mv rfl) <| lSplit 81 rfl (fun h33 => ?_) (fun h33 => ?_)
      · skip
        refine lKn 9 rfl h33 <| lKn 80 rfl h33 <| lRun (gd rfl rfl rfl rfl) rfl rfl (mv rfl) <| lRun (gd rfl rfl rfl rfl) rfl rfl (I.eql rfl rfl) <| R rfl (pkT rfl rfl) <| R rfl (mv rfl) <| lSplit 85 rfl (fun h34 => ?_) (fun h34 => ?_)
        · skip
          refine lKn 83 rfl h34 <| lKn 84 rfl h34 <| lRun (gd rfl rfl rfl rfl) rfl rfl (mv rfl) <| lRun (gd rfl rfl rfl rfl) rfl rfl (I.eql rfl rfl) <| R rfl (pkT rfl rfl) <| R rfl (mv rfl) <| lSplit 89 rfl (fun h35 => ?_) (fun h35 => ?_)
          · skip
            refine lKn 87 rfl h35 <| lKn 88 rfl h35 <| lRun (gd rfl rfl rfl rfl) rfl rfl (mv rfl) <| lRun (gd rfl rfl rfl rfl) rfl rfl (I.eql rfl rfl) <| R rfl (pkT rfl rfl) <| R rfl (mv rfl) <| lSplit 93 rfl (fun h36 => ?_) (fun h36 => ?_)
            · skip
              refine lKn 91 rfl h36 <| lKn 92 rfl h36 <| lRun (gd rfl rfl rfl rfl) rfl rfl (mv rfl) <| lRun (gd rfl rfl rfl rfl) rfl rfl (I.eql rfl rfl) <| R rfl (pkT rfl rfl) <| R rfl (mv rfl) <| lSplit 97 rfl (fun h37 => ?_) (fun h37 => ?_)
              · skip
                refine lKn 95 rfl h37 <| lKn 96 rfl h37 <| lRun (gd rfl rfl rfl rfl) rfl rfl (ld 4 rfl rfl Foc.here ty66 rfl) <| lRun (gd rfl rfl rfl rfl) rfl rfl (ld 1 rfl rfl Foc.here ty66 rfl) <| lRun (gd rfl rfl rfl rfl) rfl rfl (eqA rfl rfl eq66 rfl rfl gq66) <| R rfl (pkT rfl rfl) <| R rfl (mv rfl) <| lSplit 102 rfl (fun h38 => ?_) (fun h38 => ?_)
                · skip
                  refine lKn 100 rfl h38 <| lKn 101 rfl h38 <| lRun (gd rfl rfl rfl rfl) rfl rfl (ld 6 rfl rfl Foc.here ty66 rfl) <| lRun (gd rfl rfl rfl rfl) rfl rfl (ld 1 rfl rfl Foc.here ty66 rfl) <| lRun (gd rfl rfl rfl rfl) rfl rfl (eqA rfl rfl eq66 rfl rfl gq66) <| R rfl (pkT rfl rfl) <| R rfl (mv rfl) <| lSplit 107 rfl (fun h39 => ?_) (fun h39 => ?_)
                  · skip
                    refine lKn 105 rfl h39 <| lKn 106 rfl h39 <| lRun (gd rfl rfl rfl rfl) rfl rfl (ld 8 rfl rfl Foc.here ty66 rfl) <| lRun (gd rfl rfl rfl rfl) rfl rfl (ld 1 rfl rfl Foc.here ty66 rfl) <| lRun (gd rfl rfl rfl rfl) rfl rfl (eqA rfl rfl eq66 rfl rfl gq66) <| R rfl (pkT rfl rfl) <| R rfl (mv rfl) <| lSplit 112 rfl (fun h40 => ?_) (fun h40 => ?_)
                    · skip
                      refine lKn 110 rfl h40 <| lKn 111 rfl h40 <| lRun (gd rfl rfl rfl rfl) rfl rfl (ld 10 rfl rfl Foc.here ty66 rfl) <| lRun (gd rfl rfl rfl rfl) rfl rfl (ld 1 rfl rfl Foc.here ty66 rfl) <| lRun (gd rfl rfl rfl rfl) rfl rfl (eqA rfl rfl eq66 rfl rfl gq66) <| R rfl (pkT rfl rfl) <| R rfl (mv rfl) <| lSplit 117 rfl (fun h41 => ?_) (fun h41 => ?_)
                      · skip
                        refine lKn 115 rfl h41 <| lKn 116 rfl h41 <| lRun (gd rfl rfl rfl rfl) rfl rfl (mv rfl) <| lRun (gd rfl rfl rfl rfl) rfl rfl (len' rfl (.own 3 rfl) rfl Try.underlying67) <| lRun (gd rfl rfl rfl rfl) rfl rfl (mv rfl) <| lRun (gd rfl rfl rfl rfl) rfl rfl (len' rfl (.own 5 rfl) rfl Try.underlying67) <| lRun (gd rfl rfl rfl rfl) rfl rfl (I.add rfl rfl) <| lRun (gd rfl rfl rfl rfl) rfl rfl (mv rfl) <| lRun (gd rfl rfl rfl rfl) rfl rfl (len' rfl (.own 7 rfl) rfl Try.underlying67) <| lRun (gd rfl rfl rfl rfl) rfl rfl (I.add rfl rfl) <| lRun (gd rfl rfl rfl rfl) rfl rfl (mv rfl) <| lRun (gd rfl rfl rfl rfl) rfl rfl (len' rfl (.own 9 rfl) rfl Try.underlying67) <| lRun (gd rfl rfl rfl rfl) rfl rfl (I.add rfl rfl) <| lRun (gd rfl rfl rfl rfl) rfl rfl (I.eql rfl rfl) <| R rfl (pkT rfl rfl) <| R rfl (asg rfl) <| lName 8 rfl fun y42 => gNil <| eThen <| gRet <| eRet [] [] rfl (eE rfl <| eN) (rN)
                      · skip
                        refine lKn 115 rfl h41 <| lKn 116 rfl h41 <| lSkip (gd rfl rfl rfl rfl) rfl rfl <| lSkip (gd rfl rfl rfl rfl) rfl rfl <| lSkip (gd rfl rfl rfl rfl) rfl rfl <| lSkip (gd rfl rfl rfl rfl) rfl rfl <| lSkip (gd rfl rfl rfl rfl) rfl rfl <| lSkip (gd rfl rfl rfl rfl) rfl rfl <| lSkip (gd rfl rfl rfl rfl) rfl rfl <| lSkip (gd rfl rfl rfl rfl) rfl rfl <| lSkip (gd rfl rfl rfl rfl) rfl rfl <| lSkip (gd rfl rfl rfl rfl) rfl rfl <| lSkip (gd rfl rfl rfl rfl) rfl rfl <| lSkip (gd rfl rfl rfl rfl) rfl rfl <| R rfl (pkF rfl rfl) <| R rfl (asg rfl) <| gNil <| eThen <| gRet <| eRet [] [] rfl (eE rfl <| eN) (rN)
                    · skip
                      refine lKn 110 rfl h40 <| lKn 111 rfl h40 <| lSkip (gd rfl rfl rfl rfl) rfl rfl <| lSkip (gd rfl rfl rfl rfl) rfl rfl <| lSkip (gd rfl rfl rfl rfl) rfl rfl <| R rfl (pkF rfl rfl) <| R rfl (mv rfl) <| lSkip (gd rfl rfl rfl rfl) rfl rfl <| lSkip (gd rfl rfl rfl rfl) rfl rfl <| lSkip (gd rfl rfl rfl rfl) rfl rfl <| lSkip (gd rfl rfl rfl rfl) rfl rfl <| lSkip (gd rfl rfl rfl rfl) rfl rfl <| lSkip (gd rfl rfl rfl rfl) rfl rfl <| lSkip (gd rfl rfl rfl rfl) rfl rfl <| lSkip (gd rfl rfl rfl rfl) rfl rfl <| lSkip (gd rfl rfl rfl rfl) rfl rfl <| lSkip (gd rfl rfl rfl rfl) rfl rfl <| lSkip (gd rfl rfl rfl rfl) rfl rfl <| lSkip (gd rfl rfl rfl rfl) rfl rfl <| R rfl (pkF rfl rfl) <| R rfl (asg rfl) <| gNil <| eThen <| gRet <| eRet [] [] rfl (eE rfl <| eN) (rN)
                  · skip
                    refine lKn 105 rfl h39 <| lKn 106 rfl h39 <| lSkip (gd rfl rfl rfl rfl) rfl rfl <| lSkip (gd rfl rfl rfl rfl) rfl rfl <| lSkip (gd rfl rfl rfl rfl) rfl rfl <| R rfl (pkF rfl rfl) <| R rfl (mv rfl) <| lSkip (gd rfl rfl rfl rfl) rfl rfl <| lSkip (gd rfl rfl rfl rfl) rfl rfl <| lSkip (gd rfl rfl rfl rfl) rfl rfl <| R rfl (pkF rfl rfl) <| R rfl (mv rfl) <| lSkip (gd rfl rfl rfl rfl) rfl rfl <| lSkip (gd rfl rfl rfl rfl) rfl rfl <| lSkip (gd rfl rfl rfl rfl) rfl rfl <| lSkip (gd rfl rfl rfl rfl) rfl rfl <| lSkip (gd rfl rfl rfl rfl) rfl rfl <| lSkip (gd rfl rfl rfl rfl) rfl rfl <| lSkip (gd rfl rfl rfl rfl) rfl rfl <| lSkip (gd rfl rfl rfl rfl) rfl rfl <| lSkip (gd rfl rfl rfl rfl) rfl rfl <| lSkip (gd rfl rfl rfl rfl) rfl rfl <| lSkip (gd rfl rfl rfl rfl) rfl rfl <| lSkip (gd rfl rfl rfl rfl) rfl rfl <| R rfl (pkF rfl rfl) <| R rfl (asg rfl) <| gNil <| eThen <| gRet <| eRet [] [] rfl (eE rfl <| eN) (rN)
                · skip
                  refine lKn 100 rfl h38 <| lKn 101 rfl h38 <| lSkip (gd rfl rfl rfl rfl) rfl rfl <| lSkip (gd rfl rfl rfl rfl) rfl rfl <| lSkip (gd rfl rfl rfl rfl) rfl rfl <| R rfl (pkF rfl rfl) <| R rfl (mv rfl) <| lSkip (gd rfl rfl rfl rfl) rfl rfl <| lSkip (gd rfl rfl rfl rfl) rfl rfl <| lSkip (gd rfl rfl rfl rfl) rfl rfl <| R rfl (pkF rfl rfl) <| R rfl (mv rfl) <| lSkip (gd rfl rfl rfl rfl) rfl rfl <| lSkip (gd rfl rfl rfl rfl) rfl rfl <| lSkip (gd rfl rfl rfl rfl) rfl rfl <| R rfl (pkF rfl rfl) <| R rfl (mv rfl) <| lSkip (gd rfl rfl rfl rfl) rfl rfl <| lSkip (gd rfl rfl rfl rfl) rfl rfl <| lSkip (gd rfl rfl rfl rfl) rfl rfl <| lSkip (gd rfl rfl rfl rfl) rfl rfl <| lSkip (gd rfl rfl rfl rfl) rfl rfl <| lSkip (gd rfl rfl rfl rfl) rfl rfl <| lSkip (gd rfl rfl rfl rfl) rfl rfl <| lSkip (gd rfl rfl rfl rfl) rfl rfl <| lSkip (gd rfl rfl rfl rfl) rfl rfl <| lSkip (gd rfl rfl rfl rfl) rfl rfl <| lSkip (gd rfl rfl rfl rfl) rfl rfl <| lSkip (gd rfl rfl rfl rfl) rfl rfl <| R rfl (pkF rfl rfl) <| R rfl (asg rfl) <| gNil <| eThen <| gRet <| eRet [] [] rfl (eE rfl <| eN) (rN)
              · skip
                refine lKn 95 rfl h37 <| lKn 96 rfl h37 <| lSkip (gd rfl rfl rfl rfl) rfl rfl <| lSkip (gd rfl rfl rfl rfl) rfl rfl <| lSkip (gd rfl rfl rfl rfl) rfl rfl <| R rfl (pkF rfl rfl) <| R rfl (mv rfl) <| lSkip (gd rfl rfl rfl rfl) rfl rfl <| lSkip (gd rfl rfl rfl rfl) rfl rfl <| lSkip (gd rfl rfl rfl rfl) rfl rfl <| R rfl (pkF rfl rfl) <| R rfl (mv rfl) <| lSkip (gd rfl rfl rfl rfl) rfl rfl <| lSkip (gd rfl rfl rfl rfl) rfl rfl <| lSkip (gd rfl rfl rfl rfl) rfl rfl <| R rfl (pkF rfl rfl) <| R rfl (mv rfl) <| lSkip (gd rfl rfl rfl rfl) rfl rfl <| lSkip (gd rfl rfl rfl rfl) rfl rfl <| lSkip (gd rfl rfl rfl rfl) rfl rfl <| R rfl (pkF rfl rfl) <| R rfl (mv rfl) <| lSkip (gd rfl rfl rfl rfl) rfl rfl <| lSkip (gd rfl rfl rfl rfl) rfl rfl <| lSkip (gd rfl rfl rfl rfl) rfl rfl <| lSkip (gd rfl rfl rfl rfl) rfl rfl <| lSkip (gd rfl rfl rfl rfl) rfl rfl <| lSkip (gd rfl rfl rfl rfl) rfl rfl <| lSkip (gd rfl rfl rfl rfl) rfl rfl <| lSkip (gd rfl rfl rfl rfl) rfl rfl <| lSkip (gd rfl rfl rfl rfl) rfl rfl <| lSkip (gd rfl rfl rfl rfl) rfl rfl <| lSkip (gd rfl rfl rfl rfl) rfl rfl <| lSkip (gd rfl rfl rfl rfl) rfl rfl <| R rfl (pkF rfl rfl) <| R rfl (asg rfl) <| gNil <| eThen <| gRet <| eRet [] [] rfl (eE rfl <| eN) (rN)
            · skip
              refine lKn 91 rfl h36 <| lKn 92 rfl h36 <| lSkip (gd rfl rfl rfl rfl) rfl rfl <| lSkip (gd rfl rfl rfl rfl) rfl rfl <| R rfl (pkF rfl rfl) <| R rfl (mv rfl) <| lSkip (gd rfl rfl rfl rfl) rfl rfl <| lSkip (gd rfl rfl rfl rfl) rfl rfl <| lSkip (gd rfl rfl rfl rfl) rfl rfl <| R rfl (pkF rfl rfl) <| R rfl (mv rfl) <| lSkip (gd rfl rfl rfl rfl) rfl rfl <| lSkip (gd rfl rfl rfl rfl) rfl rfl <| lSkip (gd rfl rfl rfl rfl) rfl rfl <| R rfl (pkF rfl rfl) <| R rfl (mv rfl) <| lSkip (gd rfl rfl rfl rfl) rfl rfl <| lSkip (gd rfl rfl rfl rfl) rfl rfl <| lSkip (gd rfl rfl rfl rfl) rfl rfl <| R rfl (pkF rfl rfl) <| R rfl (mv rfl) <| lSkip (gd rfl rfl rfl rfl) rfl rfl <| lSkip (gd rfl rfl rfl rfl) rfl rfl <| lSkip (gd rfl rfl rfl rfl) rfl rfl <| R rfl (pkF rfl rfl) <| R rfl (mv rfl) <| lSkip (gd rfl rfl rfl rfl) rfl rfl <| lSkip (gd rfl rfl rfl rfl) rfl rfl <| lSkip (gd rfl rfl rfl rfl) rfl rfl <| lSkip (gd rfl rfl rfl rfl) rfl rfl <| lSkip (gd rfl rfl rfl rfl) rfl rfl <| lSkip (gd rfl rfl rfl rfl) rfl rfl <| lSkip (gd rfl rfl rfl rfl) rfl rfl <| lSkip (gd rfl rfl rfl rfl) rfl rfl <| lSkip (gd rfl rfl rfl rfl) rfl rfl <| lSkip (gd rfl rfl rfl rfl) rfl rfl <| lSkip (gd rfl rfl rfl rfl) rfl rfl <| lSkip (gd rfl rfl rfl rfl) rfl rfl <| R rfl (pkF rfl rfl) <| R rfl (asg rfl) <| gNil <| eThen <| gRet <| eRet [] [] rfl (eE rfl <| eN) (rN)
          · skip
            refine lKn 87 rfl h35 <| lKn 88 rfl h35 <| lSkip (gd rfl rfl rfl rfl) rfl rfl <| lSkip (gd rfl rfl rfl rfl) rfl rfl <| R rfl (pkF rfl rfl) <| R rfl (mv rfl) <| lSkip (gd rfl rfl rfl rfl) rfl rfl <| lSkip (gd rfl rfl rfl rfl) rfl rfl <| R rfl (pkF rfl rfl) <| R rfl (mv rfl) <| lSkip (gd rfl rfl rfl rfl) rfl rfl <| lSkip (gd rfl rfl rfl rfl) rfl rfl <| lSkip (gd rfl rfl rfl rfl) rfl rfl <| R rfl (pkF rfl rfl) <| R rfl (mv rfl) <| lSkip (gd rfl rfl rfl rfl) rfl rfl <| lSkip (gd rfl rfl rfl rfl) rfl rfl <| lSkip (gd rfl rfl rfl rfl) rfl rfl <| R rfl (pkF rfl rfl) <| R rfl (mv rfl) <| lSkip (gd rfl rfl rfl rfl) rfl rfl <| lSkip (gd rfl rfl rfl rfl) rfl rfl <| lSkip (gd rfl rfl rfl rfl) rfl rfl <| R rfl (pkF rfl rfl) <| R rfl (mv rfl) <| lSkip (gd rfl rfl rfl rfl) rfl rfl <| lSkip (gd rfl rfl rfl rfl) rfl rfl <| lSkip (gd rfl rfl rfl rfl) rfl rfl <| R rfl (pkF rfl rfl) <| R rfl (mv rfl) <| lSkip (gd rfl rfl rfl rfl) rfl rfl <| lSkip (gd rfl rfl rfl rfl) rfl rfl <| lSkip (gd rfl rfl rfl rfl) rfl rfl <| lSkip (gd rfl rfl rfl rfl) rfl rfl <| lSkip (gd rfl rfl rfl rfl) rfl rfl <| lSkip (gd rfl rfl rfl rfl) rfl rfl <| lSkip (gd rfl rfl rfl rfl) rfl rfl <| lSkip (gd rfl rfl rfl rfl) rfl rfl <| lSkip (gd rfl rfl rfl rfl) rfl rfl <| lSkip (gd rfl rfl rfl rfl) rfl rfl <| lSkip (gd rfl rfl rfl rfl) rfl rfl <| lSkip (gd rfl rfl rfl rfl) rfl rfl <| R rfl (pkF rfl rfl) <| R rfl (asg rfl) <| gNil <| eThen <| gRet <| eRet [] [] rfl (eE rfl <| eN) (rN)
        · skip
          refine lKn 83 rfl h34 <| lKn 84 rfl h34 <| lSkip (gd rfl rfl rfl rfl) rfl rfl <| lSkip (gd rfl rfl rfl rfl) rfl rfl <| R rfl (pkF rfl rfl) <| R rfl (mv rfl) <| lSkip (gd rfl rfl rfl rfl) rfl rfl <| lSkip (gd rfl rfl rfl rfl) rfl rfl <| R rfl (pkF rfl rfl) <| R rfl (mv rfl) <| lSkip (gd rfl rfl rfl rfl) rfl rfl <| lSkip (gd rfl rfl rfl rfl) rfl rfl <| R rfl (pkF rfl rfl) <| R rfl (mv rfl) <| lSkip (gd rfl rfl rfl rfl) rfl rfl <| lSkip (gd rfl rfl rfl rfl) rfl rfl <| lSkip (gd rfl rfl rfl rfl) rfl rfl <| R rfl (pkF rfl rfl) <| R rfl (mv rfl) <| lSkip (gd rfl rfl rfl rfl) rfl rfl <| lSkip (gd rfl rfl rfl rfl) rfl rfl <| lSkip (gd rfl rfl rfl rfl) rfl rfl <| R rfl (pkF rfl rfl) <| R rfl (mv rfl) <| lSkip (gd rfl rfl rfl rfl) rfl rfl <| lSkip (gd rfl rfl rfl rfl) rfl rfl <| lSkip (gd rfl rfl rfl rfl) rfl rfl <| R rfl (pkF rfl rfl) <| R rfl (mv rfl) <| lSkip (gd rfl rfl rfl rfl) rfl rfl <| lSkip (gd rfl rfl rfl rfl) rfl rfl <| lSkip (gd rfl rfl rfl rfl) rfl rfl <| R rfl (pkF rfl rfl) <| R rfl (mv rfl) <| lSkip (gd rfl rfl rfl rfl) rfl rfl <| lSkip (gd rfl rfl rfl rfl) rfl rfl <| lSkip (gd rfl rfl rfl rfl) rfl rfl <| lSkip (gd rfl rfl rfl rfl) rfl rfl <| lSkip (gd rfl rfl rfl rfl) rfl rfl <| lSkip (gd rfl rfl rfl rfl) rfl rfl <| lSkip (gd rfl rfl rfl rfl) rfl rfl <| lSkip (gd rfl rfl rfl rfl) rfl rfl <| lSkip (gd rfl rfl rfl rfl) rfl rfl <| lSkip (gd rfl rfl rfl rfl) rfl rfl <| lSkip (gd rfl rfl rfl rfl) rfl rfl <| lSkip (gd rfl rfl rfl rfl) rfl rfl <| R rfl (pkF rfl rfl) <| R rfl (asg rfl) <| gNil <| eThen <| gRet <| eRet [] [] rfl (eE rfl <| eN) (rN)
      · skip
        refine lKn 9 rfl h33 <| lKn 80 rfl h33 <| lSkip (gd rfl rfl rfl rfl) rfl rfl <| lSkip (gd rfl rfl rfl rfl) rfl rfl <| R rfl (pkF rfl rfl) <| R rfl (mv rfl) <| lSkip (gd rfl rfl rfl rfl) rfl rfl <| lSkip (gd rfl rfl rfl rfl) rfl rfl <| R rfl (pkF rfl rfl) <| R rfl (mv rfl) <| lSkip (gd rfl rfl rfl rfl) rfl rfl <| lSkip (gd rfl rfl rfl rfl) rfl rfl <| R rfl (pkF rfl rfl) <| R rfl (mv rfl) <| lSkip (gd rfl rfl rfl rfl) rfl rfl <| lSkip (gd rfl rfl rfl rfl) rfl rfl <| R rfl (pkF rfl rfl) <| R rfl (mv rfl) <| lSkip (gd rfl rfl rfl rfl) rfl rfl <| lSkip (gd rfl rfl rfl rfl) rfl rfl <| lSkip (gd rfl rfl rfl rfl) rfl rfl <| R rfl (pkF rfl rfl) <| R rfl (mv rfl) <| lSkip (gd rfl rfl rfl rfl) rfl rfl <| lSkip (gd rfl rfl rfl rfl) rfl rfl <| lSkip (gd rfl rfl rfl rfl) rfl rfl <| R rfl (pkF rfl rfl) <| R rfl (mv rfl) <| lSkip (gd rfl rfl rfl rfl) rfl rfl <| lSkip (gd rfl rfl rfl rfl) rfl rfl <| lSkip (gd rfl rfl rfl rfl) rfl rfl <| R rfl (pkF rfl rfl) <| R rfl (mv rfl) <| lSkip (gd rfl rfl rfl rfl) rfl rfl <| lSkip (gd rfl rfl rfl rfl) rfl rfl <| lSkip (gd rfl rfl rfl rfl) rfl rfl <| R rfl (pkF rfl rfl) <| R rfl (mv rfl) <| lSkip (gd rfl rfl rfl rfl) rfl rfl <| lSkip (gd rfl rfl rfl rfl) rfl rfl <| lSkip (gd rfl rfl rfl rfl) rfl rfl <| lSkip (gd rfl rfl rfl rfl) rfl rfl <| lSkip (gd rfl rfl rfl rfl) rfl rfl <| lSkip (gd rfl rfl rfl rfl) rfl rfl <| lSkip (gd rfl rfl rfl rfl) rfl rfl <| lSkip (gd rfl rfl rfl rfl) rfl rfl <| lSkip (gd rfl rfl rfl rfl) rfl rfl <| lSkip (gd rfl rfl rfl rfl) rfl rfl <| lSkip (gd rfl rfl rfl rfl) rfl rfl <| lSkip (gd rfl rfl rfl rfl) rfl rfl <| R rfl (pkF rfl rfl) <| R rfl (asg rfl) <| gNil <| eThen <| gRet <| eRet [] [] rfl (eE rfl <| eN) (rN)

def braidlaw25_SessionNames_L0 (s3 : Int) : Option (Sum (Sum Bool Unit) Int) :=
  if decide (s3 < ([(⟨0, 0, 0, 0⟩ : api_Session), (⟨6, 0, 0, 0⟩ : api_Session), (⟨1, 3, 0, 0⟩ : api_Session), (⟨5, 2, 0, 0⟩ : api_Session), (⟨3, (-1), 0, 0⟩ : api_Session), (⟨4, 0, (-1), 0⟩ : api_Session), (⟨4, 0, 0, 1000000001⟩ : api_Session)].length : Int)) then
    (idx [(⟨0, 0, 0, 0⟩ : api_Session), (⟨6, 0, 0, 0⟩ : api_Session), (⟨1, 3, 0, 0⟩ : api_Session), (⟨5, 2, 0, 0⟩ : api_Session), (⟨3, (-1), 0, 0⟩ : api_Session), (⟨4, 0, (-1), 0⟩ : api_Session), (⟨4, 0, 0, 1000000001⟩ : api_Session)] s3 >>= fun x6 =>
    braidlaw25_hello 1 >>= fun r8 =>
    session_Take x6 r8 >>= fun r10 =>
    some r10.2.2) >>= fun s5 =>
    idx [(⟨0, 0, 0, 0⟩ : api_Session), (⟨6, 0, 0, 0⟩ : api_Session), (⟨1, 3, 0, 0⟩ : api_Session), (⟨5, 2, 0, 0⟩ : api_Session), (⟨3, (-1), 0, 0⟩ : api_Session), (⟨4, 0, (-1), 0⟩ : api_Session), (⟨4, 0, 0, 1000000001⟩ : api_Session)] s3 >>= fun x21 =>
    session_Broken x21 >>= fun r23 =>
    idx [(⟨0, 0, 0, 0⟩ : api_Session), (⟨6, 0, 0, 0⟩ : api_Session), (⟨1, 3, 0, 0⟩ : api_Session), (⟨5, 2, 0, 0⟩ : api_Session), (⟨3, (-1), 0, 0⟩ : api_Session), (⟨4, 0, (-1), 0⟩ : api_Session), (⟨4, 0, 0, 1000000001⟩ : api_Session)] s3 >>= fun x26 =>
    session_Judged x26 0 >>= fun r28 =>
    idx [(⟨0, 0, 0, 0⟩ : api_Session), (⟨6, 0, 0, 0⟩ : api_Session), (⟨1, 3, 0, 0⟩ : api_Session), (⟨5, 2, 0, 0⟩ : api_Session), (⟨3, (-1), 0, 0⟩ : api_Session), (⟨4, 0, (-1), 0⟩ : api_Session), (⟨4, 0, 0, 1000000001⟩ : api_Session)] s3 >>= fun x31 =>
    session_End x31 0 >>= fun r33 =>
    (idx [(⟨0, 0, 0, 0⟩ : api_Session), (⟨6, 0, 0, 0⟩ : api_Session), (⟨1, 3, 0, 0⟩ : api_Session), (⟨5, 2, 0, 0⟩ : api_Session), (⟨3, (-1), 0, 0⟩ : api_Session), (⟨4, 0, (-1), 0⟩ : api_Session), (⟨4, 0, 0, 1000000001⟩ : api_Session)] s3 >>= fun x37 =>
    session_Check x37 >>= fun r39 =>
    if r39 != 8 then
      some true
    else
      if s5 != 8 then
        some true
      else
        if r23.2.2 != 8 then
          some true
        else
          if r28.2.2 != 8 then
            some true
          else
            some (r33.2.2 != 8)) >>= fun s36 =>
    if s36 then
      some (.inl (.inl false))
    else
      some (.inr (w64 (s3 + 1)))
  else
    some (.inl (.inr ()))
def braidlaw25_SessionNames  : Option (Bool) :=
  orRet (iter (braidlaw25_SessionNames_L0) 0) fun s2 =>
  session_Take (⟨3, 2, 1000000000, 1000000000⟩ : api_Session) (⟨0, 0, [], []⟩ : api_Frame) >>= fun r47 =>
  session_Judged (⟨3, 2, 1000000000, 1000000000⟩ : api_Session) 0 >>= fun r50 =>
  session_Judged (⟨3, 2, 1000000000, 1000000000⟩ : api_Session) 10 >>= fun r53 =>
  session_Next 0 1 >>= fun r56 =>
  session_Next 6 1 >>= fun r58 =>
  session_Next 1 0 >>= fun r60 =>
  session_Next 1 7 >>= fun r62 =>
  session_Take (⟨3, 2, 1000000000, 1000000000⟩ : api_Session) (⟨5, 0, [], [[1], [2]]⟩ : api_Frame) >>= fun r67 =>
  session_New >>= fun r70 =>
  braidlaw25_hello 2 >>= fun r72 =>
  session_Take r70 r72 >>= fun r74 =>
  session_New >>= fun r77 =>
  session_Take r77 (⟨6, 9, [], []⟩ : api_Frame) >>= fun r79 =>
  session_End (⟨3, 2, 1000000000, 1000000000⟩ : api_Session) 7 >>= fun r82 =>
  (braidlaw25_hello 1 >>= fun r86 =>
  session_Take r82.1 r86 >>= fun r88 =>
  some (r88.1, r88.2.1, r88.2.2)) >>= fun s85 =>
  (braidlaw25_alive >>= fun r101 =>
  if r101 then
    if r47.2.2 == 8 then
      if r50.2.2 == 2 then
        if r53.2.2 == 2 then
          if r56.2 == 2 then
            if r58.2 == 2 then
              if r60.2 == 2 then
                some (r62.2 == 2)
              else
                some false
            else
              some false
          else
            some false
        else
          some false
      else
        some false
    else
      some false
  else
    some false) >>= fun s100 =>
  if s100 then
    if r67.2.2 == 0 then
      if decide (r67.1 = (⟨3, 2, 1000000000, 1000000000⟩ : api_Session)) then
        if r74.2.2 == 0 then
          if r74.1.State == 4 then
            if (r74.2.1.length : Int) == 2 then
              idx r74.2.1 0 >>= fun x116 =>
              if x116.Frame.N == 1 then
                if r79.2.2 == 0 then
                  if r79.1.State == 4 then
                    if (r79.2.1.length : Int) == 1 then
                      idx r79.2.1 0 >>= fun x122 =>
                      if x122.Kind == 6 then
                        if r82.2.2 == 0 then
                          if r82.1.State == 4 then
                            if (r82.2.1.length : Int) == 2 then
                              idx r82.2.1 0 >>= fun x128 =>
                              if x128.Frame.N == 7 then
                                if s85.2.2 == 0 then
                                  if decide (s85.1 = r82.1) then
                                    some ((s85.2.1.length : Int) == 0) >>= fun y133 =>
                                    some y133
                                  else
                                    some false
                                else
                                  some false
                              else
                                some false
                            else
                              some false
                          else
                            some false
                        else
                          some false
                      else
                        some false
                    else
                      some false
                  else
                    some false
                else
                  some false
              else
                some false
            else
              some false
          else
            some false
        else
          some false
      else
        some false
    else
      some false
  else
    some false
set_option maxRecDepth 100000 in
theorem braidlaw25_SessionNames_ok  : Spec Try.prog 18 [] [] (braidlaw25_SessionNames) (fun r nv => ⟨[.rd boolR r], []⟩) := by
  refine spec 313 Try.func18 rfl rfl rfl fun H w => ?_
  refine gSeq <| gReg <| R rfl (asg rfl) <| gNil <| eThen <| gSeq <| gReg <| R rfl (bld (x' := (⟨0, 0, 0, 0⟩ : api_Session)) [(0, 1), (1, 1), (2, 1), (3, 1)] Try.underlying66 ti66 rfl zr66 rfl (Bld.done rfl)) <| R rfl (bld (x' := (⟨6, 0, 0, 0⟩ : api_Session)) [(0, 1), (1, 1), (2, 1), (3, 1)] Try.underlying66 ti66 rfl zr66 rfl (Bld.cons (pt_api_Session_State _) rfl rfl <| Bld.done rfl)) <| R rfl (bld (x' := (⟨1, 3, 0, 0⟩ : api_Session)) [(0, 1), (1, 1), (2, 1), (3, 1)] Try.underlying66 ti66 rfl zr66 rfl (Bld.cons (pt_api_Session_State _) rfl rfl <| Bld.cons (pt_api_Session_Faults _) rfl rfl <| Bld.done rfl)) <| R rfl (bld (x' := (⟨5, 2, 0, 0⟩ : api_Session)) [(0, 1), (1, 1), (2, 1), (3, 1)] Try.underlying66 ti66 rfl zr66 rfl (Bld.cons (pt_api_Session_State _) rfl rfl <| Bld.cons (pt_api_Session_Faults _) rfl rfl <| Bld.done rfl)) <| R rfl (bld (x' := (⟨3, (-1), 0, 0⟩ : api_Session)) [(0, 1), (1, 1), (2, 1), (3, 1)] Try.underlying66 ti66 rfl zr66 rfl (Bld.cons (pt_api_Session_State _) rfl rfl <| Bld.cons (pt_api_Session_Faults _) rfl rfl <| Bld.done rfl)) <| R rfl (bld (x' := (⟨4, 0, (-1), 0⟩ : api_Session)) [(0, 1), (1, 1), (2, 1), (3, 1)] Try.underlying66 ti66 rfl zr66 rfl (Bld.cons (pt_api_Session_State _) rfl rfl <| Bld.cons (pt_api_Session_Frames _) rfl rfl <| Bld.done rfl)) <| R rfl (bld (x' := (⟨4, 0, 0, 1000000001⟩ : api_Session)) [(0, 1), (1, 1), (2, 1), (3, 1)] Try.underlying66 ti66 rfl zr66 rfl (Bld.cons (pt_api_Session_State _) rfl rfl <| Bld.cons (pt_api_Session_Ops _) rfl rfl <| Bld.done rfl)) <| Ef rfl (lit (R := R_api_Session) ([(⟨0, 0, 0, 0⟩ : api_Session), (⟨6, 0, 0, 0⟩ : api_Session), (⟨1, 3, 0, 0⟩ : api_Session), (⟨5, 2, 0, 0⟩ : api_Session), (⟨3, (-1), 0, 0⟩ : api_Session), (⟨4, 0, (-1), 0⟩ : api_Session), (⟨4, 0, 0, 1000000001⟩ : api_Session)] : List api_Session) 1 (pP rfl rfl <| pP rfl rfl <| pP rfl rfl <| pP rfl rfl <| pP rfl rfl <| pP rfl rfl <| pP rfl rfl <| pN) rfl Try.underlying133 ti66 rfl rfl) fun v1 => R rfl (asg rfl) <| gNil <| eThen <| gMidR (fun (s2 : Unit) aa ww => Sta (ctx 313 H [] w) [] [] aa ww) ?_ (fun s2 => ?_)
  · skip
    refine gSeq <| gReg <| R rfl (asg rfl) <| gNil <| eThen <| gLoop (fun (s3 : Int) aa ww => Sta (ctx 313 H [] w) [(1, .val v1), (2, .rd i64R s3)] [(1, some (v1, .list R_api_Session 66 [(⟨0, 0, 0, 0⟩ : api_Session), (⟨6, 0, 0, 0⟩ : api_Session), (⟨1, 3, 0, 0⟩ : api_Session), (⟨5, 2, 0, 0⟩ : api_Session), (⟨3, (-1), 0, 0⟩ : api_Session), (⟨4, 0, (-1), 0⟩ : api_Session), (⟨4, 0, 0, 1000000001⟩ : api_Session)]))] aa ww) (fun aa ww h => h.sub [1] (sS rfl <| sS rfl <| sN) (rR rfl rfl <| rN)) (fun s3 => ?_)
    refine gSeq <| gSeq <| gReg <| R rfl (mv rfl) <| R rfl (mv rfl) <| R rfl (len' rfl (.own 1 rfl) rfl Try.underlying133) <| R rfl (I.lss rfl rfl) <| gNil <| eThen <| gIf rfl rfl (fun h4 => ?_) (fun h4 => ?_)
    · skip
      refine gSkip <| eThen <| gSeq <| gBlk <| gMid (fun (s5 : Int) aa ww => Sta (ctx 313 H [] w) [(1, .val v1), (2, .rd i64R s3), (5, .rd i64R s5)] [(1, some (v1, .list R_api_Session 66 [(⟨0, 0, 0, 0⟩ : api_Session), (⟨6, 0, 0, 0⟩ : api_Session), (⟨1, 3, 0, 0⟩ : api_Session), (⟨5, 2, 0, 0⟩ : api_Session), (⟨3, (-1), 0, 0⟩ : api_Session), (⟨4, 0, (-1), 0⟩ : api_Session), (⟨4, 0, 0, 1000000001⟩ : api_Session)]))] aa ww) ?_ (fun s5 => ?_)
      · skip
        refine gRegH [17, 32] mixed rfl rfl <| hTake 0 rfl (by kernel_rfl) (by kernel_rfl) (by kernel_rfl) (gd0 rfl) rfl rfl (mv rfl) <| hTake 1 rfl (by kernel_rfl) (by kernel_rfl) (by kernel_rfl) (gd0 rfl) rfl rfl (mv rfl) <| hBind fun x6 h7 => hTake 2 rfl (by kernel_rfl) (by kernel_rfl) (by kernel_rfl) (gd0 rfl) rfl rfl (ixO 1 rfl rfl rfl h7 Try.underlying133 ti66) <| hTake 3 rfl (by kernel_rfl) (by kernel_rfl) (by kernel_rfl) (gd0 rfl) rfl rfl (ld 1 rfl rfl (Foc.el h7) ty66 rfl) <| hAlt [4, 10] (by kernel_rfl) rfl ⟨?_, ?_, trivial⟩
        · skip
          refine oCallJ 4 [] [] rfl rfl (gd0 rfl) rfl Try.func91 rfl rfl (braidlaw25_hello_ok _) (aQ rfl <| aN) rN rfl fun r8 n9 => hAlt [5, 10] (by kernel_rfl) rfl ⟨?_, ?_, trivial⟩
          · skip
            refine oCallJ 5 [] [(100, 17)] rfl rfl (gd0 rfl) rfl Try.func83 rfl rfl (session_Take_ok _ _) (aQ rfl <| aQ rfl <| aN) rN rfl fun r10 n11 => hTakeP 6 rfl (by kernel_rfl) (by kernel_rfl) (by kernel_rfl) (gd0 rfl) rfl rfl (mv rfl) <| hTakeP 7 rfl (by kernel_rfl) (by kernel_rfl) (by kernel_rfl) (gd0 rfl) rfl rfl (ext rfl rfl) <| hTakeF 8 rfl (by kernel_rfl) (by kernel_rfl) (by kernel_rfl) (gd0 rfl) rfl rfl flat_val (ext rfl rfl) <| hTakeF 9 rfl (by kernel_rfl) (by kernel_rfl) (by kernel_rfl) (gd0 rfl) rfl rfl flat_num (ext rfl rfl) <| hDoB 10 rfl (by kernel_rfl) (gd0 rfl) rfl rfl rfl (allc 32 ti66 (.zr zr66)) fun v12 => hDoS 11 rfl (by kernel_rfl) (gd0 rfl) rfl rfl rfl rfl (sto 32 rfl rfl Foc.here rfl ti66) <| hTakeF 12 rfl (by kernel_rfl) (by kernel_rfl) (by kernel_rfl) (gd0 rfl) rfl rfl flat_val (asg rfl) <| hTake 13 rfl (by kernel_rfl) (by kernel_rfl) (by kernel_rfl) (gd0 rfl) rfl rfl (asg rfl) <| hDone (by kernel_rfl) <| eMid (fun aa ww h => h.sub [1] (sS rfl <| sS rfl <| sS rfl <| sN) (rR rfl rfl <| rN))
          · skip
            refine oDoB 10 rfl (gd0 rfl) rfl rfl rfl (allc 32 ti66 (.zr zr66)) fun v13 => hCallJ 5 [] [(100, 17)] rfl (by kernel_rfl) rfl (gd0 rfl) rfl Try.func83 rfl rfl (session_Take_ok _ _) (aQ rfl <| aQ rfl <| aN) rN rfl fun r14 n15 => hTakeP 6 rfl (by kernel_rfl) (by kernel_rfl) (by kernel_rfl) (gd0 rfl) rfl rfl (mv rfl) <| hTakeP 7 rfl (by kernel_rfl) (by kernel_rfl) (by kernel_rfl) (gd0 rfl) rfl rfl (ext rfl rfl) <| hTakeF 8 rfl (by kernel_rfl) (by kernel_rfl) (by kernel_rfl) (gd0 rfl) rfl rfl flat_val (ext rfl rfl) <| hTakeF 9 rfl (by kernel_rfl) (by kernel_rfl) (by kernel_rfl) (gd0 rfl) rfl rfl flat_num (ext rfl rfl) <| hDoS 11 rfl (by kernel_rfl) (gd0 rfl) rfl rfl rfl rfl (sto 32 rfl rfl Foc.here rfl ti66) <| hTakeF 12 rfl (by kernel_rfl) (by kernel_rfl) (by kernel_rfl) (gd0 rfl) rfl rfl flat_val (asg rfl) <| hTake 13 rfl (by kernel_rfl) (by kernel_rfl) (by kernel_rfl) (gd0 rfl) rfl rfl (asg rfl) <| hDone (by kernel_rfl) <| eMid (fun aa ww h => h.sub [1] (sS rfl <| sS rfl <| sS rfl <| sN) (rR rfl rfl <| rN))
        · skip
          refine oDoB 10 rfl (gd0 rfl) rfl rfl rfl (allc 32 ti66 (.zr zr66)) fun v16 => hCallJ 4 [] [] rfl (by kernel_rfl) rfl (gd0 rfl) rfl Try.func91 rfl rfl (braidlaw25_hello_ok _) (aQ rfl <| aN) rN rfl fun r17 n18 => hCallJ 5 [] [(100, 17)] rfl (by kernel_rfl) rfl (gd0 rfl) rfl Try.func83 rfl rfl (session_Take_ok _ _) (aQ rfl <| aQ rfl <| aN) rN rfl fun r19 n20 => hTakeP 6 rfl (by kernel_rfl) (by kernel_rfl) (by kernel_rfl) (gd0 rfl) rfl rfl (mv rfl) <| hTakeP 7 rfl (by kernel_rfl) (by kernel_rfl) (by kernel_rfl) (gd0 rfl) rfl rfl (ext rfl rfl) <| hTakeF 8 rfl (by kernel_rfl) (by kernel_rfl) (by kernel_rfl) (gd0 rfl) rfl rfl flat_val (ext rfl rfl) <| hTakeF 9 rfl (by kernel_rfl) (by kernel_rfl) (by kernel_rfl) (gd0 rfl) rfl rfl flat_num (ext rfl rfl) <| hDoS 11 rfl (by kernel_rfl) (gd0 rfl) rfl rfl rfl rfl (sto 32 rfl rfl Foc.here rfl ti66) <| hTakeF 12 rfl (by kernel_rfl) (by kernel_rfl) (by kernel_rfl) (gd0 rfl) rfl rfl flat_val (asg rfl) <| hTake 13 rfl (by kernel_rfl) (by kernel_rfl) (by kernel_rfl) (gd0 rfl) rfl rfl (asg rfl) <| hDone (by kernel_rfl) <| eMid (fun aa ww h => h.sub [1] (sS rfl <| sS rfl <| sS rfl <| sN) (rR rfl rfl <| rN))
      · skip
        refine gSeq <| gReg <| R rfl (mv rfl) <| R rfl (mv rfl) <| lBind fun x21 h22 => R rfl (ixO 1 rfl rfl rfl h22 Try.underlying133 ti66) <| R rfl (ld 1 rfl rfl (Foc.el h22) ty66 rfl) <| call [] [(100, 47)] rfl Try.func49 rfl rfl (session_Broken_ok _) (aQ rfl <| aN) rN fun r23 n24 => R rfl (mv rfl) <| R rfl (ext rfl rfl) <| R rfl (ext rfl rfl) <| R rfl (ext rfl rfl) <| Eb rfl (allc 48 ti66 (.zr zr66)) fun v25 => Es (sto 48 rfl rfl Foc.here rfl ti66) <| R rfl (asg rfl) <| R rfl (asg rfl) <| gNil <| eThen <| gSeq <| gReg <| R rfl (mv rfl) <| R rfl (mv rfl) <| lBind fun x26 h27 => R rfl (ixO 1 rfl rfl rfl h27 Try.underlying133 ti66) <| R rfl (ld 1 rfl rfl (Foc.el h27) ty66 rfl) <| call [] [(100, 49)] rfl Try.func51 rfl rfl (session_Judged_ok _ _) (aQ rfl <| aQ rfl <| aN) rN fun r28 n29 => R rfl (mv rfl) <| R rfl (ext rfl rfl) <| R rfl (ext rfl rfl) <| R rfl (ext rfl rfl) <| Eb rfl (allc 50 ti66 (.zr zr66)) fun v30 => Es (sto 50 rfl rfl Foc.here rfl ti66) <| R rfl (asg rfl) <| R rfl (asg rfl) <| gNil <| eThen <| gSeq <| gReg <| R rfl (mv rfl) <| R rfl (mv rfl) <| lBind fun x31 h32 => R rfl (ixO 1 rfl rfl rfl h32 Try.underlying133 ti66) <| R rfl (ld 1 rfl rfl (Foc.el h32) ty66 rfl) <| call [] [(100, 51)] rfl Try.func53 rfl rfl (session_End_ok _ _) (aQ rfl <| aQ rfl <| aN) rN fun r33 n34 => R rfl (mv rfl) <| R rfl (ext rfl rfl) <| R rfl (ext rfl rfl) <| R rfl (ext rfl rfl) <| Eb rfl (allc 52 ti66 (.zr zr66)) fun v35 => Es (sto 52 rfl rfl Foc.here rfl ti66) <| R rfl (asg rfl) <| R rfl (asg rfl) <| gNil <| eThen <| gMid (fun (s36 : Bool) aa ww => Sta (ctx 313 H [] w) [(1, .val v1), (2, .rd i64R s3), (121, .rd boolR s36)] [(1, some (v1, .list R_api_Session 66 [(⟨0, 0, 0, 0⟩ : api_Session), (⟨6, 0, 0, 0⟩ : api_Session), (⟨1, 3, 0, 0⟩ : api_Session), (⟨5, 2, 0, 0⟩ : api_Session), (⟨3, (-1), 0, 0⟩ : api_Session), (⟨4, 0, (-1), 0⟩ : api_Session), (⟨4, 0, 0, 1000000001⟩ : api_Session)]))] aa ww) ?_ (fun s36 => ?_)
        · skip
          refine gReg <| R rfl (mv rfl) <| R rfl (mv rfl) <| lBind fun x37 h38 => R rfl (ixO 1 rfl rfl rfl h38 Try.underlying133 ti66) <| R rfl (ld 1 rfl rfl (Foc.el h38) ty66 rfl) <| call [] [] rfl Try.func85 rfl rfl (session_Check_ok _) (aQ rfl <| aN) rN fun r39 n40 => R rfl (I.neq rfl rfl) <| R rfl (mv rfl) <| lSplit 106 rfl (fun h41 => ?_) (fun h41 => ?_)
          · skip
            refine lKn 105 rfl h41 <| lSkip (gd rfl rfl rfl rfl) rfl rfl <| lSkip (gd rfl rfl rfl rfl) rfl rfl <| R rfl (pkT rfl rfl) <| R rfl (mv rfl) <| lSkip (gd rfl rfl rfl rfl) rfl rfl <| lSkip (gd rfl rfl rfl rfl) rfl rfl <| R rfl (pkT rfl rfl) <| R rfl (mv rfl) <| lSkip (gd rfl rfl rfl rfl) rfl rfl <| lSkip (gd rfl rfl rfl rfl) rfl rfl <| R rfl (pkT rfl rfl) <| R rfl (mv rfl) <| lSkip (gd rfl rfl rfl rfl) rfl rfl <| lSkip (gd rfl rfl rfl rfl) rfl rfl <| R rfl (pkT rfl rfl) <| gNil <| eMid (fun aa ww h => h.sub [1] (sS rfl <| sS rfl <| sS rfl <| sN) (rR rfl rfl <| rN))
          · skip
            refine lKn 105 rfl h41 <| lRun (gd rfl rfl rfl rfl) rfl rfl (mv rfl) <| lRun (gd rfl rfl rfl rfl) rfl rfl (I.neq rfl rfl) <| R rfl (pkF rfl rfl) <| R rfl (mv rfl) <| lSplit 110 rfl (fun h42 => ?_) (fun h42 => ?_)
            · skip
              refine lKn 108 rfl h42 <| lKn 109 rfl h42 <| lSkip (gd rfl rfl rfl rfl) rfl rfl <| lSkip (gd rfl rfl rfl rfl) rfl rfl <| R rfl (pkT rfl rfl) <| R rfl (mv rfl) <| lSkip (gd rfl rfl rfl rfl) rfl rfl <| lSkip (gd rfl rfl rfl rfl) rfl rfl <| R rfl (pkT rfl rfl) <| R rfl (mv rfl) <| lSkip (gd rfl rfl rfl rfl) rfl rfl <| lSkip (gd rfl rfl rfl rfl) rfl rfl <| R rfl (pkT rfl rfl) <| gNil <| eMid (fun aa ww h => h.sub [1] (sS rfl <| sS rfl <| sS rfl <| sN) (rR rfl rfl <| rN))
            · skip
              refine lKn 108 rfl h42 <| lKn 109 rfl h42 <| lRun (gd rfl rfl rfl rfl) rfl rfl (mv rfl) <| lRun (gd rfl rfl rfl rfl) rfl rfl (I.neq rfl rfl) <| R rfl (pkF rfl rfl) <| R rfl (mv rfl) <| lSplit 114 rfl (fun h43 => ?_) (fun h43 => ?_)
              · skip
                refine lKn 112 rfl h43 <| lKn 113 rfl h43 <| lSkip (gd rfl rfl rfl rfl) rfl rfl <| lSkip (gd rfl rfl rfl rfl) rfl rfl <| R rfl (pkT rfl rfl) <| R rfl (mv rfl) <| lSkip (gd rfl rfl rfl rfl) rfl rfl <| lSkip (gd rfl rfl rfl rfl) rfl rfl <| R rfl (pkT rfl rfl) <| gNil <| eMid (fun aa ww h => h.sub [1] (sS rfl <| sS rfl <| sS rfl <| sN) (rR rfl rfl <| rN))
              · skip
                refine lKn 112 rfl h43 <| lKn 113 rfl h43 <| lRun (gd rfl rfl rfl rfl) rfl rfl (mv rfl) <| lRun (gd rfl rfl rfl rfl) rfl rfl (I.neq rfl rfl) <| R rfl (pkF rfl rfl) <| R rfl (mv rfl) <| lSplit 118 rfl (fun h44 => ?_) (fun h44 => ?_)
                · skip
                  refine lKn 116 rfl h44 <| lKn 117 rfl h44 <| lSkip (gd rfl rfl rfl rfl) rfl rfl <| lSkip (gd rfl rfl rfl rfl) rfl rfl <| R rfl (pkT rfl rfl) <| gNil <| eMid (fun aa ww h => h.sub [1] (sS rfl <| sS rfl <| sS rfl <| sN) (rR rfl rfl <| rN))
                · skip
                  refine lKn 116 rfl h44 <| lKn 117 rfl h44 <| lRun (gd rfl rfl rfl rfl) rfl rfl (mv rfl) <| lRun (gd rfl rfl rfl rfl) rfl rfl (I.neq rfl rfl) <| R rfl (pkF rfl rfl) <| gNil <| eMid (fun aa ww h => h.sub [1] (sS rfl <| sS rfl <| sS rfl <| sN) (rR rfl rfl <| rN))
        · skip
          refine gIf rfl rfl (fun h45 => ?_) (fun h45 => ?_)
          · skip
            refine gSeq <| gReg <| R rfl (asg rfl) <| gNil <| eThen <| gRet <| eBret <| eTret <| eLret <| eMret <| eRet [] [] rfl (eE rfl <| eN) (rN)
          · skip
            refine gSkip <| eBlk <| eThen <| gReg <| R rfl (mv rfl) <| R rfl (I.add rfl rfl) <| R rfl (asg rfl) <| gNil <| eNext (fun aa ww h => h.sub [1] (sS rfl <| sS rfl <| sN) (rR rfl rfl <| rN))
    · skip
      refine gExit <| eTexit <| eLeave <| eMidR (fun aa ww h => h.sub [] (sN) (rN))
  · skip
    refine gSeq <| gReg <| R rfl (bld (x' := (⟨3, 2, 1000000000, 1000000000⟩ : api_Session)) [(0, 1), (1, 1), (2, 1), (3, 1)] Try.underlying66 ti66 rfl zr66 rfl (Bld.cons (pt_api_Session_State _) rfl rfl <| Bld.cons (pt_api_Session_Faults _) rfl rfl <| Bld.cons (pt_api_Session_Frames _) rfl rfl <| Bld.cons (pt_api_Session_Ops _) rfl rfl <| Bld.done rfl)) <| Eb rfl (allc 53 ti66 (.zr zr66)) fun v46 => Es (sto 53 rfl rfl Foc.here rfl ti66) <| gNil <| eThen <| gSeq <| gReg <| R rfl (ld 53 rfl rfl Foc.here ty66 rfl) <| R rfl (bld (x' := (⟨0, 0, [], []⟩ : api_Frame)) [(0, 1), (1, 1), (2, 1), (3, 1)] Try.underlying105 ti105 rfl zr105 rfl (Bld.done rfl)) <| call [] [(100, 54)] rfl Try.func83 rfl rfl (session_Take_ok _ _) (aQ rfl <| aQ rfl <| aN) rN fun r47 n48 => R rfl (mv rfl) <| R rfl (ext rfl rfl) <| R rfl (ext rfl rfl) <| R rfl (ext rfl rfl) <| Eb rfl (allc 55 ti66 (.zr zr66)) fun v49 => Es (sto 55 rfl rfl Foc.here rfl ti66) <| R rfl (asg rfl) <| R rfl (asg rfl) <| gNil <| eThen <| gSeq <| gReg <| R rfl (ld 53 rfl rfl Foc.here ty66 rfl) <| call [] [(100, 56)] rfl Try.func51 rfl rfl (session_Judged_ok _ _) (aQ rfl <| aQ rfl <| aN) rN fun r50 n51 => R rfl (mv rfl) <| R rfl (ext rfl rfl) <| R rfl (ext rfl rfl) <| R rfl (ext rfl rfl) <| Eb rfl (allc 57 ti66 (.zr zr66)) fun v52 => Es (sto 57 rfl rfl Foc.here rfl ti66) <| R rfl (asg rfl) <| R rfl (asg rfl) <| gNil <| eThen <| gSeq <| gReg <| R rfl (ld 53 rfl rfl Foc.here ty66 rfl) <| call [] [(100, 58)] rfl Try.func51 rfl rfl (session_Judged_ok _ _) (aQ rfl <| aQ rfl <| aN) rN fun r53 n54 => R rfl (mv rfl) <| R rfl (ext rfl rfl) <| R rfl (ext rfl rfl) <| R rfl (ext rfl rfl) <| Eb rfl (allc 59 ti66 (.zr zr66)) fun v55 => Es (sto 59 rfl rfl Foc.here rfl ti66) <| R rfl (asg rfl) <| R rfl (asg rfl) <| gNil <| eThen <| gSeq <| gReg <| call [] [] rfl Try.func55 rfl rfl (session_Next_ok _ _) (aQ rfl <| aQ rfl <| aN) rN fun r56 n57 => R rfl (mv rfl) <| R rfl (ext rfl rfl) <| R rfl (ext rfl rfl) <| R rfl (asg rfl) <| R rfl (asg rfl) <| gNil <| eThen <| gSeq <| gReg <| call [] [] rfl Try.func55 rfl rfl (session_Next_ok _ _) (aQ rfl <| aQ rfl <| aN) rN fun r58 n59 => R rfl (mv rfl) <| R rfl (ext rfl rfl) <| R rfl (ext rfl rfl) <| R rfl (asg rfl) <| R rfl (asg rfl) <| gNil <| eThen <| gSeq <| gReg <| call [] [] rfl Try.func55 rfl rfl (session_Next_ok _ _) (aQ rfl <| aQ rfl <| aN) rN fun r60 n61 => R rfl (mv rfl) <| R rfl (ext rfl rfl) <| R rfl (ext rfl rfl) <| R rfl (asg rfl) <| R rfl (asg rfl) <| gNil <| eThen <| gSeq <| gReg <| call [] [] rfl Try.func55 rfl rfl (session_Next_ok _ _) (aQ rfl <| aQ rfl <| aN) rN fun r62 n63 => R rfl (mv rfl) <| R rfl (ext rfl rfl) <| R rfl (ext rfl rfl) <| R rfl (asg rfl) <| R rfl (asg rfl) <| gNil <| eThen <| gSeq <| gReg <| R rfl (ld 53 rfl rfl Foc.here ty66 rfl) <| Ef rfl (lit (R := u8R) ([1] : List UInt8) 60 (pP rfl rfl <| pN) rfl Try.underlying32 ti5 rfl rfl) fun v64 => Ef rfl (lit (R := u8R) ([2] : List UInt8) 61 (pP rfl rfl <| pN) rfl Try.underlying32 ti5 rfl rfl) fun v65 => lFrz 60 [160] rfl (fS rfl <| fN) <| lFrz 61 [161] rfl (fS rfl <| fN) <| Ef rfl (lit (R := (sliceR u8R)) ([[1], [2]] : List (List UInt8)) 62 (pP rfl rfl <| pP rfl rfl <| pN) rfl Try.underlying103 ti32 rfl rfl) fun v66 => lFrz 62 [162] rfl (fS rfl <| fN) <| R rfl (bld (x' := (⟨5, 0, [], [[1], [2]]⟩ : api_Frame)) [(0, 1), (1, 1), (2, 1), (3, 1)] Try.underlying105 ti105 rfl zr105 rfl (Bld.cons (pt_api_Frame_Kind _) rfl rfl <| Bld.cons (pt_api_Frame_Ops _) rfl rfl <| Bld.done rfl)) <| call [] [(100, 63)] rfl Try.func83 rfl rfl (session_Take_ok _ _) (aQ rfl <| aQ rfl <| aN) rN fun r67 n68 => R rfl (mv rfl) <| R rfl (ext rfl rfl) <| R rfl (ext rfl rfl) <| R rfl (ext rfl rfl) <| Eb rfl (allc 64 ti66 (.zr zr66)) fun v69 => Es (sto 64 rfl rfl Foc.here rfl ti66) <| R rfl (asg rfl) <| R rfl (asg rfl) <| gNil <| eThen <| gSeq <| gReg <| call [] [] rfl Try.func57 rfl rfl (session_New_ok) (aN) rN fun r70 n71 => call [] [] rfl Try.func91 rfl rfl (braidlaw25_hello_ok _) (aQ rfl <| aN) rN fun r72 n73 => call [] [(100, 65)] rfl Try.func83 rfl rfl (session_Take_ok _ _) (aQ rfl <| aQ rfl <| aN) rN fun r74 n75 => R rfl (mv rfl) <| R rfl (ext rfl rfl) <| R rfl (ext rfl rfl) <| R rfl (ext rfl rfl) <| Eb rfl (allc 66 ti66 (.zr zr66)) fun v76 => Es (sto 66 rfl rfl Foc.here rfl ti66) <| R rfl (asg rfl) <| R rfl (asg rfl) <| gNil <| eThen <| gSeq <| gReg <| call [] [] rfl Try.func57 rfl rfl (session_New_ok) (aN) rN fun r77 n78 => R rfl (bld (x' := (⟨6, 9, [], []⟩ : api_Frame)) [(0, 1), (1, 1), (2, 1), (3, 1)] Try.underlying105 ti105 rfl zr105 rfl (Bld.cons (pt_api_Frame_Kind _) rfl rfl <| Bld.cons (pt_api_Frame_N _) rfl rfl <| Bld.done rfl)) <| call [] [(100, 67)] rfl Try.func83 rfl rfl (session_Take_ok _ _) (aQ rfl <| aQ rfl <| aN) rN fun r79 n80 => R rfl (mv rfl) <| R rfl (ext rfl rfl) <| R rfl (ext rfl rfl) <| R rfl (ext rfl rfl) <| Eb rfl (allc 68 ti66 (.zr zr66)) fun v81 => Es (sto 68 rfl rfl Foc.here rfl ti66) <| R rfl (asg rfl) <| R rfl (asg rfl) <| gNil <| eThen <| gSeq <| gReg <| R rfl (ld 53 rfl rfl Foc.here ty66 rfl) <| call [] [(100, 69)] rfl Try.func53 rfl rfl (session_End_ok _ _) (aQ rfl <| aQ rfl <| aN) rN fun r82 n83 => R rfl (mv rfl) <| R rfl (ext rfl rfl) <| R rfl (ext rfl rfl) <| R rfl (ext rfl rfl) <| Eb rfl (allc 70 ti66 (.zr zr66)) fun v84 => Es (sto 70 rfl rfl Foc.here rfl ti66) <| R rfl (asg rfl) <| R rfl (asg rfl) <| gNil <| eThen <| gMid (fun (s85 : api_Session × (List api_Doing) × Int) aa ww => ∃ nv : Nat → Value, Sta (ctx 313 H [] w) [(15, .val (ptrTo v46 0)), (18, .rd i64R r47.2.2), (21, .rd i64R r50.2.2), (24, .rd i64R r53.2.2), (26, .rd i64R r56.2), (28, .rd i64R r58.2), (30, .rd i64R r60.2), (32, .rd i64R r62.2), (33, .val (ptrTo v69 0)), (35, .rd i64R r67.2.2), (36, .val (ptrTo v76 0)), (37, .val (n75 0)), (38, .rd i64R r74.2.2), (39, .val (ptrTo v81 0)), (40, .val (n80 0)), (41, .rd i64R r79.2.2), (42, .val (ptrTo v84 0)), (43, .val (n83 0)), (44, .rd i64R r82.2.2), (45, .val (ptrTo (nv 0) 0)), (46, .val (nv 1)), (47, .rd i64R s85.2.2)] [(53, some (v46, .box 66 [.rd R_api_Session (⟨3, 2, 1000000000, 1000000000⟩ : api_Session)])), (64, some (v69, .box 66 [.rd R_api_Session r67.1])), (66, some (v76, .box 66 [.rd R_api_Session r74.1])), (65, some ((n75 0), .list R_api_Doing 136 r74.2.1)), (68, some (v81, .box 66 [.rd R_api_Session r79.1])), (67, some ((n80 0), .list R_api_Doing 136 r79.2.1)), (70, some (v84, .box 66 [.rd R_api_Session r82.1])), (69, some ((n83 0), .list R_api_Doing 136 r82.2.1)), (92, some ((nv 0), .box 66 [.rd R_api_Session s85.1])), (77, some ((nv 1), .list R_api_Doing 136 s85.2.1))] aa ww) ?_ (fun s85 => ?_)
    · skip
      refine gRegH [99, 114] mixed rfl rfl <| hTake 0 rfl (by kernel_rfl) (by kernel_rfl) (by kernel_rfl) (gd0 rfl) rfl rfl (ld 70 rfl rfl Foc.here ty66 rfl) <| hAlt [1, 7] (by kernel_rfl) rfl ⟨?_, ?_, trivial⟩
      · skip
        refine oCallJ 1 [] [] rfl rfl (gd0 rfl) rfl Try.func91 rfl rfl (braidlaw25_hello_ok _) (aQ rfl <| aN) rN rfl fun r86 n87 => hAlt [2, 7] (by kernel_rfl) rfl ⟨?_, ?_, trivial⟩
        · skip
          refine oCallJ 2 [] [(100, 99)] rfl rfl (gd0 rfl) rfl Try.func83 rfl rfl (session_Take_ok _ _) (aQ rfl <| aQ rfl <| aN) rN rfl fun r88 n89 => hTakeP 3 rfl (by kernel_rfl) (by kernel_rfl) (by kernel_rfl) (gd0 rfl) rfl rfl (mv rfl) <| hTakeP 4 rfl (by kernel_rfl) (by kernel_rfl) (by kernel_rfl) (gd0 rfl) rfl rfl (ext rfl rfl) <| hTakeF 5 rfl (by kernel_rfl) (by kernel_rfl) (by kernel_rfl) (gd0 rfl) rfl rfl flat_val (ext rfl rfl) <| hTakeF 6 rfl (by kernel_rfl) (by kernel_rfl) (by kernel_rfl) (gd0 rfl) rfl rfl flat_num (ext rfl rfl) <| hDoB 7 rfl (by kernel_rfl) (gd0 rfl) rfl rfl rfl (allc 114 ti66 (.zr zr66)) fun v90 => hDoS 8 rfl (by kernel_rfl) (gd0 rfl) rfl rfl rfl rfl (sto 114 rfl rfl Foc.here rfl ti66) <| hTakeF 9 rfl (by kernel_rfl) (by kernel_rfl) (by kernel_rfl) (gd0 rfl) rfl rfl flat_val (asg rfl) <| hTake 10 rfl (by kernel_rfl) (by kernel_rfl) (by kernel_rfl) (gd0 rfl) rfl rfl (asg rfl) <| hDone (by kernel_rfl) <| eMid (fun aa ww h => ⟨nvl [v90, (n89 0)], h.sub [53, 64, 66, 65, 68, 67, 70, 69, 114, 99] (sS rfl <| sS rfl <| sS rfl <| sS rfl <| sS rfl <| sS rfl <| sS rfl <| sS rfl <| sS rfl <| sS rfl <| sS rfl <| sS rfl <| sS rfl <| sS rfl <| sS rfl <| sS rfl <| sS rfl <| sS rfl <| sS rfl <| sS rfl <| sS rfl <| sS rfl <| sN) (rR rfl rfl <| rR rfl rfl <| rR rfl rfl <| rR rfl rfl <| rR rfl rfl <| rR rfl rfl <| rR rfl rfl <| rR rfl rfl <| rR rfl rfl <| rR rfl rfl <| rN)⟩)
        · skip
          refine oDoB 7 rfl (gd0 rfl) rfl rfl rfl (allc 114 ti66 (.zr zr66)) fun v91 => hCallJ 2 [] [(100, 99)] rfl (by kernel_rfl) rfl (gd0 rfl) rfl Try.func83 rfl rfl (session_Take_ok _ _) (aQ rfl <| aQ rfl <| aN) rN rfl fun r92 n93 => hTakeP 3 rfl (by kernel_rfl) (by kernel_rfl) (by kernel_rfl) (gd0 rfl) rfl rfl (mv rfl) <| hTakeP 4 rfl (by kernel_rfl) (by kernel_rfl) (by kernel_rfl) (gd0 rfl) rfl rfl (ext rfl rfl) <| hTakeF 5 rfl (by kernel_rfl) (by kernel_rfl) (by kernel_rfl) (gd0 rfl) rfl rfl flat_val (ext rfl rfl) <| hTakeF 6 rfl (by kernel_rfl) (by kernel_rfl) (by kernel_rfl) (gd0 rfl) rfl rfl flat_num (ext rfl rfl) <| hDoS 8 rfl (by kernel_rfl) (gd0 rfl) rfl rfl rfl rfl (sto 114 rfl rfl Foc.here rfl ti66) <| hTakeF 9 rfl (by kernel_rfl) (by kernel_rfl) (by kernel_rfl) (gd0 rfl) rfl rfl flat_val (asg rfl) <| hTake 10 rfl (by kernel_rfl) (by kernel_rfl) (by kernel_rfl) (gd0 rfl) rfl rfl (asg rfl) <| hDone (by kernel_rfl) <| eMid (fun aa ww h => ⟨nvl [v91, (n93 0)], h.sub [53, 64, 66, 65, 68, 67, 70, 69, 114, 99] (sS rfl <| sS rfl <| sS rfl <| sS rfl <| sS rfl <| sS rfl <| sS rfl <| sS rfl <| sS rfl <| sS rfl <| sS rfl <| sS rfl <| sS rfl <| sS rfl <| sS rfl <| sS rfl <| sS rfl <| sS rfl <| sS rfl <| sS rfl <| sS rfl <| sS rfl <| sN) (rR rfl rfl <| rR rfl rfl <| rR rfl rfl <| rR rfl rfl <| rR rfl rfl <| rR rfl rfl <| rR rfl rfl <| rR rfl rfl <| rR rfl rfl <| rR rfl rfl <| rN)⟩)
      · skip
        refine oDoB 7 rfl (gd0 rfl) rfl rfl rfl (allc 114 ti66 (.zr zr66)) fun v94 => hCallJ 1 [] [] rfl (by kernel_rfl) rfl (gd0 rfl) rfl Try.func91 rfl rfl (braidlaw25_hello_ok _) (aQ rfl <| aN) rN rfl fun r95 n96 => hCallJ 2 [] [(100, 99)] rfl (by kernel_rfl) rfl (gd0 rfl) rfl Try.func83 rfl rfl (session_Take_ok _ _) (aQ rfl <| aQ rfl <| aN) rN rfl fun r97 n98 => hTakeP 3 rfl (by kernel_rfl) (by kernel_rfl) (by kernel_rfl) (gd0 rfl) rfl rfl (mv rfl) <| hTakeP 4 rfl (by kernel_rfl) (by kernel_rfl) (by kernel_rfl) (gd0 rfl) rfl rfl (ext rfl rfl) <| hTakeF 5 rfl (by kernel_rfl) (by kernel_rfl) (by kernel_rfl) (gd0 rfl) rfl rfl flat_val (ext rfl rfl) <| hTakeF 6 rfl (by kernel_rfl) (by kernel_rfl) (by kernel_rfl) (gd0 rfl) rfl rfl flat_num (ext rfl rfl) <| hDoS 8 rfl (by kernel_rfl) (gd0 rfl) rfl rfl rfl rfl (sto 114 rfl rfl Foc.here rfl ti66) <| hTakeF 9 rfl (by kernel_rfl) (by kernel_rfl) (by kernel_rfl) (gd0 rfl) rfl rfl flat_val (asg rfl) <| hTake 10 rfl (by kernel_rfl) (by kernel_rfl) (by kernel_rfl) (gd0 rfl) rfl rfl (asg rfl) <| hDone (by kernel_rfl) <| eMid (fun aa ww h => ⟨nvl [v94, (n98 0)], h.sub [53, 64, 66, 65, 68, 67, 70, 69, 114, 99] (sS rfl <| sS rfl <| sS rfl <| sS rfl <| sS rfl <| sS rfl <| sS rfl <| sS rfl <| sS rfl <| sS rfl <| sS rfl <| sS rfl <| sS rfl <| sS rfl <| sS rfl <| sS rfl <| sS rfl <| sS rfl <| sS rfl <| sS rfl <| sS rfl <| sS rfl <| sN) (rR rfl rfl <| rR rfl rfl <| rR rfl rfl <| rR rfl rfl <| rR rfl rfl <| rR rfl rfl <| rR rfl rfl <| rR rfl rfl <| rR rfl rfl <| rR rfl rfl <| rN)⟩)
    · skip
      refine gEx fun n99 => gMid (fun (s100 : Bool) aa ww => Sta (ctx 313 H [] w) [(15, .val (ptrTo v46 0)), (33, .val (ptrTo v69 0)), (35, .rd i64R r67.2.2), (36, .val (ptrTo v76 0)), (37, .val (n75 0)), (38, .rd i64R r74.2.2), (39, .val (ptrTo v81 0)), (40, .val (n80 0)), (41, .rd i64R r79.2.2), (42, .val (ptrTo v84 0)), (43, .val (n83 0)), (44, .rd i64R r82.2.2), (45, .val (ptrTo (n99 0) 0)), (46, .val (n99 1)), (47, .rd i64R s85.2.2), (48, .rd boolR s100)] [(53, some (v46, .box 66 [.rd R_api_Session (⟨3, 2, 1000000000, 1000000000⟩ : api_Session)])), (64, some (v69, .box 66 [.rd R_api_Session r67.1])), (66, some (v76, .box 66 [.rd R_api_Session r74.1])), (65, some ((n75 0), .list R_api_Doing 136 r74.2.1)), (68, some (v81, .box 66 [.rd R_api_Session r79.1])), (67, some ((n80 0), .list R_api_Doing 136 r79.2.1)), (70, some (v84, .box 66 [.rd R_api_Session r82.1])), (69, some ((n83 0), .list R_api_Doing 136 r82.2.1)), (92, some ((n99 0), .box 66 [.rd R_api_Session s85.1])), (77, some ((n99 1), .list R_api_Doing 136 s85.2.1))] aa ww) ?_ (fun s100 => ?_)
      · skip
        refine gReg <| call [] [] rfl Try.func88 rfl rfl (braidlaw25_alive_ok) (aN) rN fun r101 n102 => R rfl (mv rfl) <| lSplit 196 rfl (fun h103 => ?_) (fun h103 => ?_)
        · skip
          refine lKn 195 rfl h103 <| lRun (gd rfl rfl rfl rfl) rfl rfl (mv rfl) <| lRun (gd rfl rfl rfl rfl) rfl rfl (I.eql rfl rfl) <| R rfl (pkT rfl rfl) <| R rfl (mv rfl) <| lSplit 200 rfl (fun h104 => ?_) (fun h104 => ?_)
          · skip
            refine lKn 198 rfl h104 <| lKn 199 rfl h104 <| lRun (gd rfl rfl rfl rfl) rfl rfl (mv rfl) <| lRun (gd rfl rfl rfl rfl) rfl rfl (I.eql rfl rfl) <| R rfl (pkT rfl rfl) <| R rfl (mv rfl) <| lSplit 204 rfl (fun h105 => ?_) (fun h105 => ?_)
            · skip
              refine lKn 202 rfl h105 <| lKn 203 rfl h105 <| lRun (gd rfl rfl rfl rfl) rfl rfl (mv rfl) <| lRun (gd rfl rfl rfl rfl) rfl rfl (I.eql rfl rfl) <| R rfl (pkT rfl rfl) <| R rfl (mv rfl) <| lSplit 208 rfl (fun h106 => ?_) (fun h106 => ?_)
              · skip
                refine lKn 206 rfl h106 <| lKn 207 rfl h106 <| lRun (gd rfl rfl rfl rfl) rfl rfl (mv rfl) <| lRun (gd rfl rfl rfl rfl) rfl rfl (I.eql rfl rfl) <| R rfl (pkT rfl rfl) <| R rfl (mv rfl) <| lSplit 212 rfl (fun h107 => ?_) (fun h107 => ?_)
                · skip
                  refine lKn 210 rfl h107 <| lKn 211 rfl h107 <| lRun (gd rfl rfl rfl rfl) rfl rfl (mv rfl) <| lRun (gd rfl rfl rfl rfl) rfl rfl (I.eql rfl rfl) <| R rfl (pkT rfl rfl) <| R rfl (mv rfl) <| lSplit 216 rfl (fun h108 => ?_) (fun h108 => ?_)
                  · skip
                    refine lKn 214 rfl h108 <| lKn 215 rfl h108 <| lRun (gd rfl rfl rfl rfl) rfl rfl (mv rfl) <| lRun (gd rfl rfl rfl rfl) rfl rfl (I.eql rfl rfl) <| R rfl (pkT rfl rfl) <| R rfl (mv rfl) <| lSplit 220 rfl (fun h109 => ?_) (fun h109 => ?_)
                    · skip
                      refine lKn 218 rfl h109 <| lKn 219 rfl h109 <| lRun (gd rfl rfl rfl rfl) rfl rfl (mv rfl) <| lRun (gd rfl rfl rfl rfl) rfl rfl (I.eql rfl rfl) <| R rfl (pkT rfl rfl) <| R rfl (asg rfl) <| gNil <| eMid (fun aa ww h => h.sub [53, 64, 66, 65, 68, 67, 70, 69, 92, 77] (sS rfl <| sS rfl <| sS rfl <| sS rfl <| sS rfl <| sS rfl <| sS rfl <| sS rfl <| sS rfl <| sS rfl <| sS rfl <| sS rfl <| sS rfl <| sS rfl <| sS rfl <| sS rfl <| sN) (rR rfl rfl <| rR rfl rfl <| rR rfl rfl <| rR rfl rfl <| rR rfl rfl <| rR rfl rfl <| rR rfl rfl <| rR rfl rfl <| rR rfl rfl <| rR rfl rfl <| rN))
                    · skip
                      refine lKn 218 rfl h109 <| lKn 219 rfl h109 <| lSkip (gd rfl rfl rfl rfl) rfl rfl <| lSkip (gd rfl rfl rfl rfl) rfl rfl <| R rfl (pkF rfl rfl) <| R rfl (asg rfl) <| gNil <| eMid (fun aa ww h => h.sub [53, 64, 66, 65, 68, 67, 70, 69, 92, 77] (sS rfl <| sS rfl <| sS rfl <| sS rfl <| sS rfl <| sS rfl <| sS rfl <| sS rfl <| sS rfl <| sS rfl <| sS rfl <| sS rfl <| sS rfl <| sS rfl <| sS rfl <| sS rfl <| sN) (rR rfl rfl <| rR rfl rfl <| rR rfl rfl <| rR rfl rfl <| rR rfl rfl <| rR rfl rfl <| rR rfl rfl <| rR rfl rfl <| rR rfl rfl <| rR rfl rfl <| rN))
                  · skip
                    refine lKn 214 rfl h108 <| lKn 215 rfl h108 <| lSkip (gd rfl rfl rfl rfl) rfl rfl <| lSkip (gd rfl rfl rfl rfl) rfl rfl <| R rfl (pkF rfl rfl) <| R rfl (mv rfl) <| lSkip (gd rfl rfl rfl rfl) rfl rfl <| lSkip (gd rfl rfl rfl rfl) rfl rfl <| R rfl (pkF rfl rfl) <| R rfl (asg rfl) <| gNil <| eMid (fun aa ww h => h.sub [53, 64, 66, 65, 68, 67, 70, 69, 92, 77] (sS rfl <| sS rfl <| sS rfl <| sS rfl <| sS rfl <| sS rfl <| sS rfl <| sS rfl <| sS rfl <| sS rfl <| sS rfl <| sS rfl <| sS rfl <| sS rfl <| sS rfl <| sS rfl <| sN) (rR rfl rfl <| rR rfl rfl <| rR rfl rfl <| rR rfl rfl <| rR rfl rfl <| rR rfl rfl <| rR rfl rfl <| rR rfl rfl <| rR rfl rfl <| rR rfl rfl <| rN))
                · skip
                  refine lKn 210 rfl h107 <| lKn 211 rfl h107 <| lSkip (gd rfl rfl rfl rfl) rfl rfl <| lSkip (gd rfl rfl rfl rfl) rfl rfl <| R rfl (pkF rfl rfl) <| R rfl (mv rfl) <| lSkip (gd rfl rfl rfl rfl) rfl rfl <| lSkip (gd rfl rfl rfl rfl) rfl rfl <| R rfl (pkF rfl rfl) <| R rfl (mv rfl) <| lSkip (gd rfl rfl rfl rfl) rfl rfl <| lSkip (gd rfl rfl rfl rfl) rfl rfl <| R rfl (pkF rfl rfl) <| R rfl (asg rfl) <| gNil <| eMid (fun aa ww h => h.sub [53, 64, 66, 65, 68, 67, 70, 69, 92, 77] (sS rfl <| sS rfl <| sS rfl <| sS rfl <| sS rfl <| sS rfl <| sS rfl <| sS rfl <| sS rfl <| sS rfl <| sS rfl <| sS rfl <| sS rfl <| sS rfl <| sS rfl <| sS rfl <| sN) (rR rfl rfl <| rR rfl rfl <| rR rfl rfl <| rR rfl rfl <| rR rfl rfl <| rR rfl rfl <| rR rfl rfl <| rR rfl rfl <| rR rfl rfl <| rR rfl rfl <| rN))
              · skip
                refine lKn 206 rfl h106 <| lKn 207 rfl h106 <| lSkip (gd rfl rfl rfl rfl) rfl rfl <| lSkip (gd rfl rfl rfl rfl) rfl rfl <| R rfl (pkF rfl rfl) <| R rfl (mv rfl) <| lSkip (gd rfl rfl rfl rfl) rfl rfl <| lSkip (gd rfl rfl rfl rfl) rfl rfl <| R rfl (pkF rfl rfl) <| R rfl (mv rfl) <| lSkip (gd rfl rfl rfl rfl) rfl rfl <| lSkip (gd rfl rfl rfl rfl) rfl rfl <| R rfl (pkF rfl rfl) <| R rfl (mv rfl) <| lSkip (gd rfl rfl rfl rfl) rfl rfl <| lSkip (gd rfl rfl rfl rfl) rfl rfl <| R rfl (pkF rfl rfl) <| R rfl (asg rfl) <| gNil <| eMid (fun aa ww h => h.sub [53, 64, 66, 65, 68, 67, 70, 69, 92, 77] (sS rfl <| sS rfl <| sS rfl <| sS rfl <| sS rfl <| sS rfl <| sS rfl <| sS rfl <| sS rfl <| sS rfl <| sS rfl <| sS rfl <| sS rfl <| sS rfl <| sS rfl <| sS rfl <| sN) (rR rfl rfl <| rR rfl rfl <| rR rfl rfl <| rR rfl rfl <| rR rfl rfl <| rR rfl rfl <| rR rfl rfl <| rR rfl rfl <| rR rfl rfl <| rR rfl rfl <| rN))
            · skip
              refine lKn 202 rfl h105 <| lKn 203 rfl h105 <| lSkip (gd rfl rfl rfl rfl) rfl rfl <| lSkip (gd rfl rfl rfl rfl) rfl rfl <| R rfl (pkF rfl rfl) <| R rfl (mv rfl) <| lSkip (gd rfl rfl rfl rfl) rfl rfl <| lSkip (gd rfl rfl rfl rfl) rfl rfl <| R rfl (pkF rfl rfl) <| R rfl (mv rfl) <| lSkip (gd rfl rfl rfl rfl) rfl rfl <| lSkip (gd rfl rfl rfl rfl) rfl rfl <| R rfl (pkF rfl rfl) <| R rfl (mv rfl) <| lSkip (gd rfl rfl rfl rfl) rfl rfl <| lSkip (gd rfl rfl rfl rfl) rfl rfl <| R rfl (pkF rfl rfl) <| R rfl (mv rfl) <| lSkip (gd rfl rfl rfl rfl) rfl rfl <| lSkip (gd rfl rfl rfl rfl) rfl rfl <| R rfl (pkF rfl rfl) <| R rfl (asg rfl) <| gNil <| eMid (fun aa ww h => h.sub [53, 64, 66, 65, 68, 67, 70, 69, 92, 77] (sS rfl <| sS rfl <| sS rfl <| sS rfl <| sS rfl <| sS rfl <| sS rfl <| sS rfl <| sS rfl <| sS rfl <| sS rfl <| sS rfl <| sS rfl <| sS rfl <| sS rfl <| sS rfl <| sN) (rR rfl rfl <| rR rfl rfl <| rR rfl rfl <| rR rfl rfl <| rR rfl rfl <| rR rfl rfl <| rR rfl rfl <| rR rfl rfl <| rR rfl rfl <| rR rfl rfl <| rN))
          · skip
            refine lKn 198 rfl h104 <| lKn 199 rfl h104 <| lSkip (gd rfl rfl rfl rfl) rfl rfl <| lSkip (gd rfl rfl rfl rfl) rfl rfl <| R rfl (pkF rfl rfl) <| R rfl (mv rfl) <| lSkip (gd rfl rfl rfl rfl) rfl rfl <| lSkip (gd rfl rfl rfl rfl) rfl rfl <| R rfl (pkF rfl rfl) <| R rfl (mv rfl) <| lSkip (gd rfl rfl rfl rfl) rfl rfl <| lSkip (gd rfl rfl rfl rfl) rfl rfl <| R rfl (pkF rfl rfl) <| R rfl (mv rfl) <| lSkip (gd rfl rfl rfl rfl) rfl rfl <| lSkip (gd rfl rfl rfl rfl) rfl rfl <| R rfl (pkF rfl rfl) <| R rfl (mv rfl) <| lSkip (gd rfl rfl rfl rfl) rfl rfl <| lSkip (gd rfl rfl rfl rfl) rfl rfl <| R rfl (pkF rfl rfl) <| R rfl (mv rfl) <| lSkip (gd rfl rfl rfl rfl) rfl rfl <| lSkip (gd rfl rfl rfl rfl) rfl rfl <| R rfl (pkF rfl rfl) <| R rfl (asg rfl) <| gNil <| eMid (fun aa ww h => h.sub [53, 64, 66, 65, 68, 67, 70, 69, 92, 77] (sS rfl <| sS rfl <| sS rfl <| sS rfl <| sS rfl <| sS rfl <| sS rfl <| sS rfl <| sS rfl <| sS rfl <| sS rfl <| sS rfl <| sS rfl <| sS rfl <| sS rfl <| sS rfl <| sN) (rR rfl rfl <| rR rfl rfl <| rR rfl rfl <| rR rfl rfl <| rR rfl rfl <| rR rfl rfl <| rR rfl rfl <| rR rfl rfl <| rR rfl rfl <| rR rfl rfl <| rN))
        · skip
          refine lKn 195 rfl h103 <| lSkip (gd rfl rfl rfl rfl) rfl rfl <| lSkip (gd rfl rfl rfl rfl) rfl rfl <| R rfl (pkF rfl rfl) <| R rfl (mv rfl) <| lSkip (gd rfl rfl rfl rfl) rfl rfl <| lSkip (gd rfl rfl rfl rfl) rfl rfl <| R rfl (pkF rfl rfl) <| R rfl (mv rfl) <| lSkip (gd rfl rfl rfl rfl) rfl rfl <| lSkip (gd rfl rfl rfl rfl) rfl rfl <| R rfl (pkF rfl rfl) <| R rfl (mv rfl) <| lSkip (gd rfl rfl rfl rfl) rfl rfl <| lSkip (gd rfl rfl rfl rfl) rfl rfl <| R rfl (pkF rfl rfl) <| R rfl (mv rfl) <| lSkip (gd rfl rfl rfl rfl) rfl rfl <| lSkip (gd rfl rfl rfl rfl) rfl rfl <| R rfl (pkF rfl rfl) <| R rfl (mv rfl) <| lSkip (gd rfl rfl rfl rfl) rfl rfl <| lSkip (gd rfl rfl rfl rfl) rfl rfl <| R rfl (pkF rfl rfl) <| R rfl (mv rfl) <| lSkip (gd rfl rfl rfl rfl) rfl rfl <| lSkip (gd rfl rfl rfl rfl) rfl rfl <| R rfl (pkF rfl rfl) <| R rfl (asg rfl) <| gNil <| eMid (fun aa ww h => h.sub [53, 64, 66, 65, 68, 67, 70, 69, 92, 77] (sS rfl <| sS rfl <| sS rfl <| sS rfl <| sS rfl <| sS rfl <| sS rfl <| sS rfl <| sS rfl <| sS rfl <| sS rfl <| sS rfl <| sS rfl <| sS rfl <| sS rfl <| sS rfl <| sN) (rR rfl rfl <| rR rfl rfl <| rR rfl rfl <| rR rfl rfl <| rR rfl rfl <| rR rfl rfl <| rR rfl rfl <| rR rfl rfl <| rR rfl rfl <| rR rfl rfl <| rN))
      · skip
        refine gSeq <| gReg <| R rfl (mv rfl) <| R rfl (mv rfl) <| lSplit 225 rfl (fun h110 => ?_) (fun h110 => ?_)
        · skip
          refine lKn 48 rfl h110 <| lKn 224 rfl h110 <| lRun (gd rfl rfl rfl rfl) rfl rfl (mv rfl) <| lRun (gd rfl rfl rfl rfl) rfl rfl (I.eql rfl rfl) <| R rfl (pkT rfl rfl) <| R rfl (mv rfl) <| lSplit 229 rfl (fun h111 => ?_) (fun h111 => ?_)
          · skip
            refine lKn 227 rfl h111 <| lKn 228 rfl h111 <| lRun (gd rfl rfl rfl rfl) rfl rfl (ld 64 rfl rfl Foc.here ty66 rfl) <| lRun (gd rfl rfl rfl rfl) rfl rfl (ld 53 rfl rfl Foc.here ty66 rfl) <| lRun (gd rfl rfl rfl rfl) rfl rfl (eqA rfl rfl eq66 rfl rfl gq66) <| R rfl (pkT rfl rfl) <| R rfl (mv rfl) <| lSplit 234 rfl (fun h112 => ?_) (fun h112 => ?_)
            · skip
              refine lKn 232 rfl h112 <| lKn 233 rfl h112 <| lRun (gd rfl rfl rfl rfl) rfl rfl (mv rfl) <| lRun (gd rfl rfl rfl rfl) rfl rfl (I.eql rfl rfl) <| R rfl (pkT rfl rfl) <| R rfl (mv rfl) <| lSplit 238 rfl (fun h113 => ?_) (fun h113 => ?_)
              · skip
                refine lKn 236 rfl h113 <| lKn 237 rfl h113 <| lRun (gd rfl rfl rfl rfl) rfl rfl (faB 66 rfl rfl Try.underlying66 rfl (by exact ti5)) <| lRun (gd rfl rfl rfl rfl) rfl rfl (ld 66 rfl rfl ((Foc.here).part (pt_api_Session_State _)) ty5 rfl) <| lRun (gd rfl rfl rfl rfl) rfl rfl (B.eql rfl rfl) <| R rfl (pkT rfl rfl) <| R rfl (mv rfl) <| lSplit 243 rfl (fun h114 => ?_) (fun h114 => ?_)
                · skip
                  refine lKn 241 rfl h114 <| lKn 242 rfl h114 <| lRun (gd rfl rfl rfl rfl) rfl rfl (mv rfl) <| lRun (gd rfl rfl rfl rfl) rfl rfl (len' rfl (.own 65 rfl) rfl Try.underlying67) <| lRun (gd rfl rfl rfl rfl) rfl rfl (I.eql rfl rfl) <| R rfl (pkT rfl rfl) <| R rfl (mv rfl) <| lSplit 248 rfl (fun h115 => ?_) (fun h115 => ?_)
                  · skip
                    refine lKn 246 rfl h115 <| lKn 247 rfl h115 <| lRun (gd rfl rfl rfl rfl) rfl rfl (mv rfl) <| lBind fun x116 h117 => lRun (gd rfl rfl rfl rfl) rfl rfl (ixO 65 rfl rfl rfl h117 Try.underlying67 ti136) <| lRun (gd rfl rfl rfl rfl) rfl rfl (fa 65 rfl rfl list_base (nonil h117) Try.underlying136 rfl (by exact ti105)) <| lRun (gd rfl rfl rfl rfl) rfl rfl (fa 65 rfl rfl list_base (nonil h117) Try.underlying105 rfl (by exact ti31)) <| lRun (gd rfl rfl rfl rfl) rfl rfl (ld 65 rfl rfl (((Foc.el h117).part (pt_api_Doing_Frame _)).part (pt_api_Frame_N _)) ty31 rfl) <| lRun (gd rfl rfl rfl rfl) rfl rfl (U.eql rfl rfl) <| R rfl (pkT rfl rfl) <| R rfl (mv rfl) <| lSplit 256 rfl (fun h118 => ?_) (fun h118 => ?_)
                    · skip
                      refine lKn 254 rfl h118 <| lKn 255 rfl h118 <| lRun (gd rfl rfl rfl rfl) rfl rfl (mv rfl) <| lRun (gd rfl rfl rfl rfl) rfl rfl (I.eql rfl rfl) <| R rfl (pkT rfl rfl) <| R rfl (mv rfl) <| lSplit 260 rfl (fun h119 => ?_) (fun h119 => ?_)
                      · skip
                        refine lKn 258 rfl h119 <| lKn 259 rfl h119 <| lRun (gd rfl rfl rfl rfl) rfl rfl (faB 68 rfl rfl Try.underlying66 rfl (by exact ti5)) <| lRun (gd rfl rfl rfl rfl) rfl rfl (ld 68 rfl rfl ((Foc.here).part (pt_api_Session_State _)) ty5 rfl) <| lRun (gd rfl rfl rfl rfl) rfl rfl (B.eql rfl rfl) <| R rfl (pkT rfl rfl) <| R rfl (mv rfl) <| lSplit 265 rfl (fun h120 => ?_) (fun h120 => ?_)
                        · skip
                          refine lKn 263 rfl h120 <| lKn 264 rfl h120 <| lRun (gd rfl rfl rfl rfl) rfl rfl (mv rfl) <| lRun (gd rfl rfl rfl rfl) rfl rfl (len' rfl (.own 67 rfl) rfl Try.underlying67) <| lRun (gd rfl rfl rfl rfl) rfl rfl (I.eql rfl rfl) <| R rfl (pkT rfl rfl) <| R rfl (mv rfl) <| lSplit 270 rfl (fun h121 => ?_) (fun h121 => ?_)
                          · skip
                            refine lKn 268 rfl h121 <| lKn 269 rfl h121 <| lRun (gd rfl rfl rfl rfl) rfl rfl (mv rfl) <| lBind fun x122 h123 => lRun (gd rfl rfl rfl rfl) rfl rfl (ixO 67 rfl rfl rfl h123 Try.underlying67 ti136) <| lRun (gd rfl rfl rfl rfl) rfl rfl (fa 67 rfl rfl list_base (nonil h123) Try.underlying136 rfl (by exact ti5)) <| lRun (gd rfl rfl rfl rfl) rfl rfl (ld 67 rfl rfl ((Foc.el h123).part (pt_api_Doing_Kind _)) ty5 rfl) <| lRun (gd rfl rfl rfl rfl) rfl rfl (B.eql rfl rfl) <| R rfl (pkT rfl rfl) <| R rfl (mv rfl) <| lSplit 277 rfl (fun h124 => ?_) (fun h124 => ?_)
                            · skip
                              refine lKn 275 rfl h124 <| lKn 276 rfl h124 <| lRun (gd rfl rfl rfl rfl) rfl rfl (mv rfl) <| lRun (gd rfl rfl rfl rfl) rfl rfl (I.eql rfl rfl) <| R rfl (pkT rfl rfl) <| R rfl (mv rfl) <| lSplit 281 rfl (fun h125 => ?_) (fun h125 => ?_)
                              · skip
                                refine lKn 279 rfl h125 <| lKn 280 rfl h125 <| lRun (gd rfl rfl rfl rfl) rfl rfl (faB 70 rfl rfl Try.underlying66 rfl (by exact ti5)) <| lRun (gd rfl rfl rfl rfl) rfl rfl (ld 70 rfl rfl ((Foc.here).part (pt_api_Session_State _)) ty5 rfl) <| lRun (gd rfl rfl rfl rfl) rfl rfl (B.eql rfl rfl) <| R rfl (pkT rfl rfl) <| R rfl (mv rfl) <| lSplit 286 rfl (fun h126 => ?_) (fun h126 => ?_)
                                · skip
                                  refine lKn 284 rfl h126 <| lKn 285 rfl h126 <| lRun (gd rfl rfl rfl rfl) rfl rfl (mv rfl) <| lRun (gd rfl rfl rfl rfl) rfl rfl (len' rfl (.own 69 rfl) rfl Try.underlying67) <| lRun (gd rfl rfl rfl rfl) rfl rfl (I.eql rfl rfl) <| R rfl (pkT rfl rfl) <| R rfl (mv rfl) <| lSplit 291 rfl (fun h127 => ?_) (fun h127 => ?_)
                                  · skip
                                    refine lKn 289 rfl h127 <| lKn 290 rfl h127 <| lRun (gd rfl rfl rfl rfl) rfl rfl (mv rfl) <| lBind fun x128 h129 => lRun (gd rfl rfl rfl rfl) rfl rfl (ixO 69 rfl rfl rfl h129 Try.underlying67 ti136) <| lRun (gd rfl rfl rfl rfl) rfl rfl (fa 69 rfl rfl list_base (nonil h129) Try.underlying136 rfl (by exact ti105)) <| lRun (gd rfl rfl rfl rfl) rfl rfl (fa 69 rfl rfl list_base (nonil h129) Try.underlying105 rfl (by exact ti31)) <| lRun (gd rfl rfl rfl rfl) rfl rfl (ld 69 rfl rfl (((Foc.el h129).part (pt_api_Doing_Frame _)).part (pt_api_Frame_N _)) ty31 rfl) <| lRun (gd rfl rfl rfl rfl) rfl rfl (U.eql rfl rfl) <| R rfl (pkT rfl rfl) <| R rfl (mv rfl) <| lSplit 299 rfl (fun h130 => ?_) (fun h130 => ?_)
                                    · skip
                                      refine lKn 297 rfl h130 <| lKn 298 rfl h130 <| lRun (gd rfl rfl rfl rfl) rfl rfl (mv rfl) <| lRun (gd rfl rfl rfl rfl) rfl rfl (I.eql rfl rfl) <| R rfl (pkT rfl rfl) <| R rfl (mv rfl) <| lSplit 303 rfl (fun h131 => ?_) (fun h131 => ?_)
                                      · skip
                                        refine lKn 301 rfl h131 <| lKn 302 rfl h131 <| lRun (gd rfl rfl rfl rfl) rfl rfl (ld 92 rfl rfl Foc.here ty66 rfl) <| lRun (gd rfl rfl rfl rfl) rfl rfl (ld 70 rfl rfl Foc.here ty66 rfl) <| lRun (gd rfl rfl rfl rfl) rfl rfl (eqA rfl rfl eq66 rfl rfl gq66) <| R rfl (pkT rfl rfl) <| R rfl (mv rfl) <| lSplit 308 rfl (fun h132 => ?_) (fun h132 => ?_)
                                        · skip
                                          refine lKn 306 rfl h132 <| lKn 307 rfl h132 <| lRun (gd rfl rfl rfl rfl) rfl rfl (mv rfl) <| lRun (gd rfl rfl rfl rfl) rfl rfl (len' rfl (.own 77 rfl) rfl Try.underlying67) <| lRun (gd rfl rfl rfl rfl) rfl rfl (I.eql rfl rfl) <| R rfl (pkT rfl rfl) <| R rfl (asg rfl) <| lName 0 rfl fun y133 => gNil <| eThen <| gRet <| eRet [] [] rfl (eE rfl <| eN) (rN)
                                        · skip
                                          refine lKn 306 rfl h132 <| lKn 307 rfl h132 <| lSkip (gd rfl rfl rfl rfl) rfl rfl <| lSkip (gd rfl rfl rfl rfl) rfl rfl <| lSkip (gd rfl rfl rfl rfl) rfl rfl <| R rfl (pkF rfl rfl) <| R rfl (asg rfl) <| gNil <| eThen <| gRet <| eRet [] [] rfl (eE rfl <| eN) (rN)
                                      · skip
                                        refine lKn 301 rfl h131 <| lKn 302 rfl h131 <| lSkip (gd rfl rfl rfl rfl) rfl rfl <| lSkip (gd rfl rfl rfl rfl) rfl rfl <| lSkip (gd rfl rfl rfl rfl) rfl rfl <| R rfl (pkF rfl rfl) <| R rfl (mv rfl) <| lSkip (gd rfl rfl rfl rfl) rfl rfl <| lSkip (gd rfl rfl rfl rfl) rfl rfl <| lSkip (gd rfl rfl rfl rfl) rfl rfl <| R rfl (pkF rfl rfl) <| R rfl (asg rfl) <| gNil <| eThen <| gRet <| eRet [] [] rfl (eE rfl <| eN) (rN)
                                    · skip
                                      refine lKn 297 rfl h130 <| lKn 298 rfl h130 <| lSkip (gd rfl rfl rfl rfl) rfl rfl <| lSkip (gd rfl rfl rfl rfl) rfl rfl <| R rfl (pkF rfl rfl) <| R rfl (mv rfl) <| lSkip (gd rfl rfl rfl rfl) rfl rfl <| lSkip (gd rfl rfl rfl rfl) rfl rfl <| lSkip (gd rfl rfl rfl rfl) rfl rfl <| R rfl (pkF rfl rfl) <| R rfl (mv rfl) <| lSkip (gd rfl rfl rfl rfl) rfl rfl <| lSkip (gd rfl rfl rfl rfl) rfl rfl <| lSkip (gd rfl rfl rfl rfl) rfl rfl <| R rfl (pkF rfl rfl) <| R rfl (asg rfl) <| gNil <| eThen <| gRet <| eRet [] [] rfl (eE rfl <| eN) (rN)
                                  · skip
                                    refine lKn 289 rfl h127 <| lKn 290 rfl h127 <| lSkip (gd rfl rfl rfl rfl) rfl rfl <| lSkip (gd rfl rfl rfl rfl) rfl rfl <| lSkip (gd rfl rfl rfl rfl) rfl rfl <| lSkip (gd rfl rfl rfl rfl) rfl rfl <| lSkip (gd rfl rfl rfl rfl) rfl rfl <| lSkip (gd rfl rfl rfl rfl) rfl rfl <| R rfl (pkF rfl rfl) <| R rfl (mv rfl) <| lSkip (gd rfl rfl rfl rfl) rfl rfl <| lSkip (gd rfl rfl rfl rfl) rfl rfl <| R rfl (pkF rfl rfl) <| R rfl (mv rfl) <| lSkip (gd rfl rfl rfl rfl) rfl rfl <| lSkip (gd rfl rfl rfl rfl) rfl rfl <| lSkip (gd rfl rfl rfl rfl) rfl rfl <| R rfl (pkF rfl rfl) <| R rfl (mv rfl) <| lSkip (gd rfl rfl rfl rfl) rfl rfl <| lSkip (gd rfl rfl rfl rfl) rfl rfl <| lSkip (gd rfl rfl rfl rfl) rfl rfl <| R rfl (pkF rfl rfl) <| R rfl (asg rfl) <| gNil <| eThen <| gRet <| eRet [] [] rfl (eE rfl <| eN) (rN)
                                · skip
                                  refine lKn 284 rfl h126 <| lKn 285 rfl h126 <| lSkip (gd rfl rfl rfl rfl) rfl rfl <| lSkip (gd rfl rfl rfl rfl) rfl rfl <| lSkip (gd rfl rfl rfl rfl) rfl rfl <| R rfl (pkF rfl rfl) <| R rfl (mv rfl) <| lSkip (gd rfl rfl rfl rfl) rfl rfl <| lSkip (gd rfl rfl rfl rfl) rfl rfl <| lSkip (gd rfl rfl rfl rfl) rfl rfl <| lSkip (gd rfl rfl rfl rfl) rfl rfl <| lSkip (gd rfl rfl rfl rfl) rfl rfl <| lSkip (gd rfl rfl rfl rfl) rfl rfl <| R rfl (pkF rfl rfl) <| R rfl (mv rfl) <| lSkip (gd rfl rfl rfl rfl) rfl rfl <| lSkip (gd rfl rfl rfl rfl) rfl rfl <| R rfl (pkF rfl rfl) <| R rfl (mv rfl) <| lSkip (gd rfl rfl rfl rfl) rfl rfl <| lSkip (gd rfl rfl rfl rfl) rfl rfl <| lSkip (gd rfl rfl rfl rfl) rfl rfl <| R rfl (pkF rfl rfl) <| R rfl (mv rfl) <| lSkip (gd rfl rfl rfl rfl) rfl rfl <| lSkip (gd rfl rfl rfl rfl) rfl rfl <| lSkip (gd rfl rfl rfl rfl) rfl rfl <| R rfl (pkF rfl rfl) <| R rfl (asg rfl) <| gNil <| eThen <| gRet <| eRet [] [] rfl (eE rfl <| eN) (rN)
                              · skip
                                refine lKn 279 rfl h125 <| lKn 280 rfl h125 <| lSkip (gd rfl rfl rfl rfl) rfl rfl <| lSkip (gd rfl rfl rfl rfl) rfl rfl <| lSkip (gd rfl rfl rfl rfl) rfl rfl <| R rfl (pkF rfl rfl) <| R rfl (mv rfl) <| lSkip (gd rfl rfl rfl rfl) rfl rfl <| lSkip (gd rfl rfl rfl rfl) rfl rfl <| lSkip (gd rfl rfl rfl rfl) rfl rfl <| R rfl (pkF rfl rfl) <| R rfl (mv rfl) <| lSkip (gd rfl rfl rfl rfl) rfl rfl <| lSkip (gd rfl rfl rfl rfl) rfl rfl <| lSkip (gd rfl rfl rfl rfl) rfl rfl <| lSkip (gd rfl rfl rfl rfl) rfl rfl <| lSkip (gd rfl rfl rfl rfl) rfl rfl <| lSkip (gd rfl rfl rfl rfl) rfl rfl <| R rfl (pkF rfl rfl) <| R rfl (mv rfl) <| lSkip (gd rfl rfl rfl rfl) rfl rfl <| lSkip (gd rfl rfl rfl rfl) rfl rfl <| R rfl (pkF rfl rfl) <| R rfl (mv rfl) <| lSkip (gd rfl rfl rfl rfl) rfl rfl <| lSkip (gd rfl rfl rfl rfl) rfl rfl <| lSkip (gd rfl rfl rfl rfl) rfl rfl <| R rfl (pkF rfl rfl) <| R rfl (mv rfl) <| lSkip (gd rfl rfl rfl rfl) rfl rfl <| lSkip (gd rfl rfl rfl rfl) rfl rfl <| lSkip (gd rfl rfl rfl rfl) rfl rfl <| R rfl (pkF rfl rfl) <| R rfl (asg rfl) <| gNil <| eThen <| gRet <| eRet [] [] rfl (eE rfl <| eN) (rN)
                            · skip
                              refine lKn 275 rfl h124 <| lKn 276 rfl h124 <| lSkip (gd rfl rfl rfl rfl) rfl rfl <| lSkip (gd rfl rfl rfl rfl) rfl rfl <| R rfl (pkF rfl rfl) <| R rfl (mv rfl) <| lSkip (gd rfl rfl rfl rfl) rfl rfl <| lSkip (gd rfl rfl rfl rfl) rfl rfl <| lSkip (gd rfl rfl rfl rfl) rfl rfl <| R rfl (pkF rfl rfl) <| R rfl (mv rfl) <| lSkip (gd rfl rfl rfl rfl) rfl rfl <| lSkip (gd rfl rfl rfl rfl) rfl rfl <| lSkip (gd rfl rfl rfl rfl) rfl rfl <| R rfl (pkF rfl rfl) <| R rfl (mv rfl) <| lSkip (gd rfl rfl rfl rfl) rfl rfl <| lSkip (gd rfl rfl rfl rfl) rfl rfl <| lSkip (gd rfl rfl rfl rfl) rfl rfl <| lSkip (gd rfl rfl rfl rfl) rfl rfl <| lSkip (gd rfl rfl rfl rfl) rfl rfl <| lSkip (gd rfl rfl rfl rfl) rfl rfl <| R rfl (pkF rfl rfl) <| R rfl (mv rfl) <| lSkip (gd rfl rfl rfl rfl) rfl rfl <| lSkip (gd rfl rfl rfl rfl) rfl rfl <| R rfl (pkF rfl rfl) <| R rfl (mv rfl) <| lSkip (gd rfl rfl rfl rfl) rfl rfl <| lSkip (gd rfl rfl rfl rfl) rfl rfl <| lSkip (gd rfl rfl rfl rfl) rfl rfl <| R rfl (pkF rfl rfl) <| R rfl (mv rfl) <| lSkip (gd rfl rfl rfl rfl) rfl rfl <| lSkip (gd rfl rfl rfl rfl) rfl rfl <| lSkip (gd rfl rfl rfl rfl) rfl rfl <| R rfl (pkF rfl rfl) <| R rfl (asg rfl) <| gNil <| eThen <| gRet <| eRet [] [] rfl (eE rfl <| eN) (rN)
                          · skip
                            refine lKn 268 rfl h121 <| lKn 269 rfl h121 <| lSkip (gd rfl rfl rfl rfl) rfl rfl <| lSkip (gd rfl rfl rfl rfl) rfl rfl <| lSkip (gd rfl rfl rfl rfl) rfl rfl <| lSkip (gd rfl rfl rfl rfl) rfl rfl <| lSkip (gd rfl rfl rfl rfl) rfl rfl <| R rfl (pkF rfl rfl) <| R rfl (mv rfl) <| lSkip (gd rfl rfl rfl rfl) rfl rfl <| lSkip (gd rfl rfl rfl rfl) rfl rfl <| R rfl (pkF rfl rfl) <| R rfl (mv rfl) <| lSkip (gd rfl rfl rfl rfl) rfl rfl <| lSkip (gd rfl rfl rfl rfl) rfl rfl <| lSkip (gd rfl rfl rfl rfl) rfl rfl <| R rfl (pkF rfl rfl) <| R rfl (mv rfl) <| lSkip (gd rfl rfl rfl rfl) rfl rfl <| lSkip (gd rfl rfl rfl rfl) rfl rfl <| lSkip (gd rfl rfl rfl rfl) rfl rfl <| R rfl (pkF rfl rfl) <| R rfl (mv rfl) <| lSkip (gd rfl rfl rfl rfl) rfl rfl <| lSkip (gd rfl rfl rfl rfl) rfl rfl <| lSkip (gd rfl rfl rfl rfl) rfl rfl <| lSkip (gd rfl rfl rfl rfl) rfl rfl <| lSkip (gd rfl rfl rfl rfl) rfl rfl <| lSkip (gd rfl rfl rfl rfl) rfl rfl <| R rfl (pkF rfl rfl) <| R rfl (mv rfl) <| lSkip (gd rfl rfl rfl rfl) rfl rfl <| lSkip (gd rfl rfl rfl rfl) rfl rfl <| R rfl (pkF rfl rfl) <| R rfl (mv rfl) <| lSkip (gd rfl rfl rfl rfl) rfl rfl <| lSkip (gd rfl rfl rfl rfl) rfl rfl <| lSkip (gd rfl rfl rfl rfl) rfl rfl <| R rfl (pkF rfl rfl) <| R rfl (mv rfl) <| lSkip (gd rfl rfl rfl rfl) rfl rfl <| lSkip (gd rfl rfl rfl rfl) rfl rfl <| lSkip (gd rfl rfl rfl rfl) rfl rfl <| R rfl (pkF rfl rfl) <| R rfl (asg rfl) <| gNil <| eThen <| gRet <| eRet [] [] rfl (eE rfl <| eN) (rN)
                        · skip
                          refine lKn 263 rfl h120 <| lKn 264 rfl h120 <| lSkip (gd rfl rfl rfl rfl) rfl rfl <| lSkip (gd rfl rfl rfl rfl) rfl rfl <| lSkip (gd rfl rfl rfl rfl) rfl rfl <| R rfl (pkF rfl rfl) <| R rfl (mv rfl) <| lSkip (gd rfl rfl rfl rfl) rfl rfl <| lSkip (gd rfl rfl rfl rfl) rfl rfl <| lSkip (gd rfl rfl rfl rfl) rfl rfl <| lSkip (gd rfl rfl rfl rfl) rfl rfl <| lSkip (gd rfl rfl rfl rfl) rfl rfl <| R rfl (pkF rfl rfl) <| R rfl (mv rfl) <| lSkip (gd rfl rfl rfl rfl) rfl rfl <| lSkip (gd rfl rfl rfl rfl) rfl rfl <| R rfl (pkF rfl rfl) <| R rfl (mv rfl) <| lSkip (gd rfl rfl rfl rfl) rfl rfl <| lSkip (gd rfl rfl rfl rfl) rfl rfl <| lSkip (gd rfl rfl rfl rfl) rfl rfl <| R rfl (pkF rfl rfl) <| R rfl (mv rfl) <| lSkip (gd rfl rfl rfl rfl) rfl rfl <| lSkip (gd rfl rfl rfl rfl) rfl rfl <| lSkip (gd rfl rfl rfl rfl) rfl rfl <| R rfl (pkF rfl rfl) <| R rfl (mv rfl) <| lSkip (gd rfl rfl rfl rfl) rfl rfl <| lSkip (gd rfl rfl rfl rfl) rfl rfl <| lSkip (gd rfl rfl rfl rfl) rfl rfl <| lSkip (gd rfl rfl rfl rfl) rfl rfl <| lSkip (gd rfl rfl rfl rfl) rfl rfl <| lSkip (gd rfl rfl rfl rfl) rfl rfl <| R rfl (pkF rfl rfl) <| R rfl (mv rfl) <| lSkip (gd rfl rfl rfl rfl) rfl rfl <| lSkip (gd rfl rfl rfl rfl) rfl rfl <| R rfl (pkF rfl rfl) <| R rfl (mv rfl) <| lSkip (gd rfl rfl rfl rfl) rfl rfl <| lSkip (gd rfl rfl rfl rfl) rfl rfl <| lSkip (gd rfl rfl rfl rfl) rfl rfl <| R rfl (pkF rfl rfl) <| R rfl (mv rfl) <| lSkip (gd rfl rfl rfl rfl) rfl rfl <| lSkip (gd rfl rfl rfl rfl) rfl rfl <| lSkip (gd rfl rfl rfl rfl) rfl rfl <| R rfl (pkF rfl rfl) <| R rfl (asg rfl) <| gNil <| eThen <| gRet <| eRet [] [] rfl (eE rfl <| eN) (rN)
                      · skip
                        refine lKn 258 rfl h119 <| lKn 259 rfl h119 <| lSkip (gd rfl rfl rfl rfl) rfl rfl <| lSkip (gd rfl rfl rfl rfl) rfl rfl <| lSkip (gd rfl rfl rfl rfl) rfl rfl <| R rfl (pkF rfl rfl) <| R rfl (mv rfl) <| lSkip (gd rfl rfl rfl rfl) rfl rfl <| lSkip (gd rfl rfl rfl rfl) rfl rfl <| lSkip (gd rfl rfl rfl rfl) rfl rfl <| R rfl (pkF rfl rfl) <| R rfl (mv rfl) <| lSkip (gd rfl rfl rfl rfl) rfl rfl <| lSkip (gd rfl rfl rfl rfl) rfl rfl <| lSkip (gd rfl rfl rfl rfl) rfl rfl <| lSkip (gd rfl rfl rfl rfl) rfl rfl <| lSkip (gd rfl rfl rfl rfl) rfl rfl <| R rfl (pkF rfl rfl) <| R rfl (mv rfl) <| lSkip (gd rfl rfl rfl rfl) rfl rfl <| lSkip (gd rfl rfl rfl rfl) rfl rfl <| R rfl (pkF rfl rfl) <| R rfl (mv rfl) <| lSkip (gd rfl rfl rfl rfl) rfl rfl <| lSkip (gd rfl rfl rfl rfl) rfl rfl <| lSkip (gd rfl rfl rfl rfl) rfl rfl <| R rfl (pkF rfl rfl) <| R rfl (mv rfl) <| lSkip (gd rfl rfl rfl rfl) rfl rfl <| lSkip (gd rfl rfl rfl rfl) rfl rfl <| lSkip (gd rfl rfl rfl rfl) rfl rfl <| R rfl (pkF rfl rfl) <| R rfl (mv rfl) <| lSkip (gd rfl rfl rfl rfl) rfl rfl <| lSkip (gd rfl rfl rfl rfl) rfl rfl <| lSkip (gd rfl rfl rfl rfl) rfl rfl <| lSkip (gd rfl rfl rfl rfl) rfl rfl <| lSkip (gd rfl rfl rfl rfl) rfl rfl <| lSkip (gd rfl rfl rfl rfl) rfl rfl <| R rfl (pkF rfl rfl) <| R rfl (mv rfl) <| lSkip (gd rfl rfl rfl rfl) rfl rfl <| lSkip (gd rfl rfl rfl rfl) rfl rfl <| R rfl (pkF rfl rfl) <| R rfl (mv rfl) <| lSkip (gd rfl rfl rfl rfl) rfl rfl <| lSkip (gd rfl rfl rfl rfl) rfl rfl <| lSkip (gd rfl rfl rfl rfl) rfl rfl <| R rfl (pkF rfl rfl) <| R rfl (mv rfl) <| lSkip (gd rfl rfl rfl rfl) rfl rfl <| lSkip (gd rfl rfl rfl rfl) rfl rfl <| lSkip (gd rfl rfl rfl rfl) rfl rfl <| R rfl (pkF rfl rfl) <| R rfl (asg rfl) <| gNil <| eThen <| gRet <| eRet [] [] rfl (eE rfl <| eN) (rN)
                    · skip
                      refine lKn 254 rfl h118 <| lKn 255 rfl h118 <| lSkip (gd rfl rfl rfl rfl) rfl rfl <| lSkip (gd rfl rfl rfl rfl) rfl rfl <| R rfl (pkF rfl rfl) <| R rfl (mv rfl) <| lSkip (gd rfl rfl rfl rfl) rfl rfl <| lSkip (gd rfl rfl rfl rfl) rfl rfl <| lSkip (gd rfl rfl rfl rfl) rfl rfl <| R rfl (pkF rfl rfl) <| R rfl (mv rfl) <| lSkip (gd rfl rfl rfl rfl) rfl rfl <| lSkip (gd rfl rfl rfl rfl) rfl rfl <| lSkip (gd rfl rfl rfl rfl) rfl rfl <| R rfl (pkF rfl rfl) <| R rfl (mv rfl) <| lSkip (gd rfl rfl rfl rfl) rfl rfl <| lSkip (gd rfl rfl rfl rfl) rfl rfl <| lSkip (gd rfl rfl rfl rfl) rfl rfl <| lSkip (gd rfl rfl rfl rfl) rfl rfl <| lSkip (gd rfl rfl rfl rfl) rfl rfl <| R rfl (pkF rfl rfl) <| R rfl (mv rfl) <| lSkip (gd rfl rfl rfl rfl) rfl rfl <| lSkip (gd rfl rfl rfl rfl) rfl rfl <| R rfl (pkF rfl rfl) <| R rfl (mv rfl) <| lSkip (gd rfl rfl rfl rfl) rfl rfl <| lSkip (gd rfl rfl rfl rfl) rfl rfl <| lSkip (gd rfl rfl rfl rfl) rfl rfl <| R rfl (pkF rfl rfl) <| R rfl (mv rfl) <| lSkip (gd rfl rfl rfl rfl) rfl rfl <| lSkip (gd rfl rfl rfl rfl) rfl rfl <| lSkip (gd rfl rfl rfl rfl) rfl rfl <| R rfl (pkF rfl rfl) <| R rfl (mv rfl) <| lSkip (gd rfl rfl rfl rfl) rfl rfl <| lSkip (gd rfl rfl rfl rfl) rfl rfl <| lSkip (gd rfl rfl rfl rfl) rfl rfl <| lSkip (gd rfl rfl rfl rfl) rfl rfl <| lSkip (gd rfl rfl rfl rfl) rfl rfl <| lSkip (gd rfl rfl rfl rfl) rfl rfl <| R rfl (pkF rfl rfl) <| R rfl (mv rfl) <| lSkip (gd rfl rfl rfl rfl) rfl rfl <| lSkip (gd rfl rfl rfl rfl) rfl rfl <| R rfl (pkF rfl rfl) <| R rfl (mv rfl) <| lSkip (gd rfl rfl rfl rfl) rfl rfl <| lSkip (gd rfl rfl rfl rfl) rfl rfl <| lSkip (gd rfl rfl rfl rfl) rfl rfl <| R rfl (pkF rfl rfl) <| R rfl (mv rfl) <| lSkip (gd rfl rfl rfl rfl) rfl rfl <| lSkip (gd rfl rfl rfl rfl) rfl rfl <| lSkip (gd rfl rfl rfl rfl) rfl rfl <| R rfl (pkF rfl rfl) <| R rfl (asg rfl) <| gNil <| eThen <| gRet <| eRet [] [] rfl (eE rfl <| eN) (rN)
                  · skip
                    refine lKn 246 rfl h115 <| lKn 247 rfl h115 <| lSkip (gd rfl rfl rfl rfl) rfl rfl <| lSkip (gd rfl rfl rfl rfl) rfl rfl <| lSkip (gd rfl rfl rfl rfl) rfl rfl <| lSkip (gd rfl rfl rfl rfl) rfl rfl <| lSkip (gd rfl rfl rfl rfl) rfl rfl <| lSkip (gd rfl rfl rfl rfl) rfl rfl <| R rfl (pkF rfl rfl) <| R rfl (mv rfl) <| lSkip (gd rfl rfl rfl rfl) rfl rfl <| lSkip (gd rfl rfl rfl rfl) rfl rfl <| R rfl (pkF rfl rfl) <| R rfl (mv rfl) <| lSkip (gd rfl rfl rfl rfl) rfl rfl <| lSkip (gd rfl rfl rfl rfl) rfl rfl <| lSkip (gd rfl rfl rfl rfl) rfl rfl <| R rfl (pkF rfl rfl) <| R rfl (mv rfl) <| lSkip (gd rfl rfl rfl rfl) rfl rfl <| lSkip (gd rfl rfl rfl rfl) rfl rfl <| lSkip (gd rfl rfl rfl rfl) rfl rfl <| R rfl (pkF rfl rfl) <| R rfl (mv rfl) <| lSkip (gd rfl rfl rfl rfl) rfl rfl <| lSkip (gd rfl rfl rfl rfl) rfl rfl <| lSkip (gd rfl rfl rfl rfl) rfl rfl <| lSkip (gd rfl rfl rfl rfl) rfl rfl <| lSkip (gd rfl rfl rfl rfl) rfl rfl <| R rfl (pkF rfl rfl) <| R rfl (mv rfl) <| lSkip (gd rfl rfl rfl rfl) rfl rfl <| lSkip (gd rfl rfl rfl rfl) rfl rfl <| R rfl (pkF rfl rfl) <| R rfl (mv rfl) <| lSkip (gd rfl rfl rfl rfl) rfl rfl <| lSkip (gd rfl rfl rfl rfl) rfl rfl <| lSkip (gd rfl rfl rfl rfl) rfl rfl <| R rfl (pkF rfl rfl) <| R rfl (mv rfl) <| lSkip (gd rfl rfl rfl rfl) rfl rfl <| lSkip (gd rfl rfl rfl rfl) rfl rfl <| lSkip (gd rfl rfl rfl rfl) rfl rfl <| R rfl (pkF rfl rfl) <| R rfl (mv rfl) <| lSkip (gd rfl rfl rfl rfl) rfl rfl <| lSkip (gd rfl rfl rfl rfl) rfl rfl <| lSkip (gd rfl rfl rfl rfl) rfl rfl <| lSkip (gd rfl rfl rfl rfl) rfl rfl <| lSkip (gd rfl rfl rfl rfl) rfl rfl <| lSkip (gd rfl rfl rfl rfl) rfl rfl <| R rfl (pkF rfl rfl) <| R rfl (mv rfl) <| lSkip (gd rfl rfl rfl rfl) rfl rfl <| lSkip (gd rfl rfl rfl rfl) rfl rfl <| R rfl (pkF rfl rfl) <| R rfl (mv rfl) <| lSkip (gd rfl rfl rfl rfl) rfl rfl <| lSkip (gd rfl rfl rfl rfl) rfl rfl <| lSkip (gd rfl rfl rfl rfl) rfl rfl <| R rfl (pkF rfl rfl) <| R rfl (mv rfl) <| lSkip (gd rfl rfl rfl rfl) rfl rfl <| lSkip (gd rfl rfl rfl rfl) rfl rfl <| lSkip (gd rfl rfl rfl rfl) rfl rfl <| R rfl (pkF rfl rfl) <| R rfl (asg rfl) <| gNil <| eThen <| gRet <| eRet [] [] rfl (eE rfl <| eN) (rN)
                · skip
                  refine lKn 241 rfl h114 <| lKn 242 rfl h114 <| lSkip (gd rfl rfl rfl rfl) rfl rfl <| lSkip (gd rfl rfl rfl rfl) rfl rfl <| lSkip (gd rfl rfl rfl rfl) rfl rfl <| R rfl (pkF rfl rfl) <| R rfl (mv rfl) <| lSkip (gd rfl rfl rfl rfl) rfl rfl <| lSkip (gd rfl rfl rfl rfl) rfl rfl <| lSkip (gd rfl rfl rfl rfl) rfl rfl <| lSkip (gd rfl rfl rfl rfl) rfl rfl <| lSkip (gd rfl rfl rfl rfl) rfl rfl <| lSkip (gd rfl rfl rfl rfl) rfl rfl <| R rfl (pkF rfl rfl) <| R rfl (mv rfl) <| lSkip (gd rfl rfl rfl rfl) rfl rfl <| lSkip (gd rfl rfl rfl rfl) rfl rfl <| R rfl (pkF rfl rfl) <| R rfl (mv rfl) <| lSkip (gd rfl rfl rfl rfl) rfl rfl <| lSkip (gd rfl rfl rfl rfl) rfl rfl <| lSkip (gd rfl rfl rfl rfl) rfl rfl <| R rfl (pkF rfl rfl) <| R rfl (mv rfl) <| lSkip (gd rfl rfl rfl rfl) rfl rfl <| lSkip (gd rfl rfl rfl rfl) rfl rfl <| lSkip (gd rfl rfl rfl rfl) rfl rfl <| R rfl (pkF rfl rfl) <| R rfl (mv rfl) <| lSkip (gd rfl rfl rfl rfl) rfl rfl <| lSkip (gd rfl rfl rfl rfl) rfl rfl <| lSkip (gd rfl rfl rfl rfl) rfl rfl <| lSkip (gd rfl rfl rfl rfl) rfl rfl <| lSkip (gd rfl rfl rfl rfl) rfl rfl <| R rfl (pkF rfl rfl) <| R rfl (mv rfl) <| lSkip (gd rfl rfl rfl rfl) rfl rfl <| lSkip (gd rfl rfl rfl rfl) rfl rfl <| R rfl (pkF rfl rfl) <| R rfl (mv rfl) <| lSkip (gd rfl rfl rfl rfl) rfl rfl <| lSkip (gd rfl rfl rfl rfl) rfl rfl <| lSkip (gd rfl rfl rfl rfl) rfl rfl <| R rfl (pkF rfl rfl) <| R rfl (mv rfl) <| lSkip (gd rfl rfl rfl rfl) rfl rfl <| lSkip (gd rfl rfl rfl rfl) rfl rfl <| lSkip (gd rfl rfl rfl rfl) rfl rfl <| R rfl (pkF rfl rfl) <| R rfl (mv rfl) <| lSkip (gd rfl rfl rfl rfl) rfl rfl <| lSkip (gd rfl rfl rfl rfl) rfl rfl <| lSkip (gd rfl rfl rfl rfl) rfl rfl <| lSkip (gd rfl rfl rfl rfl) rfl rfl <| lSkip (gd rfl rfl rfl rfl) rfl rfl <| lSkip (gd rfl rfl rfl rfl) rfl rfl <| R rfl (pkF rfl rfl) <| R rfl (mv rfl) <| lSkip (gd rfl rfl rfl rfl) rfl rfl <| lSkip (gd rfl rfl rfl rfl) rfl rfl <| R rfl (pkF rfl rfl) <| R rfl (mv rfl) <| lSkip (gd rfl rfl rfl rfl) rfl rfl <| lSkip (gd rfl rfl rfl rfl) rfl rfl <| lSkip (gd rfl rfl rfl rfl) rfl rfl <| R rfl (pkF rfl rfl) <| R rfl (mv rfl) <| lSkip (gd rfl rfl rfl rfl) rfl rfl <| lSkip (gd rfl rfl rfl rfl) rfl rfl <| lSkip (gd rfl rfl rfl rfl) rfl rfl <| R rfl (pkF rfl rfl) <| R rfl (asg rfl) <| gNil <| eThen <| gRet <| eRet [] [] rfl (eE rfl <| eN) (rN)
              · skip
                refine lKn 236 rfl h113 <| lKn 237 rfl h113 <| lSkip (gd rfl rfl rfl rfl) rfl rfl <| lSkip (gd rfl rfl rfl rfl) rfl rfl <| lSkip (gd rfl rfl rfl rfl) rfl rfl <| R rfl (pkF rfl rfl) <| R rfl (mv rfl) <| lSkip (gd rfl rfl rfl rfl) rfl rfl <| lSkip (gd rfl rfl rfl rfl) rfl rfl <| lSkip (gd rfl rfl rfl rfl) rfl rfl <| R rfl (pkF rfl rfl) <| R rfl (mv rfl) <| lSkip (gd rfl rfl rfl rfl) rfl rfl <| lSkip (gd rfl rfl rfl rfl) rfl rfl <| lSkip (gd rfl rfl rfl rfl) rfl rfl <| lSkip (gd rfl rfl rfl rfl) rfl rfl <| lSkip (gd rfl rfl rfl rfl) rfl rfl <| lSkip (gd rfl rfl rfl rfl) rfl rfl <| R rfl (pkF rfl rfl) <| R rfl (mv rfl) <| lSkip (gd rfl rfl rfl rfl) rfl rfl <| lSkip (gd rfl rfl rfl rfl) rfl rfl <| R rfl (pkF rfl rfl) <| R rfl (mv rfl) <| lSkip (gd rfl rfl rfl rfl) rfl rfl <| lSkip (gd rfl rfl rfl rfl) rfl rfl <| lSkip (gd rfl rfl rfl rfl) rfl rfl <| R rfl (pkF rfl rfl) <| R rfl (mv rfl) <| lSkip (gd rfl rfl rfl rfl) rfl rfl <| lSkip (gd rfl rfl rfl rfl) rfl rfl <| lSkip (gd rfl rfl rfl rfl) rfl rfl <| R rfl (pkF rfl rfl) <| R rfl (mv rfl) <| lSkip (gd rfl rfl rfl rfl) rfl rfl <| lSkip (gd rfl rfl rfl rfl) rfl rfl <| lSkip (gd rfl rfl rfl rfl) rfl rfl <| lSkip (gd rfl rfl rfl rfl) rfl rfl <| lSkip (gd rfl rfl rfl rfl) rfl rfl <| R rfl (pkF rfl rfl) <| R rfl (mv rfl) <| lSkip (gd rfl rfl rfl rfl) rfl rfl <| lSkip (gd rfl rfl rfl rfl) rfl rfl <| R rfl (pkF rfl rfl) <| R rfl (mv rfl) <| lSkip (gd rfl rfl rfl rfl) rfl rfl <| lSkip (gd rfl rfl rfl rfl) rfl rfl <| lSkip (gd rfl rfl rfl rfl) rfl rfl <| R rfl (pkF rfl rfl) <| R rfl (mv rfl) <| lSkip (gd rfl rfl rfl rfl) rfl rfl <| lSkip (gd rfl rfl rfl rfl) rfl rfl <| lSkip (gd rfl rfl rfl rfl) rfl rfl <| R rfl (pkF rfl rfl) <| R rfl (mv rfl) <| lSkip (gd rfl rfl rfl rfl) rfl rfl <| lSkip (gd rfl rfl rfl rfl) rfl rfl <| lSkip (gd rfl rfl rfl rfl) rfl rfl <| lSkip (gd rfl rfl rfl rfl) rfl rfl <| lSkip (gd rfl rfl rfl rfl) rfl rfl <| lSkip (gd rfl rfl rfl rfl) rfl rfl <| R rfl (pkF rfl rfl) <| R rfl (mv rfl) <| lSkip (gd rfl rfl rfl rfl) rfl rfl <| lSkip (gd rfl rfl rfl rfl) rfl rfl <| R rfl (pkF rfl rfl) <| R rfl (mv rfl) <| lSkip (gd rfl rfl rfl rfl) rfl rfl <| lSkip (gd rfl rfl rfl rfl) rfl rfl <| lSkip (gd rfl rfl rfl rfl) rfl rfl <| R rfl (pkF rfl rfl) <| R rfl (mv rfl) <| lSkip (gd rfl rfl rfl rfl) rfl rfl <| lSkip (gd rfl rfl rfl rfl) rfl rfl <| lSkip (gd rfl rfl rfl rfl) rfl rfl <| R rfl (pkF rfl rfl) <| R rfl (asg rfl) <| gNil <| eThen <| gRet <| eRet [] [] rfl (eE rfl <| eN) (rN)
            · skip
              refine lKn 232 rfl h112 <| lKn 233 rfl h112 <| lSkip (gd rfl rfl rfl rfl) rfl rfl <| lSkip (gd rfl rfl rfl rfl) rfl rfl <| R rfl (pkF rfl rfl) <| R rfl (mv rfl) <| lSkip (gd rfl rfl rfl rfl) rfl rfl <| lSkip (gd rfl rfl rfl rfl) rfl rfl <| lSkip (gd rfl rfl rfl rfl) rfl rfl <| R rfl (pkF rfl rfl) <| R rfl (mv rfl) <| lSkip (gd rfl rfl rfl rfl) rfl rfl <| lSkip (gd rfl rfl rfl rfl) rfl rfl <| lSkip (gd rfl rfl rfl rfl) rfl rfl <| R rfl (pkF rfl rfl) <| R rfl (mv rfl) <| lSkip (gd rfl rfl rfl rfl) rfl rfl <| lSkip (gd rfl rfl rfl rfl) rfl rfl <| lSkip (gd rfl rfl rfl rfl) rfl rfl <| lSkip (gd rfl rfl rfl rfl) rfl rfl <| lSkip (gd rfl rfl rfl rfl) rfl rfl <| lSkip (gd rfl rfl rfl rfl) rfl rfl <| R rfl (pkF rfl rfl) <| R rfl (mv rfl) <| lSkip (gd rfl rfl rfl rfl) rfl rfl <| lSkip (gd rfl rfl rfl rfl) rfl rfl <| R rfl (pkF rfl rfl) <| R rfl (mv rfl) <| lSkip (gd rfl rfl rfl rfl) rfl rfl <| lSkip (gd rfl rfl rfl rfl) rfl rfl <| lSkip (gd rfl rfl rfl rfl) rfl rfl <| R rfl (pkF rfl rfl) <| R rfl (mv rfl) <| lSkip (gd rfl rfl rfl rfl) rfl rfl <| lSkip (gd rfl rfl rfl rfl) rfl rfl <| lSkip (gd rfl rfl rfl rfl) rfl rfl <| R rfl (pkF rfl rfl) <| R rfl (mv rfl) <| lSkip (gd rfl rfl rfl rfl) rfl rfl <| lSkip (gd rfl rfl rfl rfl) rfl rfl <| lSkip (gd rfl rfl rfl rfl) rfl rfl <| lSkip (gd rfl rfl rfl rfl) rfl rfl <| lSkip (gd rfl rfl rfl rfl) rfl rfl <| R rfl (pkF rfl rfl) <| R rfl (mv rfl) <| lSkip (gd rfl rfl rfl rfl) rfl rfl <| lSkip (gd rfl rfl rfl rfl) rfl rfl <| R rfl (pkF rfl rfl) <| R rfl (mv rfl) <| lSkip (gd rfl rfl rfl rfl) rfl rfl <| lSkip (gd rfl rfl rfl rfl) rfl rfl <| lSkip (gd rfl rfl rfl rfl) rfl rfl <| R rfl (pkF rfl rfl) <| R rfl (mv rfl) <| lSkip (gd rfl rfl rfl rfl) rfl rfl <| lSkip (gd rfl rfl rfl rfl) rfl rfl <| lSkip (gd rfl rfl rfl rfl) rfl rfl <| R rfl (pkF rfl rfl) <| R rfl (mv rfl) <| lSkip (gd rfl rfl rfl rfl) rfl rfl <| lSkip (gd rfl rfl rfl rfl) rfl rfl <| lSkip (gd rfl rfl rfl rfl) rfl rfl <| lSkip (gd rfl rfl rfl rfl) rfl rfl <| lSkip (gd rfl rfl rfl rfl) rfl rfl <| lSkip (gd rfl rfl rfl rfl) rfl rfl <| R rfl (pkF rfl rfl) <| R rfl (mv rfl) <| lSkip (gd rfl rfl rfl rfl) rfl rfl <| lSkip (gd rfl rfl rfl rfl) rfl rfl <| R rfl (pkF rfl rfl) <| R rfl (mv rfl) <| lSkip (gd rfl rfl rfl rfl) rfl rfl <| lSkip (gd rfl rfl rfl rfl) rfl rfl <| lSkip (gd rfl rfl rfl rfl) rfl rfl <| R rfl (pkF rfl rfl) <| R rfl (mv rfl) <| lSkip (gd rfl rfl rfl rfl) rfl rfl <| lSkip (gd rfl rfl rfl rfl) rfl rfl <| lSkip (gd rfl rfl rfl rfl) rfl rfl <| R rfl (pkF rfl rfl) <| R rfl (asg rfl) <| gNil <| eThen <| gRet <| eRet [] [] rfl (eE rfl <| eN) (rN)
          · skip
            refine lKn 227 rfl h111 <| lKn 228 rfl h111 <| lSkip (gd rfl rfl rfl rfl) rfl rfl <| lSkip (gd rfl rfl rfl rfl) rfl rfl <| lSkip (gd rfl rfl rfl rfl) rfl rfl <| R rfl (pkF rfl rfl) <| R rfl (mv rfl) <| lSkip (gd rfl rfl rfl rfl) rfl rfl <| lSkip (gd rfl rfl rfl rfl) rfl rfl <| R rfl (pkF rfl rfl) <| R rfl (mv rfl) <| lSkip (gd rfl rfl rfl rfl) rfl rfl <| lSkip (gd rfl rfl rfl rfl) rfl rfl <| lSkip (gd rfl rfl rfl rfl) rfl rfl <| R rfl (pkF rfl rfl) <| R rfl (mv rfl) <| lSkip (gd rfl rfl rfl rfl) rfl rfl <| lSkip (gd rfl rfl rfl rfl) rfl rfl <| lSkip (gd rfl rfl rfl rfl) rfl rfl <| R rfl (pkF rfl rfl) <| R rfl (mv rfl) <| lSkip (gd rfl rfl rfl rfl) rfl rfl <| lSkip (gd rfl rfl rfl rfl) rfl rfl <| lSkip (gd rfl rfl rfl rfl) rfl rfl <| lSkip (gd rfl rfl rfl rfl) rfl rfl <| lSkip (gd rfl rfl rfl rfl) rfl rfl <| lSkip (gd rfl rfl rfl rfl) rfl rfl <| R rfl (pkF rfl rfl) <| R rfl (mv rfl) <| lSkip (gd rfl rfl rfl rfl) rfl rfl <| lSkip (gd rfl rfl rfl rfl) rfl rfl <| R rfl (pkF rfl rfl) <| R rfl (mv rfl) <| lSkip (gd rfl rfl rfl rfl) rfl rfl <| lSkip (gd rfl rfl rfl rfl) rfl rfl <| lSkip (gd rfl rfl rfl rfl) rfl rfl <| R rfl (pkF rfl rfl) <| R rfl (mv rfl) <| lSkip (gd rfl rfl rfl rfl) rfl rfl <| lSkip (gd rfl rfl rfl rfl) rfl rfl <| lSkip (gd rfl rfl rfl rfl) rfl rfl <| R rfl (pkF rfl rfl) <| R rfl (mv rfl) <| lSkip (gd rfl rfl rfl rfl) rfl rfl <| lSkip (gd rfl rfl rfl rfl) rfl rfl <| lSkip (gd rfl rfl rfl rfl) rfl rfl <| lSkip (gd rfl rfl rfl rfl) rfl rfl <| lSkip (gd rfl rfl rfl rfl) rfl rfl <| R rfl (pkF rfl rfl) <| R rfl (mv rfl) <| lSkip (gd rfl rfl rfl rfl) rfl rfl <| lSkip (gd rfl rfl rfl rfl) rfl rfl <| R rfl (pkF rfl rfl) <| R rfl (mv rfl) <| lSkip (gd rfl rfl rfl rfl) rfl rfl <| lSkip (gd rfl rfl rfl rfl) rfl rfl <| lSkip (gd rfl rfl rfl rfl) rfl rfl <| R rfl (pkF rfl rfl) <| R rfl (mv rfl) <| lSkip (gd rfl rfl rfl rfl) rfl rfl <| lSkip (gd rfl rfl rfl rfl) rfl rfl <| lSkip (gd rfl rfl rfl rfl) rfl rfl <| R rfl (pkF rfl rfl) <| R rfl (mv rfl) <| lSkip (gd rfl rfl rfl rfl) rfl rfl <| lSkip (gd rfl rfl rfl rfl) rfl rfl <| lSkip (gd rfl rfl rfl rfl) rfl rfl <| lSkip (gd rfl rfl rfl rfl) rfl rfl <| lSkip (gd rfl rfl rfl rfl) rfl rfl <| lSkip (gd rfl rfl rfl rfl) rfl rfl <| R rfl (pkF rfl rfl) <| R rfl (mv rfl) <| lSkip (gd rfl rfl rfl rfl) rfl rfl <| lSkip (gd rfl rfl rfl rfl) rfl rfl <| R rfl (pkF rfl rfl) <| R rfl (mv rfl) <| lSkip (gd rfl rfl rfl rfl) rfl rfl <| lSkip (gd rfl rfl rfl rfl) rfl rfl <| lSkip (gd rfl rfl rfl rfl) rfl rfl <| R rfl (pkF rfl rfl) <| R rfl (mv rfl) <| lSkip (gd rfl rfl rfl rfl) rfl rfl <| lSkip (gd rfl rfl rfl rfl) rfl rfl <| lSkip (gd rfl rfl rfl rfl) rfl rfl <| R rfl (pkF rfl rfl) <| R rfl (asg rfl) <| gNil <| eThen <| gRet <| eRet [] [] rfl (eE rfl <| eN) (rN)
        · skip
          refine lKn 48 rfl h110 <| lKn 224 rfl h110 <| lSkip (gd rfl rfl rfl rfl) rfl rfl <| lSkip (gd rfl rfl rfl rfl) rfl rfl <| R rfl (pkF rfl rfl) <| R rfl (mv rfl) <| lSkip (gd rfl rfl rfl rfl) rfl rfl <| lSkip (gd rfl rfl rfl rfl) rfl rfl <| lSkip (gd rfl rfl rfl rfl) rfl rfl <| R rfl (pkF rfl rfl) <| R rfl (mv rfl) <| lSkip (gd rfl rfl rfl rfl) rfl rfl <| lSkip (gd rfl rfl rfl rfl) rfl rfl <| R rfl (pkF rfl rfl) <| R rfl (mv rfl) <| lSkip (gd rfl rfl rfl rfl) rfl rfl <| lSkip (gd rfl rfl rfl rfl) rfl rfl <| lSkip (gd rfl rfl rfl rfl) rfl rfl <| R rfl (pkF rfl rfl) <| R rfl (mv rfl) <| lSkip (gd rfl rfl rfl rfl) rfl rfl <| lSkip (gd rfl rfl rfl rfl) rfl rfl <| lSkip (gd rfl rfl rfl rfl) rfl rfl <| R rfl (pkF rfl rfl) <| R rfl (mv rfl) <| lSkip (gd rfl rfl rfl rfl) rfl rfl <| lSkip (gd rfl rfl rfl rfl) rfl rfl <| lSkip (gd rfl rfl rfl rfl) rfl rfl <| lSkip (gd rfl rfl rfl rfl) rfl rfl <| lSkip (gd rfl rfl rfl rfl) rfl rfl <| lSkip (gd rfl rfl rfl rfl) rfl rfl <| R rfl (pkF rfl rfl) <| R rfl (mv rfl) <| lSkip (gd rfl rfl rfl rfl) rfl rfl <| lSkip (gd rfl rfl rfl rfl) rfl rfl <| R rfl (pkF rfl rfl) <| R rfl (mv rfl) <| lSkip (gd rfl rfl rfl rfl) rfl rfl <| lSkip (gd rfl rfl rfl rfl) rfl rfl <| lSkip (gd rfl rfl rfl rfl) rfl rfl <| R rfl (pkF rfl rfl) <| R rfl (mv rfl) <| lSkip (gd rfl rfl rfl rfl) rfl rfl <| lSkip (gd rfl rfl rfl rfl) rfl rfl <| lSkip (gd rfl rfl rfl rfl) rfl rfl <| R rfl (pkF rfl rfl) <| R rfl (mv rfl) <| lSkip (gd rfl rfl rfl rfl) rfl rfl <| lSkip (gd rfl rfl rfl rfl) rfl rfl <| lSkip (gd rfl rfl rfl rfl) rfl rfl <| lSkip (gd rfl rfl rfl rfl) rfl rfl <| lSkip (gd rfl rfl rfl rfl) rfl rfl <| R rfl (pkF rfl rfl) <| R rfl (mv rfl) <| lSkip (gd rfl rfl rfl rfl) rfl rfl <| lSkip (gd rfl rfl rfl rfl) rfl rfl <| R rfl (pkF rfl rfl) <| R rfl (mv rfl) <| lSkip (gd rfl rfl rfl rfl) rfl rfl <| lSkip (gd rfl rfl rfl rfl) rfl rfl <| lSkip (gd rfl rfl rfl rfl) rfl rfl <| R rfl (pkF rfl rfl) <| R rfl (mv rfl) <| lSkip (gd rfl rfl rfl rfl) rfl rfl <| lSkip (gd rfl rfl rfl rfl) rfl rfl <| lSkip (gd rfl rfl rfl rfl) rfl rfl <| R rfl (pkF rfl rfl) <| R rfl (mv rfl) <| lSkip (gd rfl rfl rfl rfl) rfl rfl <| lSkip (gd rfl rfl rfl rfl) rfl rfl <| lSkip (gd rfl rfl rfl rfl) rfl rfl <| lSkip (gd rfl rfl rfl rfl) rfl rfl <| lSkip (gd rfl rfl rfl rfl) rfl rfl <| lSkip (gd rfl rfl rfl rfl) rfl rfl <| R rfl (pkF rfl rfl) <| R rfl (mv rfl) <| lSkip (gd rfl rfl rfl rfl) rfl rfl <| lSkip (gd rfl rfl rfl rfl) rfl rfl <| R rfl (pkF rfl rfl) <| R rfl (mv rfl) <| lSkip (gd rfl rfl rfl rfl) rfl rfl <| lSkip (gd rfl rfl rfl rfl) rfl rfl <| lSkip (gd rfl rfl rfl rfl) rfl rfl <| R rfl (pkF rfl rfl) <| R rfl (mv rfl) <| lSkip (gd rfl rfl rfl rfl) rfl rfl <| lSkip (gd rfl rfl rfl rfl) rfl rfl <| lSkip (gd rfl rfl rfl rfl) rfl rfl <| R rfl (pkF rfl rfl) <| R rfl (asg rfl) <| gNil <| eThen <| gRet <| eRet [] [] rfl (eE rfl <| eN) (rN)

end Go.Proofs.Ytklfgpdfongaeaa
