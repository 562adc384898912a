/- Functions and what the code of each does. -/
import Derived.Test.YtklfgpdfongaeaaKQ
import Derived.Test.YtklfgpdfongaeaaKB
namespace Go.Proofs.Ytklfgpdfongaeaa
open Go Go.RowKit
set_option linter.unusedSimpArgs false
set_option linter.unusedVariables false

def session_Check_1 (a0 : Int) : Option (Bool) :=
  if decide (0 ≤ a0) then
    some (decide (a0 ≤ 1000000000)) >>= fun y2 =>
    some y2
  else
    some false
set_option maxRecDepth 100000 in
theorem session_Check_1_ok (a0 : Int) : Spec Try.prog 129 [.rd i64R a0] [] (session_Check_1 a0) (fun r nv => ⟨[.rd boolR r], []⟩) := by
  refine spec 9 Try.func129 rfl rfl rfl fun H w => ?_
  refine gSeq <| gReg <| R rfl (asg rfl) <| gNil <| eThen <| gSeq <| gReg <| R rfl (mv rfl) <| R rfl (I.geq rfl rfl) <| R rfl (mv rfl) <| lSplit 5 rfl (fun h1 => ?_) (fun h1 => ?_)
  · skip
    refine lKn 4 rfl h1 <| lRun (gd rfl rfl rfl rfl) rfl rfl (mv rfl) <| lRun (gd rfl rfl rfl rfl) rfl rfl (I.leq rfl rfl) <| R rfl (pkT rfl rfl) <| R rfl (asg rfl) <| lName 2 rfl fun y2 => gNil <| eThen <| gRet <| eRet [] [] rfl (eE rfl <| eN) (rN)
  · skip
    refine lKn 4 rfl h1 <| lSkip (gd rfl rfl rfl rfl) rfl rfl <| lSkip (gd rfl rfl rfl rfl) rfl rfl <| R rfl (pkF rfl rfl) <| R rfl (asg rfl) <| gNil <| eThen <| gRet <| eRet [] [] rfl (eE rfl <| eN) (rN)


def session_Check (a0 : api_Session) : Option (Int) :=
  some (a0.State == 5) >>= fun y2 =>
  (if decide (a0.State < 1) then
    some true
  else
    if decide (5 < a0.State) then
      some true
    else
      if decide (a0.Faults < 0) then
        some true
      else
        if !y2 then
          if decide (3 ≤ a0.Faults) then
            some true
          else
            if y2 then
              if a0.Faults != 3 then
                some true
              else
                session_Check_1 a0.Frames >>= fun r11 =>
                if !r11 then
                  some true
                else
                  session_Check_1 a0.Ops >>= fun r14 =>
                  some (!r14)
            else
              session_Check_1 a0.Frames >>= fun r16 =>
              if !r16 then
                some true
              else
                session_Check_1 a0.Ops >>= fun r19 =>
                some (!r19)
        else
          if y2 then
            if a0.Faults != 3 then
              some true
            else
              session_Check_1 a0.Frames >>= fun r23 =>
              if !r23 then
                some true
              else
                session_Check_1 a0.Ops >>= fun r26 =>
                some (!r26)
          else
            session_Check_1 a0.Frames >>= fun r28 =>
            if !r28 then
              some true
            else
              session_Check_1 a0.Ops >>= fun r31 =>
              some (!r31)) >>= fun s3 =>
  if s3 then
    some 8
  else
    some 0
set_option maxRecDepth 100000 in
theorem session_Check_ok (a0 : api_Session) : Spec Try.prog 85 [.rd R_api_Session a0] [] (session_Check a0) (fun r nv => ⟨[.rd i64R r], []⟩) := by
  refine spec 52 Try.func85 rfl rfl rfl fun H w => ?_
  refine gSeq <| gReg <| Eb rfl (bx 1 rfl) fun v1 => R rfl (asg rfl) <| gNil <| eThen <| gSeq <| gReg <| R rfl (asg rfl) <| gNil <| eThen <| gSeq <| gReg <| R rfl (faB 1 rfl rfl Try.underlying66 rfl (by exact ti5)) <| R rfl (ld 1 rfl rfl ((Foc.here).part (pt_api_Session_State _)) ty5 rfl) <| R rfl (B.eql rfl rfl) <| R rfl (asg rfl) <| lName 4 rfl fun y2 => gNil <| eThen <| gSeq <| gMid (fun (s3 : Bool) aa ww => Sta (ctx 52 H [] w) [(51, .rd boolR s3)] [] aa ww) ?_ (fun s3 => ?_)
  · skip
    refine gReg <| R rfl (faB 1 rfl rfl Try.underlying66 rfl (by exact ti5)) <| R rfl (ld 1 rfl rfl ((Foc.here).part (pt_api_Session_State _)) ty5 rfl) <| R rfl (B.lss rfl rfl) <| R rfl (mv rfl) <| lSplit 11 rfl (fun h4 => ?_) (fun h4 => ?_)
    · skip
      refine lKn 10 rfl h4 <| lSkip (gd rfl rfl rfl rfl) rfl rfl <| lSkip (gd rfl rfl rfl rfl) rfl rfl <| lSkip (gd rfl rfl rfl rfl) rfl rfl <| R rfl (pkT rfl rfl) <| R rfl (mv rfl) <| lSkip (gd rfl rfl rfl rfl) rfl rfl <| lSkip (gd rfl rfl rfl rfl) rfl rfl <| lSkip (gd rfl rfl rfl rfl) rfl rfl <| R rfl (pkT rfl rfl) <| R rfl (mv rfl) <| lSkip (gd rfl rfl rfl rfl) rfl rfl <| lSkip (gd rfl rfl rfl rfl) rfl rfl <| lSkip (gd rfl rfl rfl rfl) rfl rfl <| lSkip (gdU rfl rfl rfl) rfl rfl <| lSkip (gdU rfl rfl rfl) rfl rfl <| lSkip (gdU rfl rfl rfl) rfl rfl <| lSkip (gd rfl rfl rfl rfl) rfl rfl <| R rfl (pkT rfl rfl) <| R rfl (mv rfl) <| lSkip (gd rfl rfl rfl rfl) rfl rfl <| lSkip (gd rfl rfl rfl rfl) rfl rfl <| lSkip (gdU rfl rfl rfl) rfl rfl <| lSkip (gdU rfl rfl rfl) rfl rfl <| lSkip (gdU rfl rfl rfl) rfl rfl <| lSkip (gd rfl rfl rfl rfl) rfl rfl <| R rfl (pkT rfl rfl) <| R rfl (mv rfl) <| lSkip (gd rfl rfl rfl rfl) rfl rfl <| lSkip (gd rfl rfl rfl rfl) rfl rfl <| lSkip (gd rfl rfl rfl rfl) rfl rfl <| lSkip (gd rfl rfl rfl rfl) rfl rfl <| lSkip (gd rfl rfl rfl rfl) rfl rfl <| R rfl (pkT rfl rfl) <| R rfl (mv rfl) <| lSkip (gd rfl rfl rfl rfl) rfl rfl <| lSkip (gd rfl rfl rfl rfl) rfl rfl <| lSkip (gd rfl rfl rfl rfl) rfl rfl <| lSkip (gd rfl rfl rfl rfl) rfl rfl <| lSkip (gd rfl rfl rfl rfl) rfl rfl <| R rfl (pkT rfl rfl) <| gNil <| eMid (fun aa ww h => h.sub [] (sS rfl <| sN) (rN))
    · skip
      refine lKn 10 rfl h4 <| lRun (gd rfl rfl rfl rfl) rfl rfl (faB 1 rfl rfl Try.underlying66 rfl (by exact ti5)) <| lRun (gd rfl rfl rfl rfl) rfl rfl (ld 1 rfl rfl ((Foc.here).part (pt_api_Session_State _)) ty5 rfl) <| lRun (gd rfl rfl rfl rfl) rfl rfl (B.gtr rfl rfl) <| R rfl (pkF rfl rfl) <| R rfl (mv rfl) <| lSplit 16 rfl (fun h5 => ?_) (fun h5 => ?_)
      · skip
        refine lKn 14 rfl h5 <| lKn 15 rfl h5 <| lSkip (gd rfl rfl rfl rfl) rfl rfl <| lSkip (gd rfl rfl rfl rfl) rfl rfl <| lSkip (gd rfl rfl rfl rfl) rfl rfl <| R rfl (pkT rfl rfl) <| R rfl (mv rfl) <| lSkip (gd rfl rfl rfl rfl) rfl rfl <| lSkip (gd rfl rfl rfl rfl) rfl rfl <| lSkip (gd rfl rfl rfl rfl) rfl rfl <| lSkip (gdU rfl rfl rfl) rfl rfl <| lSkip (gdU rfl rfl rfl) rfl rfl <| lSkip (gdU rfl rfl rfl) rfl rfl <| lSkip (gd rfl rfl rfl rfl) rfl rfl <| R rfl (pkT rfl rfl) <| R rfl (mv rfl) <| lSkip (gd rfl rfl rfl rfl) rfl rfl <| lSkip (gd rfl rfl rfl rfl) rfl rfl <| lSkip (gdU rfl rfl rfl) rfl rfl <| lSkip (gdU rfl rfl rfl) rfl rfl <| lSkip (gdU rfl rfl rfl) rfl rfl <| lSkip (gd rfl rfl rfl rfl) rfl rfl <| R rfl (pkT rfl rfl) <| R rfl (mv rfl) <| lSkip (gd rfl rfl rfl rfl) rfl rfl <| lSkip (gd rfl rfl rfl rfl) rfl rfl <| lSkip (gd rfl rfl rfl rfl) rfl rfl <| lSkip (gd rfl rfl rfl rfl) rfl rfl <| lSkip (gd rfl rfl rfl rfl) rfl rfl <| R rfl (pkT rfl rfl) <| R rfl (mv rfl) <| lSkip (gd rfl rfl rfl rfl) rfl rfl <| lSkip (gd rfl rfl rfl rfl) rfl rfl <| lSkip (gd rfl rfl rfl rfl) rfl rfl <| lSkip (gd rfl rfl rfl rfl) rfl rfl <| lSkip (gd rfl rfl rfl rfl) rfl rfl <| R rfl (pkT rfl rfl) <| gNil <| eMid (fun aa ww h => h.sub [] (sS rfl <| sN) (rN))
      · skip
        refine lKn 14 rfl h5 <| lKn 15 rfl h5 <| lRun (gd rfl rfl rfl rfl) rfl rfl (faB 1 rfl rfl Try.underlying66 rfl (by exact ti3)) <| lRun (gd rfl rfl rfl rfl) rfl rfl (ld 1 rfl rfl ((Foc.here).part (pt_api_Session_Faults _)) ty3 rfl) <| lRun (gd rfl rfl rfl rfl) rfl rfl (I.lss rfl rfl) <| R rfl (pkF rfl rfl) <| R rfl (mv rfl) <| lSplit 21 rfl (fun h6 => ?_) (fun h6 => ?_)
        · skip
          refine lKn 19 rfl h6 <| lKn 20 rfl h6 <| lSkip (gd rfl rfl rfl rfl) rfl rfl <| lSkip (gd rfl rfl rfl rfl) rfl rfl <| lSkip (gd rfl rfl rfl rfl) rfl rfl <| lSkip (gdU rfl rfl rfl) rfl rfl <| lSkip (gdU rfl rfl rfl) rfl rfl <| lSkip (gdU rfl rfl rfl) rfl rfl <| lSkip (gd rfl rfl rfl rfl) rfl rfl <| R rfl (pkT rfl rfl) <| R rfl (mv rfl) <| lSkip (gd rfl rfl rfl rfl) rfl rfl <| lSkip (gd rfl rfl rfl rfl) rfl rfl <| lSkip (gdU rfl rfl rfl) rfl rfl <| lSkip (gdU rfl rfl rfl) rfl rfl <| lSkip (gdU rfl rfl rfl) rfl rfl <| lSkip (gd rfl rfl rfl rfl) rfl rfl <| R rfl (pkT rfl rfl) <| R rfl (mv rfl) <| lSkip (gd rfl rfl rfl rfl) rfl rfl <| lSkip (gd rfl rfl rfl rfl) rfl rfl <| lSkip (gd rfl rfl rfl rfl) rfl rfl <| lSkip (gd rfl rfl rfl rfl) rfl rfl <| lSkip (gd rfl rfl rfl rfl) rfl rfl <| R rfl (pkT rfl rfl) <| R rfl (mv rfl) <| lSkip (gd rfl rfl rfl rfl) rfl rfl <| lSkip (gd rfl rfl rfl rfl) rfl rfl <| lSkip (gd rfl rfl rfl rfl) rfl rfl <| lSkip (gd rfl rfl rfl rfl) rfl rfl <| lSkip (gd rfl rfl rfl rfl) rfl rfl <| R rfl (pkT rfl rfl) <| gNil <| eMid (fun aa ww h => h.sub [] (sS rfl <| sN) (rN))
        · skip
          refine lKn 19 rfl h6 <| lKn 20 rfl h6 <| lRun (gd rfl rfl rfl rfl) rfl rfl (mv rfl) <| lRun (gd rfl rfl rfl rfl) rfl rfl (not' rfl) <| lRun (gd rfl rfl rfl rfl) rfl rfl (mv rfl) <| lSplit 24 rfl (fun h7 => ?_) (fun h7 => ?_)
          · skip
            refine lKn 23 rfl h7 <| lRun (gd rfl rfl rfl rfl) rfl rfl (faB 1 rfl rfl Try.underlying66 rfl (by exact ti3)) <| lRun (gd rfl rfl rfl rfl) rfl rfl (ld 1 rfl rfl ((Foc.here).part (pt_api_Session_Faults _)) ty3 rfl) <| lRun (gd rfl rfl rfl rfl) rfl rfl (I.geq rfl rfl) <| lRun (gd rfl rfl rfl rfl) rfl rfl (pkT rfl rfl) <| R rfl (pkF rfl rfl) <| R rfl (mv rfl) <| lSplit 30 rfl (fun h8 => ?_) (fun h8 => ?_)
            · skip
              refine lKn 27 rfl h8 <| lKn 28 rfl h8 <| lKn 29 rfl h8 <| lSkip (gd rfl rfl rfl rfl) rfl rfl <| lSkip (gd rfl rfl rfl rfl) rfl rfl <| lSkip (gdU rfl rfl rfl) rfl rfl <| lSkip (gdU rfl rfl rfl) rfl rfl <| lSkip (gdU rfl rfl rfl) rfl rfl <| lSkip (gd rfl rfl rfl rfl) rfl rfl <| R rfl (pkT rfl rfl) <| R rfl (mv rfl) <| lSkip (gd rfl rfl rfl rfl) rfl rfl <| lSkip (gd rfl rfl rfl rfl) rfl rfl <| lSkip (gd rfl rfl rfl rfl) rfl rfl <| lSkip (gd rfl rfl rfl rfl) rfl rfl <| lSkip (gd rfl rfl rfl rfl) rfl rfl <| R rfl (pkT rfl rfl) <| R rfl (mv rfl) <| lSkip (gd rfl rfl rfl rfl) rfl rfl <| lSkip (gd rfl rfl rfl rfl) rfl rfl <| lSkip (gd rfl rfl rfl rfl) rfl rfl <| lSkip (gd rfl rfl rfl rfl) rfl rfl <| lSkip (gd rfl rfl rfl rfl) rfl rfl <| R rfl (pkT rfl rfl) <| gNil <| eMid (fun aa ww h => h.sub [] (sS rfl <| sN) (rN))
            · skip
              refine lKn 27 rfl h8 <| lKn 28 rfl h8 <| lKn 29 rfl h8 <| lRun (gd rfl rfl rfl rfl) rfl rfl (mv rfl) <| lRun (gd rfl rfl rfl rfl) rfl rfl (mv rfl) <| lSplit 32 rfl (fun h9 => ?_) (fun h9 => ?_)
              · skip
                refine lKn 4 rfl h9 <| lKn 22 rfl h9 <| lKn 31 rfl h9 <| lRun (gd rfl rfl rfl rfl) rfl rfl (faB 1 rfl rfl Try.underlying66 rfl (by exact ti3)) <| lRun (gd rfl rfl rfl rfl) rfl rfl (ld 1 rfl rfl ((Foc.here).part (pt_api_Session_Faults _)) ty3 rfl) <| lRun (gd rfl rfl rfl rfl) rfl rfl (I.neq rfl rfl) <| lRun (gd rfl rfl rfl rfl) rfl rfl (pkT rfl rfl) <| R rfl (pkF rfl rfl) <| R rfl (mv rfl) <| lSplit 38 rfl (fun h10 => ?_) (fun h10 => ?_)
                · skip
                  refine lKn 35 rfl h10 <| lKn 36 rfl h10 <| lKn 37 rfl h10 <| lSkip (gd rfl rfl rfl rfl) rfl rfl <| lSkip (gd rfl rfl rfl rfl) rfl rfl <| lSkip (gd rfl rfl rfl rfl) rfl rfl <| lSkip (gd rfl rfl rfl rfl) rfl rfl <| lSkip (gd rfl rfl rfl rfl) rfl rfl <| R rfl (pkT rfl rfl) <| R rfl (mv rfl) <| lSkip (gd rfl rfl rfl rfl) rfl rfl <| lSkip (gd rfl rfl rfl rfl) rfl rfl <| lSkip (gd rfl rfl rfl rfl) rfl rfl <| lSkip (gd rfl rfl rfl rfl) rfl rfl <| lSkip (gd rfl rfl rfl rfl) rfl rfl <| R rfl (pkT rfl rfl) <| gNil <| eMid (fun aa ww h => h.sub [] (sS rfl <| sN) (rN))
                · skip
                  refine lKn 35 rfl h10 <| lKn 36 rfl h10 <| lKn 37 rfl h10 <| lRun (gd rfl rfl rfl rfl) rfl rfl (mv rfl) <| lRun (gd rfl rfl rfl rfl) rfl rfl (faB 1 rfl rfl Try.underlying66 rfl (by exact ti3)) <| lRun (gd rfl rfl rfl rfl) rfl rfl (ld 1 rfl rfl ((Foc.here).part (pt_api_Session_Frames _)) ty3 rfl) <| callv [] [] (gd rfl rfl rfl rfl) rfl rfl Try.func129 rfl rfl (session_Check_1_ok _) (aQ rfl <| aN) (cN) rN fun r11 n12 => lRun (gd rfl rfl rfl rfl) rfl rfl (not' rfl) <| R rfl (pkF rfl rfl) <| R rfl (mv rfl) <| lSplit 45 rfl (fun h13 => ?_) (fun h13 => ?_)
                  · skip
                    refine lKn 43 rfl h13 <| lKn 44 rfl h13 <| lSkip (gd rfl rfl rfl rfl) rfl rfl <| lSkip (gd rfl rfl rfl rfl) rfl rfl <| lSkip (gd rfl rfl rfl rfl) rfl rfl <| lSkip (gd rfl rfl rfl rfl) rfl rfl <| lSkip (gd rfl rfl rfl rfl) rfl rfl <| R rfl (pkT rfl rfl) <| gNil <| eMid (fun aa ww h => h.sub [] (sS rfl <| sN) (rN))
                  · skip
                    refine lKn 43 rfl h13 <| lKn 44 rfl h13 <| lRun (gd rfl rfl rfl rfl) rfl rfl (mv rfl) <| lRun (gd rfl rfl rfl rfl) rfl rfl (faB 1 rfl rfl Try.underlying66 rfl (by exact ti3)) <| lRun (gd rfl rfl rfl rfl) rfl rfl (ld 1 rfl rfl ((Foc.here).part (pt_api_Session_Ops _)) ty3 rfl) <| callv [] [] (gd rfl rfl rfl rfl) rfl rfl Try.func129 rfl rfl (session_Check_1_ok _) (aQ rfl <| aN) (cN) rN fun r14 n15 => lRun (gd rfl rfl rfl rfl) rfl rfl (not' rfl) <| R rfl (pkF rfl rfl) <| gNil <| eMid (fun aa ww h => h.sub [] (sS rfl <| sN) (rN))
              · skip
                refine lKn 4 rfl h9 <| lKn 22 rfl h9 <| lKn 31 rfl h9 <| lSkip (gd rfl rfl rfl rfl) rfl rfl <| lSkip (gd rfl rfl rfl rfl) rfl rfl <| lSkip (gd rfl rfl rfl rfl) rfl rfl <| lRun (gd rfl rfl rfl rfl) rfl rfl (pkF rfl rfl) <| R rfl (pkF rfl rfl) <| R rfl (mv rfl) <| lRun (gd rfl rfl rfl rfl) rfl rfl (mv rfl) <| lRun (gd rfl rfl rfl rfl) rfl rfl (faB 1 rfl rfl Try.underlying66 rfl (by exact ti3)) <| lRun (gd rfl rfl rfl rfl) rfl rfl (ld 1 rfl rfl ((Foc.here).part (pt_api_Session_Frames _)) ty3 rfl) <| callv [] [] (gd rfl rfl rfl rfl) rfl rfl Try.func129 rfl rfl (session_Check_1_ok _) (aQ rfl <| aN) (cN) rN fun r16 n17 => lRun (gd rfl rfl rfl rfl) rfl rfl (not' rfl) <| R rfl (pkF rfl rfl) <| R rfl (mv rfl) <| lSplit 45 rfl (fun h18 => ?_) (fun h18 => ?_)
                · skip
                  refine lKn 43 rfl h18 <| lKn 44 rfl h18 <| lSkip (gd rfl rfl rfl rfl) rfl rfl <| lSkip (gd rfl rfl rfl rfl) rfl rfl <| lSkip (gd rfl rfl rfl rfl) rfl rfl <| lSkip (gd rfl rfl rfl rfl) rfl rfl <| lSkip (gd rfl rfl rfl rfl) rfl rfl <| R rfl (pkT rfl rfl) <| gNil <| eMid (fun aa ww h => h.sub [] (sS rfl <| sN) (rN))
                · skip
                  refine lKn 43 rfl h18 <| lKn 44 rfl h18 <| lRun (gd rfl rfl rfl rfl) rfl rfl (mv rfl) <| lRun (gd rfl rfl rfl rfl) rfl rfl (faB 1 rfl rfl Try.underlying66 rfl (by exact ti3)) <| lRun (gd rfl rfl rfl rfl) rfl rfl (ld 1 rfl rfl ((Foc.here).part (pt_api_Session_Ops _)) ty3 rfl) <| callv [] [] (gd rfl rfl rfl rfl) rfl rfl Try.func129 rfl rfl (session_Check_1_ok _) (aQ rfl <| aN) (cN) rN fun r19 n20 => lRun (gd rfl rfl rfl rfl) rfl rfl (not' rfl) <| R rfl (pkF rfl rfl) <| gNil <| eMid (fun aa ww h => h.sub [] (sS rfl <| sN) (rN))
          · skip
            refine lKn 23 rfl h7 <| lSkip (gd rfl rfl rfl rfl) rfl rfl <| lSkip (gd rfl rfl rfl rfl) rfl rfl <| lSkip (gd rfl rfl rfl rfl) rfl rfl <| lRun (gd rfl rfl rfl rfl) rfl rfl (pkF rfl rfl) <| R rfl (pkF rfl rfl) <| R rfl (mv rfl) <| lRun (gd rfl rfl rfl rfl) rfl rfl (mv rfl) <| lRun (gd rfl rfl rfl rfl) rfl rfl (mv rfl) <| lSplit 32 rfl (fun h21 => ?_) (fun h21 => ?_)
            · skip
              refine lKn 4 rfl h21 <| lKn 22 rfl h21 <| lKn 31 rfl h21 <| lRun (gd rfl rfl rfl rfl) rfl rfl (faB 1 rfl rfl Try.underlying66 rfl (by exact ti3)) <| lRun (gd rfl rfl rfl rfl) rfl rfl (ld 1 rfl rfl ((Foc.here).part (pt_api_Session_Faults _)) ty3 rfl) <| lRun (gd rfl rfl rfl rfl) rfl rfl (I.neq rfl rfl) <| lRun (gd rfl rfl rfl rfl) rfl rfl (pkT rfl rfl) <| R rfl (pkF rfl rfl) <| R rfl (mv rfl) <| lSplit 38 rfl (fun h22 => ?_) (fun h22 => ?_)
              · skip
                refine lKn 35 rfl h22 <| lKn 36 rfl h22 <| lKn 37 rfl h22 <| lSkip (gd rfl rfl rfl rfl) rfl rfl <| lSkip (gd rfl rfl rfl rfl) rfl rfl <| lSkip (gd rfl rfl rfl rfl) rfl rfl <| lSkip (gd rfl rfl rfl rfl) rfl rfl <| lSkip (gd rfl rfl rfl rfl) rfl rfl <| R rfl (pkT rfl rfl) <| R rfl (mv rfl) <| lSkip (gd rfl rfl rfl rfl) rfl rfl <| lSkip (gd rfl rfl rfl rfl) rfl rfl <| lSkip (gd rfl rfl rfl rfl) rfl rfl <| lSkip (gd rfl rfl rfl rfl) rfl rfl <| lSkip (gd rfl rfl rfl rfl) rfl rfl <| R rfl (pkT rfl rfl) <| gNil <| eMid (fun aa ww h => h.sub [] (sS rfl <| sN) (rN))
              · skip
                refine lKn 35 rfl h22 <| lKn 36 rfl h22 <| lKn 37 rfl h22 <| lRun (gd rfl rfl rfl rfl) rfl rfl (mv rfl) <| lRun (gd rfl rfl rfl rfl) rfl rfl (faB 1 rfl rfl Try.underlying66 rfl (by exact ti3)) <| lRun (gd rfl rfl rfl rfl) rfl rfl (ld 1 rfl rfl ((Foc.here).part (pt_api_Session_Frames _)) ty3 rfl) <| callv [] [] (gd rfl rfl rfl rfl) rfl rfl Try.func129 rfl rfl (session_Check_1_ok _) (aQ rfl <| aN) (cN) rN fun r23 n24 => lRun (gd rfl rfl rfl rfl) rfl rfl (not' rfl) <| R rfl (pkF rfl rfl) <| R rfl (mv rfl) <| lSplit 45 rfl (fun h25 => ?_) (fun h25 => ?_)
                · skip
                  refine lKn 43 rfl h25 <| lKn 44 rfl h25 <| lSkip (gd rfl rfl rfl rfl) rfl rfl <| lSkip (gd rfl rfl rfl rfl) rfl rfl <| lSkip (gd rfl rfl rfl rfl) rfl rfl <| lSkip (gd rfl rfl rfl rfl) rfl rfl <| lSkip (gd rfl rfl rfl rfl) rfl rfl <| R rfl (pkT rfl rfl) <| gNil <| eMid (fun aa ww h => h.sub [] (sS rfl <| sN) (rN))
                · skip
                  refine lKn 43 rfl h25 <| lKn 44 rfl h25 <| lRun (gd rfl rfl rfl rfl) rfl rfl (mv rfl) <| lRun (gd rfl rfl rfl rfl) rfl rfl (faB 1 rfl rfl Try.underlying66 rfl (by exact ti3)) <| lRun (gd rfl rfl rfl rfl) rfl rfl (ld 1 rfl rfl ((Foc.here).part (pt_api_Session_Ops _)) ty3 rfl) <| callv [] [] (gd rfl rfl rfl rfl) rfl rfl Try.func129 rfl rfl (session_Check_1_ok _) (aQ rfl <| aN) (cN) rN fun r26 n27 => lRun (gd rfl rfl rfl rfl) rfl rfl (not' rfl) <| R rfl (pkF rfl rfl) <| gNil <| eMid (fun aa ww h => h.sub [] (sS rfl <| sN) (rN))
            · skip
              refine lKn 4 rfl h21 <| lKn 22 rfl h21 <| lKn 31 rfl h21 <| lSkip (gd rfl rfl rfl rfl) rfl rfl <| lSkip (gd rfl rfl rfl rfl) rfl rfl <| lSkip (gd rfl rfl rfl rfl) rfl rfl <| lRun (gd rfl rfl rfl rfl) rfl rfl (pkF rfl rfl) <| R rfl (pkF rfl rfl) <| R rfl (mv rfl) <| lRun (gd rfl rfl rfl rfl) rfl rfl (mv rfl) <| lRun (gd rfl rfl rfl rfl) rfl rfl (faB 1 rfl rfl Try.underlying66 rfl (by exact ti3)) <| lRun (gd rfl rfl rfl rfl) rfl rfl (ld 1 rfl rfl ((Foc.here).part (pt_api_Session_Frames _)) ty3 rfl) <| callv [] [] (gd rfl rfl rfl rfl) rfl rfl Try.func129 rfl rfl (session_Check_1_ok _) (aQ rfl <| aN) (cN) rN fun r28 n29 => lRun (gd rfl rfl rfl rfl) rfl rfl (not' rfl) <| R rfl (pkF rfl rfl) <| R rfl (mv rfl) <| lSplit 45 rfl (fun h30 => ?_) (fun h30 => ?_)
              · skip
                refine lKn 43 rfl h30 <| lKn 44 rfl h30 <| lSkip (gd rfl rfl rfl rfl) rfl rfl <| lSkip (gd rfl rfl rfl rfl) rfl rfl <| lSkip (gd rfl rfl rfl rfl) rfl rfl <| lSkip (gd rfl rfl rfl rfl) rfl rfl <| lSkip (gd rfl rfl rfl rfl) rfl rfl <| R rfl (pkT rfl rfl) <| gNil <| eMid (fun aa ww h => h.sub [] (sS rfl <| sN) (rN))
              · skip
                refine lKn 43 rfl h30 <| lKn 44 rfl h30 <| lRun (gd rfl rfl rfl rfl) rfl rfl (mv rfl) <| lRun (gd rfl rfl rfl rfl) rfl rfl (faB 1 rfl rfl Try.underlying66 rfl (by exact ti3)) <| lRun (gd rfl rfl rfl rfl) rfl rfl (ld 1 rfl rfl ((Foc.here).part (pt_api_Session_Ops _)) ty3 rfl) <| callv [] [] (gd rfl rfl rfl rfl) rfl rfl Try.func129 rfl rfl (session_Check_1_ok _) (aQ rfl <| aN) (cN) rN fun r31 n32 => lRun (gd rfl rfl rfl rfl) rfl rfl (not' rfl) <| R rfl (pkF rfl rfl) <| gNil <| eMid (fun aa ww h => h.sub [] (sS rfl <| sN) (rN))
  · skip
    refine gIf rfl rfl (fun h33 => ?_) (fun h33 => ?_)
    · skip
      refine gSeq <| gReg <| R rfl (asg rfl) <| gNil <| eThen <| gRet <| eTret <| eRet [] [] rfl (eE rfl <| eN) (rN)
    · skip
      refine gSkip <| eThen <| gSeq <| gReg <| R rfl (asg rfl) <| gNil <| eThen <| gRet <| eRet [] [] rfl (eE rfl <| eN) (rN)


def session_over (a0 : api_Session) : Option (Bool) :=
  some (decide (4 ≤ a0.State)) >>= fun y2 =>
  some y2
set_option maxRecDepth 100000 in
theorem session_over_ok (a0 : api_Session) : Spec Try.prog 109 [.rd R_api_Session a0] [] (session_over a0) (fun r nv => ⟨[.rd boolR r], []⟩) := by
  refine spec 6 Try.func109 rfl rfl rfl fun H w => ?_
  refine gSeq <| gReg <| Eb rfl (bx 1 rfl) fun v1 => R rfl (asg rfl) <| gNil <| eThen <| gSeq <| gReg <| R rfl (faB 1 rfl rfl Try.underlying66 rfl (by exact ti5)) <| R rfl (ld 1 rfl rfl ((Foc.here).part (pt_api_Session_State _)) ty5 rfl) <| R rfl (B.geq rfl rfl) <| R rfl (asg rfl) <| lName 2 rfl fun y2 => gNil <| eThen <| gRet <| eRet [] [] rfl (eE rfl <| eN) (rN)


def session_bye (a0 : api_Session) (a1 : UInt8) (a2 : UInt64) : Option (api_Session × (List api_Doing) × Int) :=
  some ({ a0 with State := a1 }, [(⟨1, (⟨6, a2, [], []⟩ : api_Frame)⟩ : api_Doing), (⟨6, (⟨0, 0, [], []⟩ : api_Frame)⟩ : api_Doing)], 0)
set_option maxRecDepth 100000 in
theorem session_bye_ok (a0 : api_Session) (a1 : UInt8) (a2 : UInt64) : Spec Try.prog 110 [.rd R_api_Session a0, .rd u8R a1, .rd u64R a2] [] (session_bye a0 a1 a2) (fun r nv => ⟨[.rd R_api_Session r.1, .val (nv 0), .rd i64R r.2.2], [(100, some (nv 0, .list R_api_Doing 136 r.2.1))]⟩) := by
  refine spec 17 Try.func110 rfl rfl rfl fun H w => ?_
  refine gSeq <| gReg <| Eb rfl (bx 1 rfl) fun v1 => Eb rfl (allc 2 ti66 (.zr zr66)) fun v2 => R rfl (asg rfl) <| R rfl (asg rfl) <| gNil <| eThen <| gSeq <| gReg <| R rfl (mv rfl) <| R rfl (faB 1 rfl rfl Try.underlying66 rfl (by exact ti5)) <| Es (sto 1 rfl rfl ((Foc.here).part (pt_api_Session_State _)) rfl ti5) <| gNil <| eThen <| gSeq <| gReg <| R rfl (ld 1 rfl rfl Foc.here ty66 rfl) <| R rfl (mv rfl) <| R rfl (bld (x' := (⟨6, a2, [], []⟩ : api_Frame)) [(0, 1), (1, 1), (2, 1), (3, 1)] Try.underlying105 ti105 rfl zr105 rfl (Bld.cons (pt_api_Frame_Kind _) rfl rfl <| Bld.cons (pt_api_Frame_N _) rfl rfl <| Bld.done rfl)) <| R rfl (bld (x' := (⟨1, (⟨6, a2, [], []⟩ : api_Frame)⟩ : api_Doing)) [(0, 1), (1, 4)] Try.underlying136 ti136 rfl zr136 rfl (Bld.cons (pt_api_Doing_Kind _) rfl rfl <| Bld.cons (pt_api_Doing_Frame _) rfl rfl <| Bld.done rfl)) <| R rfl (bld (x' := (⟨6, (⟨0, 0, [], []⟩ : api_Frame)⟩ : api_Doing)) [(0, 1), (1, 4)] Try.underlying136 ti136 rfl zr136 rfl (Bld.cons (pt_api_Doing_Kind _) rfl rfl <| Bld.done rfl)) <| Ef rfl (lit ([(⟨1, (⟨6, a2, [], []⟩ : api_Frame)⟩ : api_Doing), (⟨6, (⟨0, 0, [], []⟩ : api_Frame)⟩ : api_Doing)] : List api_Doing) 3 (pP rfl rfl <| pP rfl rfl <| pN) rfl Try.underlying67 ti136 rfl rfl) fun v3 => Es (sto 2 rfl rfl Foc.here rfl ti66) <| R rfl (asg rfl) <| R rfl (asg rfl) <| gNil <| eThen <| gRet <| eRet [v3] [3] rfl (eC 2 rfl rfl ty66 <| eE rfl <| eE rfl <| eN) (rR rfl rfl <| rN)


def session_Broken (a0 : api_Session) : Option (api_Session × (List api_Doing) × Int) :=
  session_Check a0 >>= fun r3 =>
  if r3 != 0 then
    some ((⟨0, 0, 0, 0⟩ : api_Session), [], r3)
  else
    session_over a0 >>= fun r6 =>
    if r6 then
      some (a0, [], 0)
    else
      if (({ a0 with Faults := w64 (a0.Faults + 1) }).Faults) == 3 then
        session_bye ({ a0 with Faults := w64 (a0.Faults + 1) }) 5 3 >>= fun r10 =>
        some (r10.1, r10.2.1, r10.2.2)
      else
        some ({ a0 with Faults := w64 (a0.Faults + 1) }, [], 0)
set_option maxRecDepth 100000 in
theorem session_Broken_ok (a0 : api_Session) : Spec Try.prog 49 [.rd R_api_Session a0] [] (session_Broken a0) (fun r nv => ⟨[.rd R_api_Session r.1, .val (nv 0), .rd i64R r.2.2], [(100, some (nv 0, .list R_api_Doing 136 r.2.1))]⟩) := by
  refine spec 28 Try.func49 rfl rfl rfl fun H w => ?_
  refine gSeq <| gReg <| Eb rfl (bx 1 rfl) fun v1 => Eb rfl (allc 2 ti66 (.zr zr66)) fun v2 => R rfl (asg rfl) <| R rfl (asg rfl) <| gNil <| eThen <| gSeq <| gSeq <| gReg <| R rfl (ld 1 rfl rfl Foc.here ty66 rfl) <| call [] [] rfl Try.func85 rfl rfl (session_Check_ok _) (aQ rfl <| aN) rN fun r3 n4 => R rfl (asg rfl) <| gNil <| eThen <| gSeq <| gReg <| R rfl (mv rfl) <| R rfl (I.neq rfl rfl) <| gNil <| eThen <| gIf rfl rfl (fun h5 => ?_) (fun h5 => ?_)
  · skip
    refine gSeq <| gReg <| R rfl (bld (x' := (⟨0, 0, 0, 0⟩ : api_Session)) [(0, 1), (1, 1), (2, 1), (3, 1)] Try.underlying66 ti66 rfl zr66 rfl (Bld.done rfl)) <| R rfl (mv rfl) <| Es (sto 2 rfl rfl Foc.here rfl ti66) <| R rfl (asg rfl) <| R rfl (asg rfl) <| gNil <| eThen <| gRet <| eTret <| eNew R_api_Doing 136 3 <| eRet [(.slice none 0 0)] [3] rfl (eC 2 rfl rfl ty66 <| eE rfl <| eE rfl <| eN) (rR rfl rfl <| rN)
  · skip
    refine gSkip <| eThen <| gSeq <| gSeq <| gReg <| R rfl (ld 1 rfl rfl Foc.here ty66 rfl) <| call [] [] rfl Try.func109 rfl rfl (session_over_ok _) (aQ rfl <| aN) rN fun r6 n7 => gNil <| eThen <| gIf rfl rfl (fun h8 => ?_) (fun h8 => ?_)
    · skip
      refine gSeq <| gReg <| R rfl (ld 1 rfl rfl Foc.here ty66 rfl) <| Es (sto 2 rfl rfl Foc.here rfl ti66) <| R rfl (asg rfl) <| R rfl (asg rfl) <| gNil <| eThen <| gRet <| eTret <| eNew R_api_Doing 136 4 <| eRet [(.slice none 0 0)] [4] rfl (eC 2 rfl rfl ty66 <| eE rfl <| eE rfl <| eN) (rR rfl rfl <| rN)
    · skip
      refine gSkip <| eThen <| gSeq <| gReg <| R rfl (faB 1 rfl rfl Try.underlying66 rfl (by exact ti3)) <| R rfl (ld 1 rfl rfl ((Foc.here).part (pt_api_Session_Faults _)) ty3 rfl) <| R rfl (I.add rfl rfl) <| R rfl (faB 1 rfl rfl Try.underlying66 rfl (by exact ti3)) <| Es (sto 1 rfl rfl ((Foc.here).part (pt_api_Session_Faults _)) rfl ti3) <| gNil <| eThen <| gSeq <| gSeq <| gReg <| R rfl (faB 1 rfl rfl Try.underlying66 rfl (by exact ti3)) <| R rfl (ld 1 rfl rfl ((Foc.here).part (pt_api_Session_Faults _)) ty3 rfl) <| R rfl (I.eql rfl rfl) <| gNil <| eThen <| gIf rfl rfl (fun h9 => ?_) (fun h9 => ?_)
      · skip
        refine gSeq <| gReg <| R rfl (ld 1 rfl rfl Foc.here ty66 rfl) <| call [] [(100, 5)] rfl Try.func110 rfl rfl (session_bye_ok _ _ _) (aQ rfl <| aQ rfl <| aQ rfl <| aN) rN fun r10 n11 => R rfl (ext rfl rfl) <| R rfl (ext rfl rfl) <| R rfl (ext rfl rfl) <| Es (sto 2 rfl rfl Foc.here rfl ti66) <| R rfl (asg rfl) <| R rfl (asg rfl) <| gNil <| eThen <| gRet <| eTret <| eRet [(n11 0)] [5] rfl (eC 2 rfl rfl ty66 <| eE rfl <| eE rfl <| eN) (rR rfl rfl <| rN)
      · skip
        refine gSkip <| eThen <| gSeq <| gReg <| R rfl (ld 1 rfl rfl Foc.here ty66 rfl) <| Es (sto 2 rfl rfl Foc.here rfl ti66) <| R rfl (asg rfl) <| R rfl (asg rfl) <| gNil <| eThen <| gRet <| eNew R_api_Doing 136 6 <| eRet [(.slice none 0 0)] [6] rfl (eC 2 rfl rfl ty66 <| eE rfl <| eE rfl <| eN) (rR rfl rfl <| rN)


def braidref25_Check (a0 : api_Session) : Option (Int) :=
  (if decide (a0.State < 1) then
    some true
  else
    if decide (5 < a0.State) then
      some true
    else
      if decide (a0.Faults < 0) then
        some true
      else
        if decide (3 < a0.Faults) then
          some true
        else
          some ((a0.Faults == 3) != (a0.State == 5))) >>= fun s2 =>
  if s2 then
    some 8
  else
    (if decide (a0.Frames < 0) then
      some true
    else
      if decide (1000000000 < a0.Frames) then
        some true
      else
        if decide (a0.Ops < 0) then
          some true
        else
          some (decide (1000000000 < a0.Ops))) >>= fun s8 =>
    if s8 then
      some 8
    else
      some 0
set_option maxRecDepth 100000 in
theorem braidref25_Check_ok (a0 : api_Session) : Spec Try.prog 86 [.rd R_api_Session a0] [] (braidref25_Check a0) (fun r nv => ⟨[.rd i64R r], []⟩) := by
  refine spec 48 Try.func86 rfl rfl rfl fun H w => ?_
  refine gSeq <| gReg <| Eb rfl (bx 1 rfl) fun v1 => R rfl (asg rfl) <| gNil <| eThen <| gSeq <| gMid (fun (s2 : Bool) aa ww => Sta (ctx 48 H [] w) [(1, .val (ptrTo v1 0)), (29, .rd boolR s2)] [(1, some (v1, .box 66 [.rd R_api_Session a0]))] aa ww) ?_ (fun s2 => ?_)
  · skip
    refine gReg <| R rfl (faB 1 rfl rfl Try.underlying66 rfl (by exact ti5)) <| R rfl (ld 1 rfl rfl ((Foc.here).part (pt_api_Session_State _)) ty5 rfl) <| R rfl (B.lss rfl rfl) <| R rfl (mv rfl) <| lSplit 6 rfl (fun h3 => ?_) (fun h3 => ?_)
    · skip
      refine lKn 5 rfl h3 <| lSkip (gd rfl rfl rfl rfl) rfl rfl <| lSkip (gd rfl rfl rfl rfl) rfl rfl <| lSkip (gd rfl rfl rfl rfl) rfl rfl <| R rfl (pkT rfl rfl) <| R rfl (mv rfl) <| lSkip (gd rfl rfl rfl rfl) rfl rfl <| lSkip (gd rfl rfl rfl rfl) rfl rfl <| lSkip (gd rfl rfl rfl rfl) rfl rfl <| R rfl (pkT rfl rfl) <| R rfl (mv rfl) <| lSkip (gd rfl rfl rfl rfl) rfl rfl <| lSkip (gd rfl rfl rfl rfl) rfl rfl <| lSkip (gd rfl rfl rfl rfl) rfl rfl <| R rfl (pkT rfl rfl) <| R rfl (mv rfl) <| lSkip (gd rfl rfl rfl rfl) rfl rfl <| lSkip (gd rfl rfl rfl rfl) rfl rfl <| lSkip (gd rfl rfl rfl rfl) rfl rfl <| lSkip (gd rfl rfl rfl rfl) rfl rfl <| lSkip (gd rfl rfl rfl rfl) rfl rfl <| lSkip (gd rfl rfl rfl rfl) rfl rfl <| lSkip (gd rfl rfl rfl rfl) rfl rfl <| R rfl (pkT rfl rfl) <| gNil <| eMid (fun aa ww h => h.sub [1] (sS rfl <| sS rfl <| sN) (rR rfl rfl <| rN))
    · skip
      refine lKn 5 rfl h3 <| lRun (gd rfl rfl rfl rfl) rfl rfl (faB 1 rfl rfl Try.underlying66 rfl (by exact ti5)) <| lRun (gd rfl rfl rfl rfl) rfl rfl (ld 1 rfl rfl ((Foc.here).part (pt_api_Session_State _)) ty5 rfl) <| lRun (gd rfl rfl rfl rfl) rfl rfl (B.gtr rfl rfl) <| R rfl (pkF rfl rfl) <| R rfl (mv rfl) <| lSplit 11 rfl (fun h4 => ?_) (fun h4 => ?_)
      · skip
        refine lKn 9 rfl h4 <| lKn 10 rfl h4 <| lSkip (gd rfl rfl rfl rfl) rfl rfl <| lSkip (gd rfl rfl rfl rfl) rfl rfl <| lSkip (gd rfl rfl rfl rfl) rfl rfl <| R rfl (pkT rfl rfl) <| R rfl (mv rfl) <| lSkip (gd rfl rfl rfl rfl) rfl rfl <| lSkip (gd rfl rfl rfl rfl) rfl rfl <| lSkip (gd rfl rfl rfl rfl) rfl rfl <| R rfl (pkT rfl rfl) <| R rfl (mv rfl) <| lSkip (gd rfl rfl rfl rfl) rfl rfl <| lSkip (gd rfl rfl rfl rfl) rfl rfl <| lSkip (gd rfl rfl rfl rfl) rfl rfl <| lSkip (gd rfl rfl rfl rfl) rfl rfl <| lSkip (gd rfl rfl rfl rfl) rfl rfl <| lSkip (gd rfl rfl rfl rfl) rfl rfl <| lSkip (gd rfl rfl rfl rfl) rfl rfl <| R rfl (pkT rfl rfl) <| gNil <| eMid (fun aa ww h => h.sub [1] (sS rfl <| sS rfl <| sN) (rR rfl rfl <| rN))
      · skip
        refine lKn 9 rfl h4 <| lKn 10 rfl h4 <| lRun (gd rfl rfl rfl rfl) rfl rfl (faB 1 rfl rfl Try.underlying66 rfl (by exact ti3)) <| lRun (gd rfl rfl rfl rfl) rfl rfl (ld 1 rfl rfl ((Foc.here).part (pt_api_Session_Faults _)) ty3 rfl) <| lRun (gd rfl rfl rfl rfl) rfl rfl (I.lss rfl rfl) <| R rfl (pkF rfl rfl) <| R rfl (mv rfl) <| lSplit 16 rfl (fun h5 => ?_) (fun h5 => ?_)
        · skip
          refine lKn 14 rfl h5 <| lKn 15 rfl h5 <| lSkip (gd rfl rfl rfl rfl) rfl rfl <| lSkip (gd rfl rfl rfl rfl) rfl rfl <| lSkip (gd rfl rfl rfl rfl) rfl rfl <| R rfl (pkT rfl rfl) <| R rfl (mv rfl) <| lSkip (gd rfl rfl rfl rfl) rfl rfl <| lSkip (gd rfl rfl rfl rfl) rfl rfl <| lSkip (gd rfl rfl rfl rfl) rfl rfl <| lSkip (gd rfl rfl rfl rfl) rfl rfl <| lSkip (gd rfl rfl rfl rfl) rfl rfl <| lSkip (gd rfl rfl rfl rfl) rfl rfl <| lSkip (gd rfl rfl rfl rfl) rfl rfl <| R rfl (pkT rfl rfl) <| gNil <| eMid (fun aa ww h => h.sub [1] (sS rfl <| sS rfl <| sN) (rR rfl rfl <| rN))
        · skip
          refine lKn 14 rfl h5 <| lKn 15 rfl h5 <| lRun (gd rfl rfl rfl rfl) rfl rfl (faB 1 rfl rfl Try.underlying66 rfl (by exact ti3)) <| lRun (gd rfl rfl rfl rfl) rfl rfl (ld 1 rfl rfl ((Foc.here).part (pt_api_Session_Faults _)) ty3 rfl) <| lRun (gd rfl rfl rfl rfl) rfl rfl (I.gtr rfl rfl) <| R rfl (pkF rfl rfl) <| R rfl (mv rfl) <| lSplit 21 rfl (fun h6 => ?_) (fun h6 => ?_)
          · skip
            refine lKn 19 rfl h6 <| lKn 20 rfl h6 <| lSkip (gd rfl rfl rfl rfl) rfl rfl <| lSkip (gd rfl rfl rfl rfl) rfl rfl <| lSkip (gd rfl rfl rfl rfl) rfl rfl <| lSkip (gd rfl rfl rfl rfl) rfl rfl <| lSkip (gd rfl rfl rfl rfl) rfl rfl <| lSkip (gd rfl rfl rfl rfl) rfl rfl <| lSkip (gd rfl rfl rfl rfl) rfl rfl <| R rfl (pkT rfl rfl) <| gNil <| eMid (fun aa ww h => h.sub [1] (sS rfl <| sS rfl <| sN) (rR rfl rfl <| rN))
          · skip
            refine lKn 19 rfl h6 <| lKn 20 rfl h6 <| lRun (gd rfl rfl rfl rfl) rfl rfl (faB 1 rfl rfl Try.underlying66 rfl (by exact ti3)) <| lRun (gd rfl rfl rfl rfl) rfl rfl (ld 1 rfl rfl ((Foc.here).part (pt_api_Session_Faults _)) ty3 rfl) <| lRun (gd rfl rfl rfl rfl) rfl rfl (I.eql rfl rfl) <| lRun (gd rfl rfl rfl rfl) rfl rfl (faB 1 rfl rfl Try.underlying66 rfl (by exact ti5)) <| lRun (gd rfl rfl rfl rfl) rfl rfl (ld 1 rfl rfl ((Foc.here).part (pt_api_Session_State _)) ty5 rfl) <| lRun (gd rfl rfl rfl rfl) rfl rfl (B.eql rfl rfl) <| lRun (gd rfl rfl rfl rfl) rfl rfl (neB Try.underlying4 rfl rfl) <| R rfl (pkF rfl rfl) <| gNil <| eMid (fun aa ww h => h.sub [1] (sS rfl <| sS rfl <| sN) (rR rfl rfl <| rN))
  · skip
    refine gIf rfl rfl (fun h7 => ?_) (fun h7 => ?_)
    · skip
      refine gSeq <| gReg <| R rfl (asg rfl) <| gNil <| eThen <| gRet <| eTret <| eRet [] [] rfl (eE rfl <| eN) (rN)
    · skip
      refine gSkip <| eThen <| gSeq <| gMid (fun (s8 : Bool) aa ww => Sta (ctx 48 H [] w) [(47, .rd boolR s8)] [] aa ww) ?_ (fun s8 => ?_)
      · skip
        refine gReg <| R rfl (faB 1 rfl rfl Try.underlying66 rfl (by exact ti3)) <| R rfl (ld 1 rfl rfl ((Foc.here).part (pt_api_Session_Frames _)) ty3 rfl) <| R rfl (I.lss rfl rfl) <| R rfl (mv rfl) <| lSplit 33 rfl (fun h9 => ?_) (fun h9 => ?_)
        · skip
          refine lKn 32 rfl h9 <| lSkip (gd rfl rfl rfl rfl) rfl rfl <| lSkip (gd rfl rfl rfl rfl) rfl rfl <| lSkip (gd rfl rfl rfl rfl) rfl rfl <| R rfl (pkT rfl rfl) <| R rfl (mv rfl) <| lSkip (gd rfl rfl rfl rfl) rfl rfl <| lSkip (gd rfl rfl rfl rfl) rfl rfl <| lSkip (gd rfl rfl rfl rfl) rfl rfl <| R rfl (pkT rfl rfl) <| R rfl (mv rfl) <| lSkip (gd rfl rfl rfl rfl) rfl rfl <| lSkip (gd rfl rfl rfl rfl) rfl rfl <| lSkip (gd rfl rfl rfl rfl) rfl rfl <| R rfl (pkT rfl rfl) <| gNil <| eMid (fun aa ww h => h.sub [] (sS rfl <| sN) (rN))
        · skip
          refine lKn 32 rfl h9 <| lRun (gd rfl rfl rfl rfl) rfl rfl (faB 1 rfl rfl Try.underlying66 rfl (by exact ti3)) <| lRun (gd rfl rfl rfl rfl) rfl rfl (ld 1 rfl rfl ((Foc.here).part (pt_api_Session_Frames _)) ty3 rfl) <| lRun (gd rfl rfl rfl rfl) rfl rfl (I.gtr rfl rfl) <| R rfl (pkF rfl rfl) <| R rfl (mv rfl) <| lSplit 38 rfl (fun h10 => ?_) (fun h10 => ?_)
          · skip
            refine lKn 36 rfl h10 <| lKn 37 rfl h10 <| lSkip (gd rfl rfl rfl rfl) rfl rfl <| lSkip (gd rfl rfl rfl rfl) rfl rfl <| lSkip (gd rfl rfl rfl rfl) rfl rfl <| R rfl (pkT rfl rfl) <| R rfl (mv rfl) <| lSkip (gd rfl rfl rfl rfl) rfl rfl <| lSkip (gd rfl rfl rfl rfl) rfl rfl <| lSkip (gd rfl rfl rfl rfl) rfl rfl <| R rfl (pkT rfl rfl) <| gNil <| eMid (fun aa ww h => h.sub [] (sS rfl <| sN) (rN))
          · skip
            refine lKn 36 rfl h10 <| lKn 37 rfl h10 <| lRun (gd rfl rfl rfl rfl) rfl rfl (faB 1 rfl rfl Try.underlying66 rfl (by exact ti3)) <| lRun (gd rfl rfl rfl rfl) rfl rfl (ld 1 rfl rfl ((Foc.here).part (pt_api_Session_Ops _)) ty3 rfl) <| lRun (gd rfl rfl rfl rfl) rfl rfl (I.lss rfl rfl) <| R rfl (pkF rfl rfl) <| R rfl (mv rfl) <| lSplit 43 rfl (fun h11 => ?_) (fun h11 => ?_)
            · skip
              refine lKn 41 rfl h11 <| lKn 42 rfl h11 <| lSkip (gd rfl rfl rfl rfl) rfl rfl <| lSkip (gd rfl rfl rfl rfl) rfl rfl <| lSkip (gd rfl rfl rfl rfl) rfl rfl <| R rfl (pkT rfl rfl) <| gNil <| eMid (fun aa ww h => h.sub [] (sS rfl <| sN) (rN))
            · skip
              refine lKn 41 rfl h11 <| lKn 42 rfl h11 <| lRun (gd rfl rfl rfl rfl) rfl rfl (faB 1 rfl rfl Try.underlying66 rfl (by exact ti3)) <| lRun (gd rfl rfl rfl rfl) rfl rfl (ld 1 rfl rfl ((Foc.here).part (pt_api_Session_Ops _)) ty3 rfl) <| lRun (gd rfl rfl rfl rfl) rfl rfl (I.gtr rfl rfl) <| R rfl (pkF rfl rfl) <| gNil <| eMid (fun aa ww h => h.sub [] (sS rfl <| sN) (rN))
      · skip
        refine gIf rfl rfl (fun h12 => ?_) (fun h12 => ?_)
        · skip
          refine gSeq <| gReg <| R rfl (asg rfl) <| gNil <| eThen <| gRet <| eTret <| eRet [] [] rfl (eE rfl <| eN) (rN)
        · skip
          refine gSkip <| eThen <| gSeq <| gReg <| R rfl (asg rfl) <| gNil <| eThen <| gRet <| eRet [] [] rfl (eE rfl <| eN) (rN)


def braidref25_Over (a0 : api_Session) : Option (Bool) :=
  if a0.State == 4 then
    some true
  else
    some (a0.State == 5) >>= fun y3 =>
    some y3
set_option maxRecDepth 100000 in
theorem braidref25_Over_ok (a0 : api_Session) : Spec Try.prog 90 [.rd R_api_Session a0] [] (braidref25_Over a0) (fun r nv => ⟨[.rd boolR r], []⟩) := by
  refine spec 11 Try.func90 rfl rfl rfl fun H w => ?_
  refine gSeq <| gReg <| Eb rfl (bx 1 rfl) fun v1 => R rfl (asg rfl) <| gNil <| eThen <| gSeq <| gReg <| R rfl (faB 1 rfl rfl Try.underlying66 rfl (by exact ti5)) <| R rfl (ld 1 rfl rfl ((Foc.here).part (pt_api_Session_State _)) ty5 rfl) <| R rfl (B.eql rfl rfl) <| R rfl (mv rfl) <| lSplit 6 rfl (fun h2 => ?_) (fun h2 => ?_)
  · skip
    refine lKn 5 rfl h2 <| lSkip (gd rfl rfl rfl rfl) rfl rfl <| lSkip (gd rfl rfl rfl rfl) rfl rfl <| lSkip (gd rfl rfl rfl rfl) rfl rfl <| R rfl (pkT rfl rfl) <| R rfl (asg rfl) <| gNil <| eThen <| gRet <| eRet [] [] rfl (eE rfl <| eN) (rN)
  · skip
    refine lKn 5 rfl h2 <| lRun (gd rfl rfl rfl rfl) rfl rfl (faB 1 rfl rfl Try.underlying66 rfl (by exact ti5)) <| lRun (gd rfl rfl rfl rfl) rfl rfl (ld 1 rfl rfl ((Foc.here).part (pt_api_Session_State _)) ty5 rfl) <| lRun (gd rfl rfl rfl rfl) rfl rfl (B.eql rfl rfl) <| R rfl (pkF rfl rfl) <| R rfl (asg rfl) <| lName 2 rfl fun y3 => gNil <| eThen <| gRet <| eRet [] [] rfl (eE rfl <| eN) (rN)


def braidref25_bye (a0 : UInt64) : Option ((List api_Doing)) :=
  some [(⟨1, (⟨6, a0, [], []⟩ : api_Frame)⟩ : api_Doing), (⟨6, (⟨0, 0, [], []⟩ : api_Frame)⟩ : api_Doing)]
set_option maxRecDepth 100000 in
theorem braidref25_bye_ok (a0 : UInt64) : Spec Try.prog 111 [.rd u64R a0] [] (braidref25_bye a0) (fun r nv => ⟨[.val (nv 0)], [(100, some (nv 0, .list R_api_Doing 136 r))]⟩) := by
  refine spec 8 Try.func111 rfl rfl rfl fun H w => ?_
  refine gSeq <| gReg <| R rfl (asg rfl) <| gNil <| eThen <| gSeq <| gReg <| R rfl (mv rfl) <| R rfl (bld (x' := (⟨6, a0, [], []⟩ : api_Frame)) [(0, 1), (1, 1), (2, 1), (3, 1)] Try.underlying105 ti105 rfl zr105 rfl (Bld.cons (pt_api_Frame_Kind _) rfl rfl <| Bld.cons (pt_api_Frame_N _) rfl rfl <| Bld.done rfl)) <| R rfl (bld (x' := (⟨1, (⟨6, a0, [], []⟩ : api_Frame)⟩ : api_Doing)) [(0, 1), (1, 4)] Try.underlying136 ti136 rfl zr136 rfl (Bld.cons (pt_api_Doing_Kind _) rfl rfl <| Bld.cons (pt_api_Doing_Frame _) rfl rfl <| Bld.done rfl)) <| R rfl (bld (x' := (⟨6, (⟨0, 0, [], []⟩ : api_Frame)⟩ : api_Doing)) [(0, 1), (1, 4)] Try.underlying136 ti136 rfl zr136 rfl (Bld.cons (pt_api_Doing_Kind _) rfl rfl <| Bld.done rfl)) <| Ef rfl (lit ([(⟨1, (⟨6, a0, [], []⟩ : api_Frame)⟩ : api_Doing), (⟨6, (⟨0, 0, [], []⟩ : api_Frame)⟩ : api_Doing)] : List api_Doing) 1 (pP rfl rfl <| pP rfl rfl <| pN) rfl Try.underlying67 ti136 rfl rfl) fun v1 => R rfl (asg rfl) <| gNil <| eThen <| gRet <| eRet [v1] [1] rfl (eE rfl <| eN) (rR rfl rfl <| rN)


def braidref25_Broken (a0 : api_Session) : Option (api_Session × (List api_Doing) × Int) :=
  braidref25_Check a0 >>= fun r3 =>
  if r3 != 0 then
    some ((⟨0, 0, 0, 0⟩ : api_Session), [], r3)
  else
    braidref25_Over a0 >>= fun r6 =>
    if r6 then
      some (a0, [], 0)
    else
      if decide ((({ a0 with Faults := w64 (a0.Faults + 1) }).Faults) < 3) then
        some ({ a0 with Faults := w64 (a0.Faults + 1) }, [], 0)
      else
        braidref25_bye 3 >>= fun r10 =>
        some ({ { a0 with Faults := w64 (a0.Faults + 1) } with State := 5 }, r10, 0)
set_option maxRecDepth 100000 in
theorem braidref25_Broken_ok (a0 : api_Session) : Spec Try.prog 50 [.rd R_api_Session a0] [] (braidref25_Broken a0) (fun r nv => ⟨[.rd R_api_Session r.1, .val (nv 0), .rd i64R r.2.2], [(100, some (nv 0, .list R_api_Doing 136 r.2.1))]⟩) := by
  refine spec 26 Try.func50 rfl rfl rfl fun H w => ?_
  refine gSeq <| gReg <| Eb rfl (bx 1 rfl) fun v1 => Eb rfl (allc 2 ti66 (.zr zr66)) fun v2 => R rfl (asg rfl) <| R rfl (asg rfl) <| gNil <| eThen <| gSeq <| gSeq <| gReg <| R rfl (ld 1 rfl rfl Foc.here ty66 rfl) <| call [] [] rfl Try.func86 rfl rfl (braidref25_Check_ok _) (aQ rfl <| aN) rN fun r3 n4 => R rfl (asg rfl) <| gNil <| eThen <| gSeq <| gReg <| R rfl (mv rfl) <| R rfl (I.neq rfl rfl) <| gNil <| eThen <| gIf rfl rfl (fun h5 => ?_) (fun h5 => ?_)
  · skip
    refine gSeq <| gReg <| R rfl (bld (x' := (⟨0, 0, 0, 0⟩ : api_Session)) [(0, 1), (1, 1), (2, 1), (3, 1)] Try.underlying66 ti66 rfl zr66 rfl (Bld.done rfl)) <| R rfl (mv rfl) <| Es (sto 2 rfl rfl Foc.here rfl ti66) <| R rfl (asg rfl) <| R rfl (asg rfl) <| gNil <| eThen <| gRet <| eTret <| eNew R_api_Doing 136 3 <| eRet [(.slice none 0 0)] [3] rfl (eC 2 rfl rfl ty66 <| eE rfl <| eE rfl <| eN) (rR rfl rfl <| rN)
  · skip
    refine gSkip <| eThen <| gSeq <| gSeq <| gReg <| R rfl (ld 1 rfl rfl Foc.here ty66 rfl) <| call [] [] rfl Try.func90 rfl rfl (braidref25_Over_ok _) (aQ rfl <| aN) rN fun r6 n7 => gNil <| eThen <| gIf rfl rfl (fun h8 => ?_) (fun h8 => ?_)
    · skip
      refine gSeq <| gReg <| R rfl (ld 1 rfl rfl Foc.here ty66 rfl) <| Es (sto 2 rfl rfl Foc.here rfl ti66) <| R rfl (asg rfl) <| R rfl (asg rfl) <| gNil <| eThen <| gRet <| eTret <| eNew R_api_Doing 136 4 <| eRet [(.slice none 0 0)] [4] rfl (eC 2 rfl rfl ty66 <| eE rfl <| eE rfl <| eN) (rR rfl rfl <| rN)
    · skip
      refine gSkip <| eThen <| gSeq <| gReg <| R rfl (faB 1 rfl rfl Try.underlying66 rfl (by exact ti3)) <| R rfl (ld 1 rfl rfl ((Foc.here).part (pt_api_Session_Faults _)) ty3 rfl) <| R rfl (I.add rfl rfl) <| R rfl (faB 1 rfl rfl Try.underlying66 rfl (by exact ti3)) <| Es (sto 1 rfl rfl ((Foc.here).part (pt_api_Session_Faults _)) rfl ti3) <| gNil <| eThen <| gSeq <| gSeq <| gReg <| R rfl (faB 1 rfl rfl Try.underlying66 rfl (by exact ti3)) <| R rfl (ld 1 rfl rfl ((Foc.here).part (pt_api_Session_Faults _)) ty3 rfl) <| R rfl (I.lss rfl rfl) <| gNil <| eThen <| gIf rfl rfl (fun h9 => ?_) (fun h9 => ?_)
      · skip
        refine gSeq <| gReg <| R rfl (ld 1 rfl rfl Foc.here ty66 rfl) <| Es (sto 2 rfl rfl Foc.here rfl ti66) <| R rfl (asg rfl) <| R rfl (asg rfl) <| gNil <| eThen <| gRet <| eTret <| eNew R_api_Doing 136 5 <| eRet [(.slice none 0 0)] [5] rfl (eC 2 rfl rfl ty66 <| eE rfl <| eE rfl <| eN) (rR rfl rfl <| rN)
      · skip
        refine gSkip <| eThen <| gSeq <| gReg <| R rfl (faB 1 rfl rfl Try.underlying66 rfl (by exact ti5)) <| Es (sto 1 rfl rfl ((Foc.here).part (pt_api_Session_State _)) rfl ti5) <| gNil <| eThen <| gSeq <| gRegH [2, 6] mixed rfl rfl <| hTake 0 rfl (by kernel_rfl) (by kernel_rfl) (by kernel_rfl) (gd0 rfl) rfl rfl (ld 1 rfl rfl Foc.here ty66 rfl) <| hCallF 1 [] [(100, 6)] rfl (by kernel_rfl) rfl (gd0 rfl) rfl Try.func111 rfl rfl (braidref25_bye_ok _) (aQ rfl <| aN) rN rfl (fun _ _ => flat_val) fun r10 n11 => hDoS 2 rfl (by kernel_rfl) (gd0 rfl) rfl rfl rfl rfl (sto 2 rfl rfl Foc.here rfl ti66) <| hTakeF 3 rfl (by kernel_rfl) (by kernel_rfl) (by kernel_rfl) (gd0 rfl) rfl rfl flat_val (asg rfl) <| hTake 4 rfl (by kernel_rfl) (by kernel_rfl) (by kernel_rfl) (gd0 rfl) rfl rfl (asg rfl) <| hDone (by kernel_rfl) <| eThen <| gRet <| eRet [(n11 0)] [6] rfl (eC 2 rfl rfl ty66 <| eE rfl <| eE rfl <| eN) (rR rfl rfl <| rN)


def session_Judged (a0 : api_Session) (a1 : UInt8) : Option (api_Session × (List api_Doing) × Int) :=
  session_Check a0 >>= fun r3 =>
  if r3 != 0 then
    some ((⟨0, 0, 0, 0⟩ : api_Session), [], r3)
  else
    (if decide (a1 < 1) then
      some true
    else
      some (decide (9 < a1)) >>= fun y8 =>
      some y8) >>= fun s6 =>
    if s6 then
      some ((⟨0, 0, 0, 0⟩ : api_Session), [], 2)
    else
      (if a1 == 2 then
        some true
      else
        if a1 == 3 then
          some true
        else
          some (a1 == 4)) >>= fun s10 =>
      if s10 then
        session_Broken a0 >>= fun r14 =>
        some (r14.1, r14.2.1, r14.2.2)
      else
        some (a0, [], 0)
set_option maxRecDepth 100000 in
theorem session_Judged_ok (a0 : api_Session) (a1 : UInt8) : Spec Try.prog 51 [.rd R_api_Session a0, .rd u8R a1] [] (session_Judged a0 a1) (fun r nv => ⟨[.rd R_api_Session r.1, .val (nv 0), .rd i64R r.2.2], [(100, some (nv 0, .list R_api_Doing 136 r.2.1))]⟩) := by
  refine spec 39 Try.func51 rfl rfl rfl fun H w => ?_
  refine gSeq <| gReg <| Eb rfl (bx 1 rfl) fun v1 => Eb rfl (allc 2 ti66 (.zr zr66)) fun v2 => R rfl (asg rfl) <| R rfl (asg rfl) <| gNil <| eThen <| gSeq <| gSeq <| gReg <| R rfl (ld 1 rfl rfl Foc.here ty66 rfl) <| call [] [] rfl Try.func85 rfl rfl (session_Check_ok _) (aQ rfl <| aN) rN fun r3 n4 => R rfl (asg rfl) <| gNil <| eThen <| gSeq <| gReg <| R rfl (mv rfl) <| R rfl (I.neq rfl rfl) <| gNil <| eThen <| gIf rfl rfl (fun h5 => ?_) (fun h5 => ?_)
  · skip
    refine gSeq <| gReg <| R rfl (bld (x' := (⟨0, 0, 0, 0⟩ : api_Session)) [(0, 1), (1, 1), (2, 1), (3, 1)] Try.underlying66 ti66 rfl zr66 rfl (Bld.done rfl)) <| R rfl (mv rfl) <| Es (sto 2 rfl rfl Foc.here rfl ti66) <| R rfl (asg rfl) <| R rfl (asg rfl) <| gNil <| eThen <| gRet <| eTret <| eNew R_api_Doing 136 3 <| eRet [(.slice none 0 0)] [3] rfl (eC 2 rfl rfl ty66 <| eE rfl <| eE rfl <| eN) (rR rfl rfl <| rN)
  · skip
    refine gSkip <| eThen <| gSeq <| gBlk <| gMid (fun (s6 : Bool) aa ww => Sta (ctx 39 H [] w) [(1, .rd u8R a1), (2, .val (ptrTo v1 0)), (4, .val (ptrTo v2 0)), (14, .rd boolR s6)] [(1, some (v1, .box 66 [.rd R_api_Session a0])), (2, some (v2, .box 66 [.rd R_api_Session (⟨0, 0, 0, 0⟩ : api_Session)]))] aa ww) ?_ (fun s6 => ?_)
    · skip
      refine gReg <| R rfl (mv rfl) <| R rfl (B.lss rfl rfl) <| R rfl (mv rfl) <| lSplit 17 rfl (fun h7 => ?_) (fun h7 => ?_)
      · skip
        refine lKn 16 rfl h7 <| lSkip (gd rfl rfl rfl rfl) rfl rfl <| lSkip (gd rfl rfl rfl rfl) rfl rfl <| R rfl (pkT rfl rfl) <| R rfl (asg rfl) <| gNil <| eMid (fun aa ww h => h.sub [1, 2] (sS rfl <| sS rfl <| sS rfl <| sS rfl <| sN) (rR rfl rfl <| rR rfl rfl <| rN))
      · skip
        refine lKn 16 rfl h7 <| lRun (gd rfl rfl rfl rfl) rfl rfl (mv rfl) <| lRun (gd rfl rfl rfl rfl) rfl rfl (B.gtr rfl rfl) <| R rfl (pkF rfl rfl) <| R rfl (asg rfl) <| lName 14 rfl fun y8 => gNil <| eMid (fun aa ww h => h.sub [1, 2] (sS rfl <| sS rfl <| sS rfl <| sS rfl <| sN) (rR rfl rfl <| rR rfl rfl <| rN))
    · skip
      refine gIf rfl rfl (fun h9 => ?_) (fun h9 => ?_)
      · skip
        refine gSeq <| gReg <| R rfl (bld (x' := (⟨0, 0, 0, 0⟩ : api_Session)) [(0, 1), (1, 1), (2, 1), (3, 1)] Try.underlying66 ti66 rfl zr66 rfl (Bld.done rfl)) <| Es (sto 2 rfl rfl Foc.here rfl ti66) <| R rfl (asg rfl) <| R rfl (asg rfl) <| gNil <| eThen <| gRet <| eBret <| eTret <| eNew R_api_Doing 136 4 <| eRet [(.slice none 0 0)] [4] rfl (eC 2 rfl rfl ty66 <| eE rfl <| eE rfl <| eN) (rR rfl rfl <| rN)
      · skip
        refine gMid (fun (s10 : Bool) aa ww => Sta (ctx 39 H [] w) [(2, .val (ptrTo v1 0)), (4, .val (ptrTo v2 0)), (22, .rd boolR s10)] [(1, some (v1, .box 66 [.rd R_api_Session a0])), (2, some (v2, .box 66 [.rd R_api_Session (⟨0, 0, 0, 0⟩ : api_Session)]))] aa ww) ?_ (fun s10 => ?_)
        · skip
          refine gReg <| R rfl (mv rfl) <| R rfl (B.eql rfl rfl) <| R rfl (mv rfl) <| lSplit 25 rfl (fun h11 => ?_) (fun h11 => ?_)
          · skip
            refine lKn 24 rfl h11 <| lSkip (gd rfl rfl rfl rfl) rfl rfl <| lSkip (gd rfl rfl rfl rfl) rfl rfl <| R rfl (pkT rfl rfl) <| R rfl (mv rfl) <| lSkip (gd rfl rfl rfl rfl) rfl rfl <| lSkip (gd rfl rfl rfl rfl) rfl rfl <| R rfl (pkT rfl rfl) <| R rfl (asg rfl) <| gNil <| eMid (fun aa ww h => h.sub [1, 2] (sS rfl <| sS rfl <| sS rfl <| sN) (rR rfl rfl <| rR rfl rfl <| rN))
          · skip
            refine lKn 24 rfl h11 <| lRun (gd rfl rfl rfl rfl) rfl rfl (mv rfl) <| lRun (gd rfl rfl rfl rfl) rfl rfl (B.eql rfl rfl) <| R rfl (pkF rfl rfl) <| R rfl (mv rfl) <| lSplit 29 rfl (fun h12 => ?_) (fun h12 => ?_)
            · skip
              refine lKn 27 rfl h12 <| lKn 28 rfl h12 <| lSkip (gd rfl rfl rfl rfl) rfl rfl <| lSkip (gd rfl rfl rfl rfl) rfl rfl <| R rfl (pkT rfl rfl) <| R rfl (asg rfl) <| gNil <| eMid (fun aa ww h => h.sub [1, 2] (sS rfl <| sS rfl <| sS rfl <| sN) (rR rfl rfl <| rR rfl rfl <| rN))
            · skip
              refine lKn 27 rfl h12 <| lKn 28 rfl h12 <| lRun (gd rfl rfl rfl rfl) rfl rfl (mv rfl) <| lRun (gd rfl rfl rfl rfl) rfl rfl (B.eql rfl rfl) <| R rfl (pkF rfl rfl) <| R rfl (asg rfl) <| gNil <| eMid (fun aa ww h => h.sub [1, 2] (sS rfl <| sS rfl <| sS rfl <| sN) (rR rfl rfl <| rR rfl rfl <| rN))
        · skip
          refine gIf rfl rfl (fun h13 => ?_) (fun h13 => ?_)
          · skip
            refine gSeq <| gReg <| R rfl (ld 1 rfl rfl Foc.here ty66 rfl) <| call [] [(100, 5)] rfl Try.func49 rfl rfl (session_Broken_ok _) (aQ rfl <| aN) rN fun r14 n15 => R rfl (ext rfl rfl) <| R rfl (ext rfl rfl) <| R rfl (ext rfl rfl) <| Es (sto 2 rfl rfl Foc.here rfl ti66) <| R rfl (asg rfl) <| R rfl (asg rfl) <| gNil <| eThen <| gRet <| eBret <| eTret <| eRet [(n15 0)] [5] rfl (eC 2 rfl rfl ty66 <| eE rfl <| eE rfl <| eN) (rR rfl rfl <| rN)
          · skip
            refine gSkip <| eBlk <| eThen <| gSeq <| gReg <| R rfl (ld 1 rfl rfl Foc.here ty66 rfl) <| Es (sto 2 rfl rfl Foc.here rfl ti66) <| R rfl (asg rfl) <| R rfl (asg rfl) <| gNil <| eThen <| gRet <| eNew R_api_Doing 136 6 <| eRet [(.slice none 0 0)] [6] rfl (eC 2 rfl rfl ty66 <| eE rfl <| eE rfl <| eN) (rR rfl rfl <| rN)


def braidref25_Fault (a0 : UInt8) : Option (Bool) :=
  if a0 == 2 then
    some true
  else
    if a0 == 3 then
      some true
    else
      some (a0 == 4)
set_option maxRecDepth 100000 in
theorem braidref25_Fault_ok (a0 : UInt8) : Spec Try.prog 112 [.rd u8R a0] [] (braidref25_Fault a0) (fun r nv => ⟨[.rd boolR r], []⟩) := by
  refine spec 13 Try.func112 rfl rfl rfl fun H w => ?_
  refine gSeq <| gReg <| R rfl (asg rfl) <| gNil <| eThen <| gSeq <| gReg <| R rfl (mv rfl) <| R rfl (B.eql rfl rfl) <| R rfl (mv rfl) <| lSplit 5 rfl (fun h1 => ?_) (fun h1 => ?_)
  · skip
    refine lKn 4 rfl h1 <| lSkip (gd rfl rfl rfl rfl) rfl rfl <| lSkip (gd rfl rfl rfl rfl) rfl rfl <| R rfl (pkT rfl rfl) <| R rfl (mv rfl) <| lSkip (gd rfl rfl rfl rfl) rfl rfl <| lSkip (gd rfl rfl rfl rfl) rfl rfl <| R rfl (pkT rfl rfl) <| R rfl (asg rfl) <| gNil <| eThen <| gRet <| eRet [] [] rfl (eE rfl <| eN) (rN)
  · skip
    refine lKn 4 rfl h1 <| lRun (gd rfl rfl rfl rfl) rfl rfl (mv rfl) <| lRun (gd rfl rfl rfl rfl) rfl rfl (B.eql rfl rfl) <| R rfl (pkF rfl rfl) <| R rfl (mv rfl) <| lSplit 9 rfl (fun h2 => ?_) (fun h2 => ?_)
    · skip
      refine lKn 7 rfl h2 <| lKn 8 rfl h2 <| lSkip (gd rfl rfl rfl rfl) rfl rfl <| lSkip (gd rfl rfl rfl rfl) rfl rfl <| R rfl (pkT rfl rfl) <| R rfl (asg rfl) <| gNil <| eThen <| gRet <| eRet [] [] rfl (eE rfl <| eN) (rN)
    · skip
      refine lKn 7 rfl h2 <| lKn 8 rfl h2 <| lRun (gd rfl rfl rfl rfl) rfl rfl (mv rfl) <| lRun (gd rfl rfl rfl rfl) rfl rfl (B.eql rfl rfl) <| R rfl (pkF rfl rfl) <| R rfl (asg rfl) <| gNil <| eThen <| gRet <| eRet [] [] rfl (eE rfl <| eN) (rN)


def braidref25_Judged (a0 : api_Session) (a1 : UInt8) : Option (api_Session × (List api_Doing) × Int) :=
  braidref25_Check a0 >>= fun r3 =>
  if r3 != 0 then
    some ((⟨0, 0, 0, 0⟩ : api_Session), [], r3)
  else
    (if decide (a1 < 1) then
      some true
    else
      some (decide (9 < a1))) >>= fun s6 =>
    if s6 then
      some ((⟨0, 0, 0, 0⟩ : api_Session), [], 2)
    else
      braidref25_Fault a1 >>= fun r9 =>
      if !r9 then
        some (a0, [], 0)
      else
        braidref25_Broken a0 >>= fun r12 =>
        some (r12.1, r12.2.1, r12.2.2)
set_option maxRecDepth 100000 in
theorem braidref25_Judged_ok (a0 : api_Session) (a1 : UInt8) : Spec Try.prog 52 [.rd R_api_Session a0, .rd u8R a1] [] (braidref25_Judged a0 a1) (fun r nv => ⟨[.rd R_api_Session r.1, .val (nv 0), .rd i64R r.2.2], [(100, some (nv 0, .list R_api_Doing 136 r.2.1))]⟩) := by
  refine spec 30 Try.func52 rfl rfl rfl fun H w => ?_
  refine gSeq <| gReg <| Eb rfl (bx 1 rfl) fun v1 => Eb rfl (allc 2 ti66 (.zr zr66)) fun v2 => R rfl (asg rfl) <| R rfl (asg rfl) <| gNil <| eThen <| gSeq <| gSeq <| gReg <| R rfl (ld 1 rfl rfl Foc.here ty66 rfl) <| call [] [] rfl Try.func86 rfl rfl (braidref25_Check_ok _) (aQ rfl <| aN) rN fun r3 n4 => R rfl (asg rfl) <| gNil <| eThen <| gSeq <| gReg <| R rfl (mv rfl) <| R rfl (I.neq rfl rfl) <| gNil <| eThen <| gIf rfl rfl (fun h5 => ?_) (fun h5 => ?_)
  · skip
    refine gSeq <| gReg <| R rfl (bld (x' := (⟨0, 0, 0, 0⟩ : api_Session)) [(0, 1), (1, 1), (2, 1), (3, 1)] Try.underlying66 ti66 rfl zr66 rfl (Bld.done rfl)) <| R rfl (mv rfl) <| Es (sto 2 rfl rfl Foc.here rfl ti66) <| R rfl (asg rfl) <| R rfl (asg rfl) <| gNil <| eThen <| gRet <| eTret <| eNew R_api_Doing 136 3 <| eRet [(.slice none 0 0)] [3] rfl (eC 2 rfl rfl ty66 <| eE rfl <| eE rfl <| eN) (rR rfl rfl <| rN)
  · skip
    refine gSkip <| eThen <| gSeq <| gMid (fun (s6 : Bool) aa ww => Sta (ctx 30 H [] w) [(1, .rd u8R a1), (2, .val (ptrTo v1 0)), (4, .val (ptrTo v2 0)), (19, .rd boolR s6)] [(1, some (v1, .box 66 [.rd R_api_Session a0])), (2, some (v2, .box 66 [.rd R_api_Session (⟨0, 0, 0, 0⟩ : api_Session)]))] aa ww) ?_ (fun s6 => ?_)
    · skip
      refine gReg <| R rfl (mv rfl) <| R rfl (B.lss rfl rfl) <| R rfl (mv rfl) <| lSplit 16 rfl (fun h7 => ?_) (fun h7 => ?_)
      · skip
        refine lKn 15 rfl h7 <| lSkip (gd rfl rfl rfl rfl) rfl rfl <| lSkip (gd rfl rfl rfl rfl) rfl rfl <| R rfl (pkT rfl rfl) <| gNil <| eMid (fun aa ww h => h.sub [1, 2] (sS rfl <| sS rfl <| sS rfl <| sS rfl <| sN) (rR rfl rfl <| rR rfl rfl <| rN))
      · skip
        refine lKn 15 rfl h7 <| lRun (gd rfl rfl rfl rfl) rfl rfl (mv rfl) <| lRun (gd rfl rfl rfl rfl) rfl rfl (B.gtr rfl rfl) <| R rfl (pkF rfl rfl) <| gNil <| eMid (fun aa ww h => h.sub [1, 2] (sS rfl <| sS rfl <| sS rfl <| sS rfl <| sN) (rR rfl rfl <| rR rfl rfl <| rN))
    · skip
      refine gIf rfl rfl (fun h8 => ?_) (fun h8 => ?_)
      · skip
        refine gSeq <| gReg <| R rfl (bld (x' := (⟨0, 0, 0, 0⟩ : api_Session)) [(0, 1), (1, 1), (2, 1), (3, 1)] Try.underlying66 ti66 rfl zr66 rfl (Bld.done rfl)) <| Es (sto 2 rfl rfl Foc.here rfl ti66) <| R rfl (asg rfl) <| R rfl (asg rfl) <| gNil <| eThen <| gRet <| eTret <| eNew R_api_Doing 136 4 <| eRet [(.slice none 0 0)] [4] rfl (eC 2 rfl rfl ty66 <| eE rfl <| eE rfl <| eN) (rR rfl rfl <| rN)
      · skip
        refine gSkip <| eThen <| gSeq <| gSeq <| gReg <| R rfl (mv rfl) <| call [] [] rfl Try.func112 rfl rfl (braidref25_Fault_ok _) (aQ rfl <| aN) rN fun r9 n10 => R rfl (not' rfl) <| gNil <| eThen <| gIf rfl rfl (fun h11 => ?_) (fun h11 => ?_)
        · skip
          refine gSeq <| gReg <| R rfl (ld 1 rfl rfl Foc.here ty66 rfl) <| Es (sto 2 rfl rfl Foc.here rfl ti66) <| R rfl (asg rfl) <| R rfl (asg rfl) <| gNil <| eThen <| gRet <| eTret <| eNew R_api_Doing 136 5 <| eRet [(.slice none 0 0)] [5] rfl (eC 2 rfl rfl ty66 <| eE rfl <| eE rfl <| eN) (rR rfl rfl <| rN)
        · skip
          refine gSkip <| eThen <| gSeq <| gReg <| R rfl (ld 1 rfl rfl Foc.here ty66 rfl) <| call [] [(100, 6)] rfl Try.func50 rfl rfl (braidref25_Broken_ok _) (aQ rfl <| aN) rN fun r12 n13 => R rfl (ext rfl rfl) <| R rfl (ext rfl rfl) <| R rfl (ext rfl rfl) <| Es (sto 2 rfl rfl Foc.here rfl ti66) <| R rfl (asg rfl) <| R rfl (asg rfl) <| gNil <| eThen <| gRet <| eRet [(n13 0)] [6] rfl (eC 2 rfl rfl ty66 <| eE rfl <| eE rfl <| eN) (rR rfl rfl <| rN)


def session_End (a0 : api_Session) (a1 : UInt64) : Option (api_Session × (List api_Doing) × Int) :=
  session_Check a0 >>= fun r3 =>
  if r3 != 0 then
    some ((⟨0, 0, 0, 0⟩ : api_Session), [], r3)
  else
    session_over a0 >>= fun r6 =>
    if r6 then
      some (a0, [], 0)
    else
      session_bye a0 4 a1 >>= fun r9 =>
      some (r9.1, r9.2.1, r9.2.2)
set_option maxRecDepth 100000 in
theorem session_End_ok (a0 : api_Session) (a1 : UInt64) : Spec Try.prog 53 [.rd R_api_Session a0, .rd u64R a1] [] (session_End a0 a1) (fun r nv => ⟨[.rd R_api_Session r.1, .val (nv 0), .rd i64R r.2.2], [(100, some (nv 0, .list R_api_Doing 136 r.2.1))]⟩) := by
  refine spec 23 Try.func53 rfl rfl rfl fun H w => ?_
  refine gSeq <| gReg <| Eb rfl (bx 1 rfl) fun v1 => Eb rfl (allc 2 ti66 (.zr zr66)) fun v2 => R rfl (asg rfl) <| R rfl (asg rfl) <| gNil <| eThen <| gSeq <| gSeq <| gReg <| R rfl (ld 1 rfl rfl Foc.here ty66 rfl) <| call [] [] rfl Try.func85 rfl rfl (session_Check_ok _) (aQ rfl <| aN) rN fun r3 n4 => R rfl (asg rfl) <| gNil <| eThen <| gSeq <| gReg <| R rfl (mv rfl) <| R rfl (I.neq rfl rfl) <| gNil <| eThen <| gIf rfl rfl (fun h5 => ?_) (fun h5 => ?_)
  · skip
    refine gSeq <| gReg <| R rfl (bld (x' := (⟨0, 0, 0, 0⟩ : api_Session)) [(0, 1), (1, 1), (2, 1), (3, 1)] Try.underlying66 ti66 rfl zr66 rfl (Bld.done rfl)) <| R rfl (mv rfl) <| Es (sto 2 rfl rfl Foc.here rfl ti66) <| R rfl (asg rfl) <| R rfl (asg rfl) <| gNil <| eThen <| gRet <| eTret <| eNew R_api_Doing 136 3 <| eRet [(.slice none 0 0)] [3] rfl (eC 2 rfl rfl ty66 <| eE rfl <| eE rfl <| eN) (rR rfl rfl <| rN)
  · skip
    refine gSkip <| eThen <| gSeq <| gSeq <| gReg <| R rfl (ld 1 rfl rfl Foc.here ty66 rfl) <| call [] [] rfl Try.func109 rfl rfl (session_over_ok _) (aQ rfl <| aN) rN fun r6 n7 => gNil <| eThen <| gIf rfl rfl (fun h8 => ?_) (fun h8 => ?_)
    · skip
      refine gSeq <| gReg <| R rfl (ld 1 rfl rfl Foc.here ty66 rfl) <| Es (sto 2 rfl rfl Foc.here rfl ti66) <| R rfl (asg rfl) <| R rfl (asg rfl) <| gNil <| eThen <| gRet <| eTret <| eNew R_api_Doing 136 4 <| eRet [(.slice none 0 0)] [4] rfl (eC 2 rfl rfl ty66 <| eE rfl <| eE rfl <| eN) (rR rfl rfl <| rN)
    · skip
      refine gSkip <| eThen <| gSeq <| gReg <| R rfl (ld 1 rfl rfl Foc.here ty66 rfl) <| R rfl (mv rfl) <| call [] [(100, 5)] rfl Try.func110 rfl rfl (session_bye_ok _ _ _) (aQ rfl <| aQ rfl <| aQ rfl <| aN) rN fun r9 n10 => R rfl (ext rfl rfl) <| R rfl (ext rfl rfl) <| R rfl (ext rfl rfl) <| Es (sto 2 rfl rfl Foc.here rfl ti66) <| R rfl (asg rfl) <| R rfl (asg rfl) <| gNil <| eThen <| gRet <| eRet [(n10 0)] [5] rfl (eC 2 rfl rfl ty66 <| eE rfl <| eE rfl <| eN) (rR rfl rfl <| rN)


def braidref25_End (a0 : api_Session) (a1 : UInt64) : Option (api_Session × (List api_Doing) × Int) :=
  braidref25_Check a0 >>= fun r3 =>
  if r3 != 0 then
    some ((⟨0, 0, 0, 0⟩ : api_Session), [], r3)
  else
    braidref25_Over a0 >>= fun r6 =>
    if r6 then
      some (a0, [], 0)
    else
      braidref25_bye a1 >>= fun r9 =>
      some ({ a0 with State := 4 }, r9, 0)
set_option maxRecDepth 100000 in
theorem braidref25_End_ok (a0 : api_Session) (a1 : UInt64) : Spec Try.prog 54 [.rd R_api_Session a0, .rd u64R a1] [] (braidref25_End a0 a1) (fun r nv => ⟨[.rd R_api_Session r.1, .val (nv 0), .rd i64R r.2.2], [(100, some (nv 0, .list R_api_Doing 136 r.2.1))]⟩) := by
  refine spec 21 Try.func54 rfl rfl rfl fun H w => ?_
  refine gSeq <| gReg <| Eb rfl (bx 1 rfl) fun v1 => Eb rfl (allc 2 ti66 (.zr zr66)) fun v2 => R rfl (asg rfl) <| R rfl (asg rfl) <| gNil <| eThen <| gSeq <| gSeq <| gReg <| R rfl (ld 1 rfl rfl Foc.here ty66 rfl) <| call [] [] rfl Try.func86 rfl rfl (braidref25_Check_ok _) (aQ rfl <| aN) rN fun r3 n4 => R rfl (asg rfl) <| gNil <| eThen <| gSeq <| gReg <| R rfl (mv rfl) <| R rfl (I.neq rfl rfl) <| gNil <| eThen <| gIf rfl rfl (fun h5 => ?_) (fun h5 => ?_)
  · skip
    refine gSeq <| gReg <| R rfl (bld (x' := (⟨0, 0, 0, 0⟩ : api_Session)) [(0, 1), (1, 1), (2, 1), (3, 1)] Try.underlying66 ti66 rfl zr66 rfl (Bld.done rfl)) <| R rfl (mv rfl) <| Es (sto 2 rfl rfl Foc.here rfl ti66) <| R rfl (asg rfl) <| R rfl (asg rfl) <| gNil <| eThen <| gRet <| eTret <| eNew R_api_Doing 136 3 <| eRet [(.slice none 0 0)] [3] rfl (eC 2 rfl rfl ty66 <| eE rfl <| eE rfl <| eN) (rR rfl rfl <| rN)
  · skip
    refine gSkip <| eThen <| gSeq <| gSeq <| gReg <| R rfl (ld 1 rfl rfl Foc.here ty66 rfl) <| call [] [] rfl Try.func90 rfl rfl (braidref25_Over_ok _) (aQ rfl <| aN) rN fun r6 n7 => gNil <| eThen <| gIf rfl rfl (fun h8 => ?_) (fun h8 => ?_)
    · skip
      refine gSeq <| gReg <| R rfl (ld 1 rfl rfl Foc.here ty66 rfl) <| Es (sto 2 rfl rfl Foc.here rfl ti66) <| R rfl (asg rfl) <| R rfl (asg rfl) <| gNil <| eThen <| gRet <| eTret <| eNew R_api_Doing 136 4 <| eRet [(.slice none 0 0)] [4] rfl (eC 2 rfl rfl ty66 <| eE rfl <| eE rfl <| eN) (rR rfl rfl <| rN)
    · skip
      refine gSkip <| eThen <| gSeq <| gReg <| R rfl (faB 1 rfl rfl Try.underlying66 rfl (by exact ti5)) <| Es (sto 1 rfl rfl ((Foc.here).part (pt_api_Session_State _)) rfl ti5) <| gNil <| eThen <| gSeq <| gRegH [2, 5] mixed rfl rfl <| hTake 0 rfl (by kernel_rfl) (by kernel_rfl) (by kernel_rfl) (gd0 rfl) rfl rfl (ld 1 rfl rfl Foc.here ty66 rfl) <| hTake 1 rfl (by kernel_rfl) (by kernel_rfl) (by kernel_rfl) (gd0 rfl) rfl rfl (mv rfl) <| hCallF 2 [] [(100, 5)] rfl (by kernel_rfl) rfl (gd0 rfl) rfl Try.func111 rfl rfl (braidref25_bye_ok _) (aQ rfl <| aN) rN rfl (fun _ _ => flat_val) fun r9 n10 => hDoS 3 rfl (by kernel_rfl) (gd0 rfl) rfl rfl rfl rfl (sto 2 rfl rfl Foc.here rfl ti66) <| hTakeF 4 rfl (by kernel_rfl) (by kernel_rfl) (by kernel_rfl) (gd0 rfl) rfl rfl flat_val (asg rfl) <| hTake 5 rfl (by kernel_rfl) (by kernel_rfl) (by kernel_rfl) (gd0 rfl) rfl rfl (asg rfl) <| hDone (by kernel_rfl) <| eThen <| gRet <| eRet [(n10 0)] [5] rfl (eC 2 rfl rfl ty66 <| eE rfl <| eE rfl <| eN) (rR rfl rfl <| rN)


def session_rules  : Option ((List session_rule)) :=
  some [(⟨1, 1, 2, 1⟩ : session_rule), (⟨1, 6, 4, 6⟩ : session_rule), (⟨2, 2, 3, 3⟩ : session_rule), (⟨2, 6, 4, 6⟩ : session_rule), (⟨3, 2, 3, 3⟩ : session_rule), (⟨3, 3, 3, 4⟩ : session_rule), (⟨3, 4, 3, 3⟩ : session_rule), (⟨3, 5, 3, 5⟩ : session_rule), (⟨3, 6, 4, 6⟩ : session_rule)]
set_option maxRecDepth 100000 in
theorem session_rules_ok  : Spec Try.prog 131 [] [] (session_rules) (fun r nv => ⟨[.val (nv 0)], [(100, some (nv 0, .list R_session_rule 161 r))]⟩) := by
  refine spec 11 Try.func131 rfl rfl rfl fun H w => ?_
  refine gSeq <| gReg <| R rfl (asg rfl) <| gNil <| eThen <| gSeq <| gReg <| R rfl (bld (x' := (⟨1, 1, 2, 1⟩ : session_rule)) [(0, 1), (1, 1), (2, 1), (3, 1)] Try.underlying161 ti161 rfl zr161 rfl (Bld.cons (pt_session_rule_state _) rfl rfl <| Bld.cons (pt_session_rule_kind _) rfl rfl <| Bld.cons (pt_session_rule_next _) rfl rfl <| Bld.cons (pt_session_rule_do_ _) rfl rfl <| Bld.done rfl)) <| R rfl (bld (x' := (⟨1, 6, 4, 6⟩ : session_rule)) [(0, 1), (1, 1), (2, 1), (3, 1)] Try.underlying161 ti161 rfl zr161 rfl (Bld.cons (pt_session_rule_state _) rfl rfl <| Bld.cons (pt_session_rule_kind _) rfl rfl <| Bld.cons (pt_session_rule_next _) rfl rfl <| Bld.cons (pt_session_rule_do_ _) rfl rfl <| Bld.done rfl)) <| R rfl (bld (x' := (⟨2, 2, 3, 3⟩ : session_rule)) [(0, 1), (1, 1), (2, 1), (3, 1)] Try.underlying161 ti161 rfl zr161 rfl (Bld.cons (pt_session_rule_state _) rfl rfl <| Bld.cons (pt_session_rule_kind _) rfl rfl <| Bld.cons (pt_session_rule_next _) rfl rfl <| Bld.cons (pt_session_rule_do_ _) rfl rfl <| Bld.done rfl)) <| R rfl (bld (x' := (⟨2, 6, 4, 6⟩ : session_rule)) [(0, 1), (1, 1), (2, 1), (3, 1)] Try.underlying161 ti161 rfl zr161 rfl (Bld.cons (pt_session_rule_state _) rfl rfl <| Bld.cons (pt_session_rule_kind _) rfl rfl <| Bld.cons (pt_session_rule_next _) rfl rfl <| Bld.cons (pt_session_rule_do_ _) rfl rfl <| Bld.done rfl)) <| R rfl (bld (x' := (⟨3, 2, 3, 3⟩ : session_rule)) [(0, 1), (1, 1), (2, 1), (3, 1)] Try.underlying161 ti161 rfl zr161 rfl (Bld.cons (pt_session_rule_state _) rfl rfl <| Bld.cons (pt_session_rule_kind _) rfl rfl <| Bld.cons (pt_session_rule_next _) rfl rfl <| Bld.cons (pt_session_rule_do_ _) rfl rfl <| Bld.done rfl)) <| R rfl (bld (x' := (⟨3, 3, 3, 4⟩ : session_rule)) [(0, 1), (1, 1), (2, 1), (3, 1)] Try.underlying161 ti161 rfl zr161 rfl (Bld.cons (pt_session_rule_state _) rfl rfl <| Bld.cons (pt_session_rule_kind _) rfl rfl <| Bld.cons (pt_session_rule_next _) rfl rfl <| Bld.cons (pt_session_rule_do_ _) rfl rfl <| Bld.done rfl)) <| R rfl (bld (x' := (⟨3, 4, 3, 3⟩ : session_rule)) [(0, 1), (1, 1), (2, 1), (3, 1)] Try.underlying161 ti161 rfl zr161 rfl (Bld.cons (pt_session_rule_state _) rfl rfl <| Bld.cons (pt_session_rule_kind _) rfl rfl <| Bld.cons (pt_session_rule_next _) rfl rfl <| Bld.cons (pt_session_rule_do_ _) rfl rfl <| Bld.done rfl)) <| R rfl (bld (x' := (⟨3, 5, 3, 5⟩ : session_rule)) [(0, 1), (1, 1), (2, 1), (3, 1)] Try.underlying161 ti161 rfl zr161 rfl (Bld.cons (pt_session_rule_state _) rfl rfl <| Bld.cons (pt_session_rule_kind _) rfl rfl <| Bld.cons (pt_session_rule_next _) rfl rfl <| Bld.cons (pt_session_rule_do_ _) rfl rfl <| Bld.done rfl)) <| R rfl (bld (x' := (⟨3, 6, 4, 6⟩ : session_rule)) [(0, 1), (1, 1), (2, 1), (3, 1)] Try.underlying161 ti161 rfl zr161 rfl (Bld.cons (pt_session_rule_state _) rfl rfl <| Bld.cons (pt_session_rule_kind _) rfl rfl <| Bld.cons (pt_session_rule_next _) rfl rfl <| Bld.cons (pt_session_rule_do_ _) rfl rfl <| Bld.done rfl)) <| Ef rfl (lit ([(⟨1, 1, 2, 1⟩ : session_rule), (⟨1, 6, 4, 6⟩ : session_rule), (⟨2, 2, 3, 3⟩ : session_rule), (⟨2, 6, 4, 6⟩ : session_rule), (⟨3, 2, 3, 3⟩ : session_rule), (⟨3, 3, 3, 4⟩ : session_rule), (⟨3, 4, 3, 3⟩ : session_rule), (⟨3, 5, 3, 5⟩ : session_rule), (⟨3, 6, 4, 6⟩ : session_rule)] : List session_rule) 1 (pP rfl rfl <| pP rfl rfl <| pP rfl rfl <| pP rfl rfl <| pP rfl rfl <| pP rfl rfl <| pP rfl rfl <| pP rfl rfl <| pP rfl rfl <| pN) rfl Try.underlying180 ti161 rfl rfl) fun v1 => R rfl (asg rfl) <| gNil <| eThen <| gRet <| eRet [v1] [1] rfl (eE rfl <| eN) (rR rfl rfl <| rN)


def session_find_1 (a0 : session_rule) (c1_0 : UInt8) (c2_0 : UInt8) : Option (Bool) :=
  if a0.state == c1_0 then
    some (a0.kind == c2_0) >>= fun y3 =>
    some y3
  else
    some false
set_option maxRecDepth 100000 in
theorem session_find_1_ok (a0 : session_rule) (p1_0 : Value) (c1_0 : UInt8) (p2_0 : Value) (c2_0 : UInt8) : Spec Try.prog 133 [.rd R_session_rule a0, .val (ptrTo p1_0 0), .val (ptrTo p2_0 0)] [(1, some (p1_0, .box 5 [.rd u8R c1_0])), (2, some (p2_0, .box 5 [.rd u8R c2_0]))] (session_find_1 a0 c1_0 c2_0) (fun r nv => ⟨[.rd boolR r], [(1, some (p1_0, .box 5 [.rd u8R c1_0])), (2, some (p2_0, .box 5 [.rd u8R c2_0]))]⟩) := by
  refine spec 15 Try.func133 rfl rfl rfl fun H w => ?_
  refine gSeq <| gReg <| Eb rfl (bx 3 rfl) fun v1 => R rfl (asg rfl) <| gNil <| eThen <| gSeq <| gReg <| R rfl (faB 3 rfl rfl Try.underlying161 rfl (by exact ti5)) <| R rfl (ld 3 rfl rfl ((Foc.here).part (pt_session_rule_state _)) ty5 rfl) <| R rfl (ld 1 rfl rfl Foc.here ty5 rfl) <| R rfl (B.eql rfl rfl) <| R rfl (mv rfl) <| lSplit 9 rfl (fun h2 => ?_) (fun h2 => ?_)
  · skip
    refine lKn 8 rfl h2 <| lRun (gd rfl rfl rfl rfl) rfl rfl (faB 3 rfl rfl Try.underlying161 rfl (by exact ti5)) <| lRun (gd rfl rfl rfl rfl) rfl rfl (ld 3 rfl rfl ((Foc.here).part (pt_session_rule_kind _)) ty5 rfl) <| lRun (gd rfl rfl rfl rfl) rfl rfl (ld 2 rfl rfl Foc.here ty5 rfl) <| lRun (gd rfl rfl rfl rfl) rfl rfl (B.eql rfl rfl) <| R rfl (pkT rfl rfl) <| R rfl (asg rfl) <| lName 4 rfl fun y3 => gNil <| eThen <| gRet <| eRet [] [1, 2] rfl (eE rfl <| eN) (rR rfl rfl <| rR rfl rfl <| rN)
  · skip
    refine lKn 8 rfl h2 <| lSkip (gd rfl rfl rfl rfl) rfl rfl <| lSkip (gd rfl rfl rfl rfl) rfl rfl <| lSkip (gd rfl rfl rfl rfl) rfl rfl <| lSkip (gd rfl rfl rfl rfl) rfl rfl <| R rfl (pkF rfl rfl) <| R rfl (asg rfl) <| gNil <| eThen <| gRet <| eRet [] [1, 2] rfl (eE rfl <| eN) (rR rfl rfl <| rR rfl rfl <| rN)

def slices_IndexFunc_session_rule_session_rule_session_find_1_L0 (a0 : List session_rule) (c1_0 : UInt8) (c1_1 : UInt8) (s2 : Int) : Option (Sum (Sum Int Unit) Int) :=
  if decide (s2 < (a0.length : Int)) then
    idx a0 s2 >>= fun x4 =>
    session_find_1 x4 c1_0 c1_1 >>= fun r6 =>
    if r6 then
      some (.inl (.inl s2))
    else
      some (.inr (w64 (s2 + 1)))
  else
    some (.inl (.inr ()))
def slices_IndexFunc_session_rule_session_rule_session_find_1 (a0 : List session_rule) (c1_0 : UInt8) (c1_1 : UInt8) : Option (Int) :=
  orRet (iter (slices_IndexFunc_session_rule_session_rule_session_find_1_L0 a0 c1_0 c1_1) 0) fun s1 =>
  some (-1)
set_option maxRecDepth 100000 in
theorem slices_IndexFunc_session_rule_session_rule_session_find_1_ok (a0 : List session_rule) (p1_0 : Value) (c1_0 : UInt8) (p1_1 : Value) (c1_1 : UInt8) : Spec Try.prog 132 [.rd (sliceR R_session_rule) a0, .val (.func (.func 133) #[] #[ptrTo p1_0 0, ptrTo p1_1 0])] [(1, some (p1_0, .box 5 [.rd u8R c1_0])), (2, some (p1_1, .box 5 [.rd u8R c1_1]))] (slices_IndexFunc_session_rule_session_rule_session_find_1 a0 c1_0 c1_1) (fun r nv => ⟨[.rd i64R r], [(1, some (p1_0, .box 5 [.rd u8R c1_0])), (2, some (p1_1, .box 5 [.rd u8R c1_1]))]⟩) := by
  refine spec 19 Try.func132 rfl rfl rfl fun H w => ?_
  refine gSeq <| gReg <| R rfl (asg rfl) <| gNil <| eThen <| gMidR (fun (s1 : Unit) aa ww => Sta (ctx 19 H [(1, some (p1_0, .box 5 [.rd u8R c1_0])), (2, some (p1_1, .box 5 [.rd u8R c1_1]))] w) [] [(1, some (p1_0, .box 5 [.rd u8R c1_0])), (2, some (p1_1, .box 5 [.rd u8R c1_1]))] aa ww) ?_ (fun s1 => ?_)
  · skip
    refine gSeq <| gReg <| R rfl (mv rfl) <| R rfl (len' rfl .rd rfl Try.underlying180) <| R rfl (mv rfl) <| gNil <| eThen <| gLoop (fun (s2 : Int) aa ww => Sta (ctx 19 H [(1, some (p1_0, .box 5 [.rd u8R c1_0])), (2, some (p1_1, .box 5 [.rd u8R c1_1]))] w) [(0, .rd (sliceR R_session_rule) a0), (1, .val (.func (.func 133) #[] #[ptrTo p1_0 0, ptrTo p1_1 0])), (7, .rd i64R (a0.length : Int)), (8, .rd i64R s2)] [(1, some (p1_0, .box 5 [.rd u8R c1_0])), (2, some (p1_1, .box 5 [.rd u8R c1_1]))] aa ww) (fun aa ww h => h.sub [1, 2] (sS rfl <| sS rfl <| sS rfl <| sS rfl <| sN) (rR rfl rfl <| rR rfl rfl <| rN)) (fun s2 => ?_)
    refine gSeq <| gReg <| R rfl (I.lss rfl rfl) <| gNil <| eThen <| gSeq <| gIf rfl rfl (fun h3 => ?_) (fun h3 => ?_)
    · skip
      refine gSkip <| eThen <| gSeq <| gBlk <| gSeq <| gReg <| R rfl (mv rfl) <| R rfl (asg rfl) <| gNil <| eThen <| gSeq <| gReg <| R rfl (mv rfl) <| R rfl (mv rfl) <| R rfl (mv rfl) <| lBind fun x4 h5 => R rfl (ixR rfl rfl h5 Try.underlying180 ti161 rfl) <| R rfl (ldR rfl ty161) <| callv [1, 2] [(1, 1), (2, 2)] (gd0 rfl) rfl rfl Try.func133 rfl rfl (session_find_1_ok _ _ _ _ _) (aQ rfl <| aN) (cQ 1 rfl <| cQ 2 rfl <| cN) (rR rfl rfl <| rR rfl rfl <| rN) fun r6 n7 => gNil <| eThen <| gIf rfl rfl (fun h8 => ?_) (fun h8 => ?_)
      · skip
        refine gSeq <| gReg <| R rfl (mv rfl) <| R rfl (asg rfl) <| gNil <| eThen <| gRet <| eBret <| eTret <| eLret <| eMret <| eRet [] [1, 2] rfl (eE rfl <| eN) (rR rfl rfl <| rR rfl rfl <| rN)
      · skip
        refine gSkip <| eBlk <| eThen <| gReg <| R rfl (I.add rfl rfl) <| R rfl (mv rfl) <| gNil <| eNext (fun aa ww h => h.sub [1, 2] (sS rfl <| sS rfl <| sS rfl <| sS rfl <| sN) (rR rfl rfl <| rR rfl rfl <| rN))
    · skip
      refine gExit <| eTexit <| eLeave <| eMidR (fun aa ww h => h.sub [1, 2] (sN) (rR rfl rfl <| rR rfl rfl <| rN))
  · skip
    refine gSeq <| gReg <| R rfl (asg rfl) <| gNil <| eThen <| gRet <| eRet [] [1, 2] rfl (eE rfl <| eN) (rR rfl rfl <| rR rfl rfl <| rN)


def session_find (a0 : UInt8) (a1 : UInt8) : Option (session_rule × Bool) :=
  session_rules >>= fun r4 =>
  slices_IndexFunc_session_rule_session_rule_session_find_1 r4 a0 a1 >>= fun r6 =>
  if decide (r6 < 0) then
    some ((⟨0, 0, 0, 0⟩ : session_rule), false)
  else
    idx r4 r6 >>= fun x9 =>
    some (x9, true)
set_option maxRecDepth 100000 in
theorem session_find_ok (a0 : UInt8) (a1 : UInt8) : Spec Try.prog 113 [.rd u8R a0, .rd u8R a1] [] (session_find a0 a1) (fun r nv => ⟨[.rd R_session_rule r.1, .rd boolR r.2], []⟩) := by
  refine spec 19 Try.func113 rfl rfl rfl fun H w => ?_
  refine gSeq <| gReg <| Eb rfl (bx 1 rfl) fun v1 => Eb rfl (bx 2 rfl) fun v2 => Eb rfl (allc 3 ti161 (.zr zr161)) fun v3 => R rfl (asg rfl) <| gNil <| eThen <| gSeq <| gReg <| call [] [(100, 4)] rfl Try.func131 rfl rfl (session_rules_ok) (aN) rN fun r4 n5 => R rfl (asg rfl) <| gNil <| eThen <| gSeq <| gReg <| R rfl (mv rfl) <| R rfl (mkf mp0 (mp2 rfl rfl)) <| lFrz 4 [8, 6, 9] rfl (fS rfl <| fS rfl <| fS rfl <| fN) <| call [1, 2] [(1, 1), (2, 2)] rfl Try.func132 rfl rfl (slices_IndexFunc_session_rule_session_rule_session_find_1_ok _ _ _ _ _) (aQ rfl <| aQ rfl <| aN) (rR rfl rfl <| rR rfl rfl <| rN) fun r6 n7 => R rfl (asg rfl) <| gNil <| eThen <| gSeq <| gSeq <| gReg <| R rfl (mv rfl) <| R rfl (I.lss rfl rfl) <| gNil <| eThen <| gIf rfl rfl (fun h8 => ?_) (fun h8 => ?_)
  · skip
    refine gSeq <| gReg <| R rfl (bld (x' := (⟨0, 0, 0, 0⟩ : session_rule)) [(0, 1), (1, 1), (2, 1), (3, 1)] Try.underlying161 ti161 rfl zr161 rfl (Bld.done rfl)) <| Es (sto 3 rfl rfl Foc.here rfl ti161) <| R rfl (asg rfl) <| gNil <| eThen <| gRet <| eTret <| eRet [] [] rfl (eC 3 rfl rfl ty161 <| eE rfl <| eN) (rN)
  · skip
    refine gSkip <| eThen <| gSeq <| gReg <| R rfl (mv rfl) <| R rfl (mv rfl) <| lBind fun x9 h10 => R rfl (ixR rfl rfl h10 Try.underlying180 ti161 rfl) <| R rfl (ldR rfl ty161) <| Es (sto 3 rfl rfl Foc.here rfl ti161) <| R rfl (asg rfl) <| gNil <| eThen <| gRet <| eRet [] [] rfl (eC 3 rfl rfl ty161 <| eE rfl <| eN) (rN)


def session_Next (a0 : UInt8) (a1 : UInt8) : Option (UInt8 × Int) :=
  (if decide (a0 < 1) then
    some true
  else
    if decide (5 < a0) then
      some true
    else
      if decide (a1 < 1) then
        some true
      else
        some (decide (6 < a1))) >>= fun s1 =>
  if s1 then
    some (0, 2)
  else
    session_find a0 a1 >>= fun r6 =>
    if r6.2 then
      some (r6.1.next, 0)
    else
      some (max a0 4, 0)
set_option maxRecDepth 100000 in
theorem session_Next_ok (a0 : UInt8) (a1 : UInt8) : Spec Try.prog 55 [.rd u8R a0, .rd u8R a1] [] (session_Next a0 a1) (fun r nv => ⟨[.rd u8R r.1, .rd i64R r.2], []⟩) := by
  refine spec 33 Try.func55 rfl rfl rfl fun H w => ?_
  refine gSeq <| gReg <| R rfl (asg rfl) <| R rfl (asg rfl) <| gNil <| eThen <| gSeq <| gMid (fun (s1 : Bool) aa ww => Sta (ctx 33 H [] w) [(0, .rd u8R a0), (1, .rd u8R a1), (21, .rd boolR s1)] [] aa ww) ?_ (fun s1 => ?_)
  · skip
    refine gReg <| R rfl (mv rfl) <| R rfl (B.lss rfl rfl) <| R rfl (mv rfl) <| lSplit 10 rfl (fun h2 => ?_) (fun h2 => ?_)
    · skip
      refine lKn 9 rfl h2 <| lSkip (gd rfl rfl rfl rfl) rfl rfl <| lSkip (gd rfl rfl rfl rfl) rfl rfl <| R rfl (pkT rfl rfl) <| R rfl (mv rfl) <| lSkip (gd rfl rfl rfl rfl) rfl rfl <| lSkip (gd rfl rfl rfl rfl) rfl rfl <| R rfl (pkT rfl rfl) <| R rfl (mv rfl) <| lSkip (gd rfl rfl rfl rfl) rfl rfl <| lSkip (gd rfl rfl rfl rfl) rfl rfl <| R rfl (pkT rfl rfl) <| gNil <| eMid (fun aa ww h => h.sub [] (sS rfl <| sS rfl <| sS rfl <| sN) (rN))
    · skip
      refine lKn 9 rfl h2 <| lRun (gd rfl rfl rfl rfl) rfl rfl (mv rfl) <| lRun (gd rfl rfl rfl rfl) rfl rfl (B.gtr rfl rfl) <| R rfl (pkF rfl rfl) <| R rfl (mv rfl) <| lSplit 14 rfl (fun h3 => ?_) (fun h3 => ?_)
      · skip
        refine lKn 12 rfl h3 <| lKn 13 rfl h3 <| lSkip (gd rfl rfl rfl rfl) rfl rfl <| lSkip (gd rfl rfl rfl rfl) rfl rfl <| R rfl (pkT rfl rfl) <| R rfl (mv rfl) <| lSkip (gd rfl rfl rfl rfl) rfl rfl <| lSkip (gd rfl rfl rfl rfl) rfl rfl <| R rfl (pkT rfl rfl) <| gNil <| eMid (fun aa ww h => h.sub [] (sS rfl <| sS rfl <| sS rfl <| sN) (rN))
      · skip
        refine lKn 12 rfl h3 <| lKn 13 rfl h3 <| lRun (gd rfl rfl rfl rfl) rfl rfl (mv rfl) <| lRun (gd rfl rfl rfl rfl) rfl rfl (B.lss rfl rfl) <| R rfl (pkF rfl rfl) <| R rfl (mv rfl) <| lSplit 18 rfl (fun h4 => ?_) (fun h4 => ?_)
        · skip
          refine lKn 16 rfl h4 <| lKn 17 rfl h4 <| lSkip (gd rfl rfl rfl rfl) rfl rfl <| lSkip (gd rfl rfl rfl rfl) rfl rfl <| R rfl (pkT rfl rfl) <| gNil <| eMid (fun aa ww h => h.sub [] (sS rfl <| sS rfl <| sS rfl <| sN) (rN))
        · skip
          refine lKn 16 rfl h4 <| lKn 17 rfl h4 <| lRun (gd rfl rfl rfl rfl) rfl rfl (mv rfl) <| lRun (gd rfl rfl rfl rfl) rfl rfl (B.gtr rfl rfl) <| R rfl (pkF rfl rfl) <| gNil <| eMid (fun aa ww h => h.sub [] (sS rfl <| sS rfl <| sS rfl <| sN) (rN))
  · skip
    refine gIf rfl rfl (fun h5 => ?_) (fun h5 => ?_)
    · skip
      refine gSeq <| gReg <| R rfl (asg rfl) <| R rfl (asg rfl) <| gNil <| eThen <| gRet <| eTret <| eRet [] [] rfl (eE rfl <| eE rfl <| eN) (rN)
    · skip
      refine gSkip <| eThen <| gSeq <| gSeq <| gReg <| R rfl (mv rfl) <| R rfl (mv rfl) <| call [] [] rfl Try.func113 rfl rfl (session_find_ok _ _) (aQ rfl <| aQ rfl <| aN) rN fun r6 n7 => R rfl (mv rfl) <| R rfl (ext rfl rfl) <| R rfl (ext rfl rfl) <| Eb rfl (allc 1 ti161 (.zr zr161)) fun v8 => Es (sto 1 rfl rfl Foc.here rfl ti161) <| R rfl (asg rfl) <| gNil <| eThen <| gSeq <| gReg <| R rfl (mv rfl) <| gNil <| eThen <| gIf rfl rfl (fun h9 => ?_) (fun h9 => ?_)
      · skip
        refine gKn 27 rfl h9 <| gKn 7 rfl h9 <| gSeq <| gReg <| R rfl (faB 1 rfl rfl Try.underlying161 rfl (by exact ti5)) <| R rfl (ld 1 rfl rfl ((Foc.here).part (pt_session_rule_next _)) ty5 rfl) <| R rfl (asg rfl) <| R rfl (asg rfl) <| gNil <| eThen <| gRet <| eTret <| eRet [] [] rfl (eE rfl <| eE rfl <| eN) (rN)
      · skip
        refine gKn 27 rfl h9 <| gKn 7 rfl h9 <| gSkip <| eThen <| gSeq <| gReg <| R rfl (mv rfl) <| R rfl (B.max rfl rfl) <| R rfl (asg rfl) <| R rfl (asg rfl) <| gNil <| eThen <| gRet <| eRet [] [] rfl (eE rfl <| eE rfl <| eN) (rN)


def braidref25_State (a0 : UInt8) (a1 : UInt8) : Option (UInt8 × UInt8) :=
  (if a0 == 4 then
    some true
  else
    some (a0 == 5)) >>= fun s1 =>
  if s1 then
    some (a0, 0)
  else
    if a1 == 6 then
      some (4, 6)
    else
      (if a0 == 1 then
        some (a1 == 1)
      else
        some false) >>= fun s5 =>
      if s5 then
        some (2, 1)
      else
        (if a0 == 1 then
          some true
        else
          some (a1 == 1)) >>= fun s8 =>
        if s8 then
          some (4, 0)
        else
          if a1 == 2 then
            some (3, 3)
          else
            if a0 == 2 then
              some (4, 0)
            else
              if a1 == 3 then
                some (3, 4)
              else
                if a1 == 4 then
                  some (3, 3)
                else
                  some (3, 5)
set_option maxRecDepth 100000 in
theorem braidref25_State_ok (a0 : UInt8) (a1 : UInt8) : Spec Try.prog 114 [.rd u8R a0, .rd u8R a1] [] (braidref25_State a0 a1) (fun r nv => ⟨[.rd u8R r.1, .rd u8R r.2], []⟩) := by
  refine spec 43 Try.func114 rfl rfl rfl fun H w => ?_
  refine gSeq <| gReg <| R rfl (asg rfl) <| R rfl (asg rfl) <| gNil <| eThen <| gSeq <| gBlk <| gMid (fun (s1 : Bool) aa ww => Sta (ctx 43 H [] w) [(0, .rd u8R a0), (1, .rd u8R a1), (6, .rd boolR s1)] [] aa ww) ?_ (fun s1 => ?_)
  · skip
    refine gReg <| R rfl (mv rfl) <| R rfl (B.eql rfl rfl) <| R rfl (mv rfl) <| lSplit 9 rfl (fun h2 => ?_) (fun h2 => ?_)
    · skip
      refine lKn 8 rfl h2 <| lSkip (gd rfl rfl rfl rfl) rfl rfl <| lSkip (gd rfl rfl rfl rfl) rfl rfl <| R rfl (pkT rfl rfl) <| R rfl (asg rfl) <| gNil <| eMid (fun aa ww h => h.sub [] (sS rfl <| sS rfl <| sS rfl <| sN) (rN))
    · skip
      refine lKn 8 rfl h2 <| lRun (gd rfl rfl rfl rfl) rfl rfl (mv rfl) <| lRun (gd rfl rfl rfl rfl) rfl rfl (B.eql rfl rfl) <| R rfl (pkF rfl rfl) <| R rfl (asg rfl) <| gNil <| eMid (fun aa ww h => h.sub [] (sS rfl <| sS rfl <| sS rfl <| sN) (rN))
  · skip
    refine gIf rfl rfl (fun h3 => ?_) (fun h3 => ?_)
    · skip
      refine gSeq <| gReg <| R rfl (mv rfl) <| R rfl (asg rfl) <| R rfl (asg rfl) <| gNil <| eThen <| gRet <| eBret <| eTret <| eRet [] [] rfl (eE rfl <| eE rfl <| eN) (rN)
    · skip
      refine gSeq <| gReg <| R rfl (mv rfl) <| R rfl (B.eql rfl rfl) <| R rfl (asg rfl) <| gNil <| eThen <| gIf rfl rfl (fun h4 => ?_) (fun h4 => ?_)
      · skip
        refine gKn 16 rfl h4 <| gSeq <| gReg <| R rfl (asg rfl) <| R rfl (asg rfl) <| gNil <| eThen <| gRet <| eBret <| eTret <| eRet [] [] rfl (eE rfl <| eE rfl <| eN) (rN)
      · skip
        refine gKn 16 rfl h4 <| gMid (fun (s5 : Bool) aa ww => Sta (ctx 43 H [] w) [(0, .rd u8R a0), (1, .rd u8R a1), (17, .rd boolR s5)] [] aa ww) ?_ (fun s5 => ?_)
        · skip
          refine gReg <| R rfl (mv rfl) <| R rfl (B.eql rfl rfl) <| R rfl (mv rfl) <| lSplit 20 rfl (fun h6 => ?_) (fun h6 => ?_)
          · skip
            refine lKn 19 rfl h6 <| lRun (gd rfl rfl rfl rfl) rfl rfl (mv rfl) <| lRun (gd rfl rfl rfl rfl) rfl rfl (B.eql rfl rfl) <| R rfl (pkT rfl rfl) <| R rfl (asg rfl) <| gNil <| eMid (fun aa ww h => h.sub [] (sS rfl <| sS rfl <| sS rfl <| sN) (rN))
          · skip
            refine lKn 19 rfl h6 <| lSkip (gd rfl rfl rfl rfl) rfl rfl <| lSkip (gd rfl rfl rfl rfl) rfl rfl <| R rfl (pkF rfl rfl) <| R rfl (asg rfl) <| gNil <| eMid (fun aa ww h => h.sub [] (sS rfl <| sS rfl <| sS rfl <| sN) (rN))
        · skip
          refine gIf rfl rfl (fun h7 => ?_) (fun h7 => ?_)
          · skip
            refine gSeq <| gReg <| R rfl (asg rfl) <| R rfl (asg rfl) <| gNil <| eThen <| gRet <| eBret <| eTret <| eRet [] [] rfl (eE rfl <| eE rfl <| eN) (rN)
          · skip
            refine gMid (fun (s8 : Bool) aa ww => Sta (ctx 43 H [] w) [(0, .rd u8R a0), (1, .rd u8R a1), (24, .rd boolR s8)] [] aa ww) ?_ (fun s8 => ?_)
            · skip
              refine gReg <| R rfl (mv rfl) <| R rfl (B.eql rfl rfl) <| R rfl (mv rfl) <| lSplit 27 rfl (fun h9 => ?_) (fun h9 => ?_)
              · skip
                refine lKn 26 rfl h9 <| lSkip (gd rfl rfl rfl rfl) rfl rfl <| lSkip (gd rfl rfl rfl rfl) rfl rfl <| R rfl (pkT rfl rfl) <| R rfl (asg rfl) <| gNil <| eMid (fun aa ww h => h.sub [] (sS rfl <| sS rfl <| sS rfl <| sN) (rN))
              · skip
                refine lKn 26 rfl h9 <| lRun (gd rfl rfl rfl rfl) rfl rfl (mv rfl) <| lRun (gd rfl rfl rfl rfl) rfl rfl (B.eql rfl rfl) <| R rfl (pkF rfl rfl) <| R rfl (asg rfl) <| gNil <| eMid (fun aa ww h => h.sub [] (sS rfl <| sS rfl <| sS rfl <| sN) (rN))
            · skip
              refine gIf rfl rfl (fun h10 => ?_) (fun h10 => ?_)
              · skip
                refine gSeq <| gReg <| R rfl (asg rfl) <| R rfl (asg rfl) <| gNil <| eThen <| gRet <| eBret <| eTret <| eRet [] [] rfl (eE rfl <| eE rfl <| eN) (rN)
              · skip
                refine gSeq <| gReg <| R rfl (mv rfl) <| R rfl (B.eql rfl rfl) <| R rfl (asg rfl) <| gNil <| eThen <| gIf rfl rfl (fun h11 => ?_) (fun h11 => ?_)
                · skip
                  refine gKn 33 rfl h11 <| gSeq <| gReg <| R rfl (asg rfl) <| R rfl (asg rfl) <| gNil <| eThen <| gRet <| eBret <| eTret <| eRet [] [] rfl (eE rfl <| eE rfl <| eN) (rN)
                · skip
                  refine gKn 33 rfl h11 <| gSeq <| gReg <| R rfl (mv rfl) <| R rfl (B.eql rfl rfl) <| R rfl (asg rfl) <| gNil <| eThen <| gIf rfl rfl (fun h12 => ?_) (fun h12 => ?_)
                  · skip
                    refine gKn 36 rfl h12 <| gSeq <| gReg <| R rfl (asg rfl) <| R rfl (asg rfl) <| gNil <| eThen <| gRet <| eBret <| eTret <| eRet [] [] rfl (eE rfl <| eE rfl <| eN) (rN)
                  · skip
                    refine gKn 36 rfl h12 <| gSeq <| gReg <| R rfl (mv rfl) <| R rfl (B.eql rfl rfl) <| R rfl (asg rfl) <| gNil <| eThen <| gIf rfl rfl (fun h13 => ?_) (fun h13 => ?_)
                    · skip
                      refine gKn 39 rfl h13 <| gSeq <| gReg <| R rfl (asg rfl) <| R rfl (asg rfl) <| gNil <| eThen <| gRet <| eBret <| eTret <| eRet [] [] rfl (eE rfl <| eE rfl <| eN) (rN)
                    · skip
                      refine gKn 39 rfl h13 <| gSeq <| gReg <| R rfl (mv rfl) <| R rfl (B.eql rfl rfl) <| R rfl (asg rfl) <| gNil <| eThen <| gIf rfl rfl (fun h14 => ?_) (fun h14 => ?_)
                      · skip
                        refine gKn 42 rfl h14 <| gSeq <| gReg <| R rfl (asg rfl) <| R rfl (asg rfl) <| gNil <| eThen <| gRet <| eBret <| eTret <| eRet [] [] rfl (eE rfl <| eE rfl <| eN) (rN)
                      · skip
                        refine gKn 42 rfl h14 <| gSkip <| eBlk <| eThen <| gSeq <| gReg <| R rfl (asg rfl) <| R rfl (asg rfl) <| gNil <| eThen <| gRet <| eRet [] [] rfl (eE rfl <| eE rfl <| eN) (rN)


def braidref25_Next (a0 : UInt8) (a1 : UInt8) : Option (UInt8 × Int) :=
  (if decide (a0 < 1) then
    some true
  else
    if decide (5 < a0) then
      some true
    else
      if decide (a1 < 1) then
        some true
      else
        some (decide (6 < a1))) >>= fun s1 =>
  if s1 then
    some (0, 2)
  else
    braidref25_State a0 a1 >>= fun r6 =>
    some (r6.1, 0)
set_option maxRecDepth 100000 in
theorem braidref25_Next_ok (a0 : UInt8) (a1 : UInt8) : Spec Try.prog 56 [.rd u8R a0, .rd u8R a1] [] (braidref25_Next a0 a1) (fun r nv => ⟨[.rd u8R r.1, .rd i64R r.2], []⟩) := by
  refine spec 29 Try.func56 rfl rfl rfl fun H w => ?_
  refine gSeq <| gReg <| R rfl (asg rfl) <| R rfl (asg rfl) <| gNil <| eThen <| gSeq <| gMid (fun (s1 : Bool) aa ww => Sta (ctx 29 H [] w) [(0, .rd u8R a0), (1, .rd u8R a1), (21, .rd boolR s1)] [] aa ww) ?_ (fun s1 => ?_)
  · skip
    refine gReg <| R rfl (mv rfl) <| R rfl (B.lss rfl rfl) <| R rfl (mv rfl) <| lSplit 10 rfl (fun h2 => ?_) (fun h2 => ?_)
    · skip
      refine lKn 9 rfl h2 <| lSkip (gd rfl rfl rfl rfl) rfl rfl <| lSkip (gd rfl rfl rfl rfl) rfl rfl <| R rfl (pkT rfl rfl) <| R rfl (mv rfl) <| lSkip (gd rfl rfl rfl rfl) rfl rfl <| lSkip (gd rfl rfl rfl rfl) rfl rfl <| R rfl (pkT rfl rfl) <| R rfl (mv rfl) <| lSkip (gd rfl rfl rfl rfl) rfl rfl <| lSkip (gd rfl rfl rfl rfl) rfl rfl <| R rfl (pkT rfl rfl) <| gNil <| eMid (fun aa ww h => h.sub [] (sS rfl <| sS rfl <| sS rfl <| sN) (rN))
    · skip
      refine lKn 9 rfl h2 <| lRun (gd rfl rfl rfl rfl) rfl rfl (mv rfl) <| lRun (gd rfl rfl rfl rfl) rfl rfl (B.gtr rfl rfl) <| R rfl (pkF rfl rfl) <| R rfl (mv rfl) <| lSplit 14 rfl (fun h3 => ?_) (fun h3 => ?_)
      · skip
        refine lKn 12 rfl h3 <| lKn 13 rfl h3 <| lSkip (gd rfl rfl rfl rfl) rfl rfl <| lSkip (gd rfl rfl rfl rfl) rfl rfl <| R rfl (pkT rfl rfl) <| R rfl (mv rfl) <| lSkip (gd rfl rfl rfl rfl) rfl rfl <| lSkip (gd rfl rfl rfl rfl) rfl rfl <| R rfl (pkT rfl rfl) <| gNil <| eMid (fun aa ww h => h.sub [] (sS rfl <| sS rfl <| sS rfl <| sN) (rN))
      · skip
        refine lKn 12 rfl h3 <| lKn 13 rfl h3 <| lRun (gd rfl rfl rfl rfl) rfl rfl (mv rfl) <| lRun (gd rfl rfl rfl rfl) rfl rfl (B.lss rfl rfl) <| R rfl (pkF rfl rfl) <| R rfl (mv rfl) <| lSplit 18 rfl (fun h4 => ?_) (fun h4 => ?_)
        · skip
          refine lKn 16 rfl h4 <| lKn 17 rfl h4 <| lSkip (gd rfl rfl rfl rfl) rfl rfl <| lSkip (gd rfl rfl rfl rfl) rfl rfl <| R rfl (pkT rfl rfl) <| gNil <| eMid (fun aa ww h => h.sub [] (sS rfl <| sS rfl <| sS rfl <| sN) (rN))
        · skip
          refine lKn 16 rfl h4 <| lKn 17 rfl h4 <| lRun (gd rfl rfl rfl rfl) rfl rfl (mv rfl) <| lRun (gd rfl rfl rfl rfl) rfl rfl (B.gtr rfl rfl) <| R rfl (pkF rfl rfl) <| gNil <| eMid (fun aa ww h => h.sub [] (sS rfl <| sS rfl <| sS rfl <| sN) (rN))
  · skip
    refine gIf rfl rfl (fun h5 => ?_) (fun h5 => ?_)
    · skip
      refine gSeq <| gReg <| R rfl (asg rfl) <| R rfl (asg rfl) <| gNil <| eThen <| gRet <| eTret <| eRet [] [] rfl (eE rfl <| eE rfl <| eN) (rN)
    · skip
      refine gSkip <| eThen <| gSeq <| gReg <| R rfl (mv rfl) <| R rfl (mv rfl) <| call [] [] rfl Try.func114 rfl rfl (braidref25_State_ok _ _) (aQ rfl <| aQ rfl <| aN) rN fun r6 n7 => R rfl (mv rfl) <| R rfl (ext rfl rfl) <| R rfl (ext rfl rfl) <| R rfl (asg rfl) <| R rfl (asg rfl) <| gNil <| eThen <| gSeq <| gReg <| R rfl (mv rfl) <| R rfl (asg rfl) <| R rfl (asg rfl) <| gNil <| eThen <| gRet <| eRet [] [] rfl (eE rfl <| eE rfl <| eN) (rN)


def session_New  : Option (api_Session) :=
  some (⟨1, 0, 0, 0⟩ : api_Session)
set_option maxRecDepth 100000 in
theorem session_New_ok  : Spec Try.prog 57 [] [] (session_New) (fun r nv => ⟨[.rd R_api_Session r], []⟩) := by
  refine spec 2 Try.func57 rfl rfl rfl fun H w => ?_
  refine gSeq <| gReg <| Eb rfl (allc 1 ti66 (.zr zr66)) fun v1 => gNil <| eThen <| gSeq <| gReg <| R rfl (bld (x' := (⟨1, 0, 0, 0⟩ : api_Session)) [(0, 1), (1, 1), (2, 1), (3, 1)] Try.underlying66 ti66 rfl zr66 rfl (Bld.cons (pt_api_Session_State _) rfl rfl <| Bld.done rfl)) <| Es (sto 1 rfl rfl Foc.here rfl ti66) <| gNil <| eThen <| gRet <| eRet [] [] rfl (eC 1 rfl rfl ty66 <| eN) (rN)

def braidref25_SameFrame_L0 (a0 : api_Frame) (a1 : api_Frame) (s9 : Int) : Option (Sum (Sum Bool Unit) Int) :=
  if decide (s9 < (a0.IDs.length : Int)) then
    idx a0.IDs s9 >>= fun x11 =>
    idx a1.IDs s9 >>= fun x13 =>
    if !decide (x11 = x13) then
      some (.inl (.inl false))
    else
      some (.inr (w64 (s9 + 1)))
  else
    some (.inl (.inr ()))
def braidref25_SameFrame_L2 (a0 : api_Frame) (a1 : api_Frame) (s17 : Int) : Option (Sum (Sum Bool Unit) Int) :=
  if decide (s17 < (a0.Ops.length : Int)) then
    idx a0.Ops s17 >>= fun x19 =>
    idx a1.Ops s17 >>= fun x21 =>
    if x19 != x21 then
      some (.inl (.inl false))
    else
      some (w64 (s17 + 1)) >>= fun y24 =>
      some (.inr y24)
  else
    some (.inl (.inr ()))
def braidref25_SameFrame (a0 : api_Frame) (a1 : api_Frame) : Option (Bool) :=
  (if a0.Kind != a1.Kind then
    some true
  else
    if a0.N != a1.N then
      some true
    else
      if (a0.IDs.length : Int) != (a1.IDs.length : Int) then
        some true
      else
        some ((a0.Ops.length : Int) != (a1.Ops.length : Int))) >>= fun s3 =>
  if s3 then
    some false
  else
    orRet (iter (braidref25_SameFrame_L0 a0 a1) 0) fun s8 =>
    orRet (iter (braidref25_SameFrame_L2 a0 a1) 0) fun s16 =>
    some true
set_option maxRecDepth 100000 in
theorem braidref25_SameFrame_ok (a0 : api_Frame) (a1 : api_Frame) : Spec Try.prog 87 [.rd R_api_Frame a0, .rd R_api_Frame a1] [] (braidref25_SameFrame a0 a1) (fun r nv => ⟨[.rd boolR r], []⟩) := by
  refine spec 75 Try.func87 rfl rfl rfl fun H w => ?_
  refine gSeq <| gReg <| Eb rfl (bx 1 rfl) fun v1 => Eb rfl (bx 2 rfl) fun v2 => R rfl (asg rfl) <| gNil <| eThen <| gSeq <| gMid (fun (s3 : Bool) aa ww => Sta (ctx 75 H [] w) [(2, .val (ptrTo v1 0)), (3, .val (ptrTo v2 0)), (36, .rd boolR s3)] [(1, some (v1, .box 105 [.rd R_api_Frame a0])), (2, some (v2, .box 105 [.rd R_api_Frame a1]))] aa ww) ?_ (fun s3 => ?_)
  · skip
    refine gReg <| R rfl (faB 1 rfl rfl Try.underlying105 rfl (by exact ti5)) <| R rfl (ld 1 rfl rfl ((Foc.here).part (pt_api_Frame_Kind _)) ty5 rfl) <| R rfl (faB 2 rfl rfl Try.underlying105 rfl (by exact ti5)) <| R rfl (ld 2 rfl rfl ((Foc.here).part (pt_api_Frame_Kind _)) ty5 rfl) <| R rfl (B.neq rfl rfl) <| R rfl (mv rfl) <| lSplit 12 rfl (fun h4 => ?_) (fun h4 => ?_)
    · skip
      refine lKn 11 rfl h4 <| lSkip (gd rfl rfl rfl rfl) rfl rfl <| lSkip (gd rfl rfl rfl rfl) rfl rfl <| lSkip (gd rfl rfl rfl rfl) rfl rfl <| lSkip (gd rfl rfl rfl rfl) rfl rfl <| lSkip (gd rfl rfl rfl rfl) rfl rfl <| R rfl (pkT rfl rfl) <| R rfl (mv rfl) <| lSkip (gd rfl rfl rfl rfl) rfl rfl <| lSkip (gd rfl rfl rfl rfl) rfl rfl <| lSkip (gd rfl rfl rfl rfl) rfl rfl <| lSkip (gd rfl rfl rfl rfl) rfl rfl <| lSkip (gd rfl rfl rfl rfl) rfl rfl <| lSkip (gd rfl rfl rfl rfl) rfl rfl <| lSkip (gd rfl rfl rfl rfl) rfl rfl <| R rfl (pkT rfl rfl) <| R rfl (mv rfl) <| lSkip (gd rfl rfl rfl rfl) rfl rfl <| lSkip (gd rfl rfl rfl rfl) rfl rfl <| lSkip (gd rfl rfl rfl rfl) rfl rfl <| lSkip (gd rfl rfl rfl rfl) rfl rfl <| lSkip (gd rfl rfl rfl rfl) rfl rfl <| lSkip (gd rfl rfl rfl rfl) rfl rfl <| lSkip (gd rfl rfl rfl rfl) rfl rfl <| R rfl (pkT rfl rfl) <| gNil <| eMid (fun aa ww h => h.sub [1, 2] (sS rfl <| sS rfl <| sS rfl <| sN) (rR rfl rfl <| rR rfl rfl <| rN))
    · skip
      refine lKn 11 rfl h4 <| lRun (gd rfl rfl rfl rfl) rfl rfl (faB 1 rfl rfl Try.underlying105 rfl (by exact ti31)) <| lRun (gd rfl rfl rfl rfl) rfl rfl (ld 1 rfl rfl ((Foc.here).part (pt_api_Frame_N _)) ty31 rfl) <| lRun (gd rfl rfl rfl rfl) rfl rfl (faB 2 rfl rfl Try.underlying105 rfl (by exact ti31)) <| lRun (gd rfl rfl rfl rfl) rfl rfl (ld 2 rfl rfl ((Foc.here).part (pt_api_Frame_N _)) ty31 rfl) <| lRun (gd rfl rfl rfl rfl) rfl rfl (U.neq rfl rfl) <| R rfl (pkF rfl rfl) <| R rfl (mv rfl) <| lSplit 19 rfl (fun h5 => ?_) (fun h5 => ?_)
      · skip
        refine lKn 17 rfl h5 <| lKn 18 rfl h5 <| lSkip (gd rfl rfl rfl rfl) rfl rfl <| lSkip (gd rfl rfl rfl rfl) rfl rfl <| lSkip (gd rfl rfl rfl rfl) rfl rfl <| lSkip (gd rfl rfl rfl rfl) rfl rfl <| lSkip (gd rfl rfl rfl rfl) rfl rfl <| lSkip (gd rfl rfl rfl rfl) rfl rfl <| lSkip (gd rfl rfl rfl rfl) rfl rfl <| R rfl (pkT rfl rfl) <| R rfl (mv rfl) <| lSkip (gd rfl rfl rfl rfl) rfl rfl <| lSkip (gd rfl rfl rfl rfl) rfl rfl <| lSkip (gd rfl rfl rfl rfl) rfl rfl <| lSkip (gd rfl rfl rfl rfl) rfl rfl <| lSkip (gd rfl rfl rfl rfl) rfl rfl <| lSkip (gd rfl rfl rfl rfl) rfl rfl <| lSkip (gd rfl rfl rfl rfl) rfl rfl <| R rfl (pkT rfl rfl) <| gNil <| eMid (fun aa ww h => h.sub [1, 2] (sS rfl <| sS rfl <| sS rfl <| sN) (rR rfl rfl <| rR rfl rfl <| rN))
      · skip
        refine lKn 17 rfl h5 <| lKn 18 rfl h5 <| lRun (gd rfl rfl rfl rfl) rfl rfl (faB 1 rfl rfl Try.underlying105 rfl (by exact ti83)) <| lRun (gd rfl rfl rfl rfl) rfl rfl (ld 1 rfl rfl ((Foc.here).part (pt_api_Frame_IDs _)) ty83 rfl) <| lRun (gd rfl rfl rfl rfl) rfl rfl (len' rfl .rd rfl Try.underlying83) <| lRun (gd rfl rfl rfl rfl) rfl rfl (faB 2 rfl rfl Try.underlying105 rfl (by exact ti83)) <| lRun (gd rfl rfl rfl rfl) rfl rfl (ld 2 rfl rfl ((Foc.here).part (pt_api_Frame_IDs _)) ty83 rfl) <| lRun (gd rfl rfl rfl rfl) rfl rfl (len' rfl .rd rfl Try.underlying83) <| lRun (gd rfl rfl rfl rfl) rfl rfl (I.neq rfl rfl) <| R rfl (pkF rfl rfl) <| R rfl (mv rfl) <| lSplit 28 rfl (fun h6 => ?_) (fun h6 => ?_)
        · skip
          refine lKn 26 rfl h6 <| lKn 27 rfl h6 <| lSkip (gd rfl rfl rfl rfl) rfl rfl <| lSkip (gd rfl rfl rfl rfl) rfl rfl <| lSkip (gd rfl rfl rfl rfl) rfl rfl <| lSkip (gd rfl rfl rfl rfl) rfl rfl <| lSkip (gd rfl rfl rfl rfl) rfl rfl <| lSkip (gd rfl rfl rfl rfl) rfl rfl <| lSkip (gd rfl rfl rfl rfl) rfl rfl <| R rfl (pkT rfl rfl) <| gNil <| eMid (fun aa ww h => h.sub [1, 2] (sS rfl <| sS rfl <| sS rfl <| sN) (rR rfl rfl <| rR rfl rfl <| rN))
        · skip
          refine lKn 26 rfl h6 <| lKn 27 rfl h6 <| lRun (gd rfl rfl rfl rfl) rfl rfl (faB 1 rfl rfl Try.underlying105 rfl (by exact ti103)) <| lRun (gd rfl rfl rfl rfl) rfl rfl (ld 1 rfl rfl ((Foc.here).part (pt_api_Frame_Ops _)) ty103 rfl) <| lRun (gd rfl rfl rfl rfl) rfl rfl (len' rfl .rd rfl Try.underlying103) <| lRun (gd rfl rfl rfl rfl) rfl rfl (faB 2 rfl rfl Try.underlying105 rfl (by exact ti103)) <| lRun (gd rfl rfl rfl rfl) rfl rfl (ld 2 rfl rfl ((Foc.here).part (pt_api_Frame_Ops _)) ty103 rfl) <| lRun (gd rfl rfl rfl rfl) rfl rfl (len' rfl .rd rfl Try.underlying103) <| lRun (gd rfl rfl rfl rfl) rfl rfl (I.neq rfl rfl) <| R rfl (pkF rfl rfl) <| gNil <| eMid (fun aa ww h => h.sub [1, 2] (sS rfl <| sS rfl <| sS rfl <| sN) (rR rfl rfl <| rR rfl rfl <| rN))
  · skip
    refine gIf rfl rfl (fun h7 => ?_) (fun h7 => ?_)
    · skip
      refine gSeq <| gReg <| R rfl (asg rfl) <| gNil <| eThen <| gRet <| eTret <| eRet [] [] rfl (eE rfl <| eN) (rN)
    · skip
      refine gSkip <| eThen <| gMidR (fun (s8 : Unit) aa ww => Sta (ctx 75 H [] w) [(2, .val (ptrTo v1 0)), (3, .val (ptrTo v2 0))] [(1, some (v1, .box 105 [.rd R_api_Frame a0])), (2, some (v2, .box 105 [.rd R_api_Frame a1]))] aa ww) ?_ (fun s8 => ?_)
      · skip
        refine gSeq <| gReg <| R rfl (asg rfl) <| gNil <| eThen <| gLoop (fun (s9 : Int) aa ww => Sta (ctx 75 H [] w) [(2, .val (ptrTo v1 0)), (3, .val (ptrTo v2 0)), (5, .rd i64R s9)] [(1, some (v1, .box 105 [.rd R_api_Frame a0])), (2, some (v2, .box 105 [.rd R_api_Frame a1]))] aa ww) (fun aa ww h => h.sub [1, 2] (sS rfl <| sS rfl <| sS rfl <| sN) (rR rfl rfl <| rR rfl rfl <| rN)) (fun s9 => ?_)
        refine gSeq <| gSeq <| gReg <| R rfl (mv rfl) <| R rfl (faB 1 rfl rfl Try.underlying105 rfl (by exact ti83)) <| R rfl (ld 1 rfl rfl ((Foc.here).part (pt_api_Frame_IDs _)) ty83 rfl) <| R rfl (len' rfl .rd rfl Try.underlying83) <| R rfl (I.lss rfl rfl) <| gNil <| eThen <| gIf rfl rfl (fun h10 => ?_) (fun h10 => ?_)
        · skip
          refine gSkip <| eThen <| gSeq <| gBlk <| gSeq <| gRegQ mixed (by kernel_rfl) <| Rq rfl (faB 1 rfl rfl Try.underlying105 rfl (by exact ti83)) <| Rq rfl (ld 1 rfl rfl ((Foc.here).part (pt_api_Frame_IDs _)) ty83 rfl) <| Rq rfl (mv rfl) <| qBind fun x11 h12 => Rq rfl (ixR rfl rfl h12 Try.underlying83 ti102 rfl) <| Rq rfl (ldR rfl ty102) <| Rq rfl (faB 2 rfl rfl Try.underlying105 rfl (by exact ti83)) <| Rq rfl (ld 2 rfl rfl ((Foc.here).part (pt_api_Frame_IDs _)) ty83 rfl) <| Rq rfl (mv rfl) <| qBind fun x13 h14 => Rq rfl (ixR rfl rfl h14 Try.underlying83 ti102 rfl) <| Rq rfl (ldR rfl ty102) <| Rq rfl (neA rfl rfl eq102 rfl rfl gq102) <| qNil <| eThen <| gIf rfl rfl (fun h15 => ?_) (fun h15 => ?_)
          · skip
            refine gSeq <| gReg <| R rfl (asg rfl) <| gNil <| eThen <| gRet <| eBret <| eTret <| eLret <| eMret <| eRet [] [] rfl (eE rfl <| eN) (rN)
          · skip
            refine gSkip <| eBlk <| eThen <| gReg <| R rfl (mv rfl) <| R rfl (I.add rfl rfl) <| R rfl (asg rfl) <| gNil <| eNext (fun aa ww h => h.sub [1, 2] (sS rfl <| sS rfl <| sS rfl <| sN) (rR rfl rfl <| rR rfl rfl <| rN))
        · skip
          refine gExit <| eTexit <| eLeave <| eMidR (fun aa ww h => h.sub [1, 2] (sS rfl <| sS rfl <| sN) (rR rfl rfl <| rR rfl rfl <| rN))
      · skip
        refine gMidR (fun (s16 : Unit) aa ww => Sta (ctx 75 H [] w) [] [] aa ww) ?_ (fun s16 => ?_)
        · skip
          refine gSeq <| gReg <| R rfl (asg rfl) <| gNil <| eThen <| gLoop (fun (s17 : Int) aa ww => Sta (ctx 75 H [] w) [(2, .val (ptrTo v1 0)), (3, .val (ptrTo v2 0)), (6, .rd i64R s17)] [(1, some (v1, .box 105 [.rd R_api_Frame a0])), (2, some (v2, .box 105 [.rd R_api_Frame a1]))] aa ww) (fun aa ww h => h.sub [1, 2] (sS rfl <| sS rfl <| sS rfl <| sN) (rR rfl rfl <| rR rfl rfl <| rN)) (fun s17 => ?_)
          refine gSeq <| gSeq <| gReg <| R rfl (mv rfl) <| R rfl (faB 1 rfl rfl Try.underlying105 rfl (by exact ti103)) <| R rfl (ld 1 rfl rfl ((Foc.here).part (pt_api_Frame_Ops _)) ty103 rfl) <| R rfl (len' rfl .rd rfl Try.underlying103) <| R rfl (I.lss rfl rfl) <| gNil <| eThen <| gIf rfl rfl (fun h18 => ?_) (fun h18 => ?_)
          · skip
            refine gSkip <| eThen <| gSeq <| gBlk <| gSeq <| gRegQ mixed (by kernel_rfl) <| Rq rfl (faB 1 rfl rfl Try.underlying105 rfl (by exact ti103)) <| Rq rfl (ld 1 rfl rfl ((Foc.here).part (pt_api_Frame_Ops _)) ty103 rfl) <| Rq rfl (mv rfl) <| qBind fun x19 h20 => Rq rfl (ixR rfl rfl h20 Try.underlying103 ti32 rfl) <| Rq rfl (ldR rfl ty32) <| Rq rfl (cvBS rfl Try.underlying32 Try.underlying5 Try.underlying9) <| Rq rfl (faB 2 rfl rfl Try.underlying105 rfl (by exact ti103)) <| Rq rfl (ld 2 rfl rfl ((Foc.here).part (pt_api_Frame_Ops _)) ty103 rfl) <| Rq rfl (mv rfl) <| qBind fun x21 h22 => Rq rfl (ixR rfl rfl h22 Try.underlying103 ti32 rfl) <| Rq rfl (ldR rfl ty32) <| Rq rfl (cvBS rfl Try.underlying32 Try.underlying5 Try.underlying9) <| Rq rfl (neS rfl rfl) <| qNil <| eThen <| gIf rfl rfl (fun h23 => ?_) (fun h23 => ?_)
            · skip
              refine gSeq <| gReg <| R rfl (asg rfl) <| gNil <| eThen <| gRet <| eBret <| eTret <| eLret <| eMret <| eRet [] [] rfl (eE rfl <| eN) (rN)
            · skip
              refine gSkip <| eBlk <| eThen <| gReg <| R rfl (mv rfl) <| R rfl (I.add rfl rfl) <| R rfl (asg rfl) <| lName 6 rfl fun y24 => gNil <| eNext (fun aa ww h => h.sub [1, 2] (sS rfl <| sS rfl <| sS rfl <| sN) (rR rfl rfl <| rR rfl rfl <| rN))
          · skip
            refine gExit <| eTexit <| eLeave <| eMidR (fun aa ww h => h.sub [] (sN) (rN))
        · skip
          refine gSeq <| gReg <| R rfl (asg rfl) <| gNil <| eThen <| gRet <| eRet [] [] rfl (eE rfl <| eN) (rN)

def braidref25_Same_L0 (a0 : List api_Doing) (a1 : List api_Doing) (s3 : Int) : Option (Sum (Sum Bool Unit) Int) :=
  if decide (s3 < (a0.length : Int)) then
    idx a0 s3 >>= fun x5 =>
    idx a1 s3 >>= fun x7 =>
    if x5.Kind != x7.Kind then
      some (.inl (.inl false))
    else
      idx a0 s3 >>= fun x10 =>
      idx a1 s3 >>= fun x12 =>
      braidref25_SameFrame x10.Frame x12.Frame >>= fun r14 =>
      if !r14 then
        some (.inl (.inl false))
      else
        some (.inr (w64 (s3 + 1)))
  else
    some (.inl (.inr ()))
def braidref25_Same (a0 : List api_Doing) (a1 : List api_Doing) : Option (Bool) :=
  if (a0.length : Int) != (a1.length : Int) then
    some false
  else
    orRet (iter (braidref25_Same_L0 a0 a1) 0) fun s2 =>
    some true
set_option maxRecDepth 100000 in
theorem braidref25_Same_ok (a0 : List api_Doing) (a1 : List api_Doing) : Spec Try.prog 58 [.rd (sliceR R_api_Doing) a0, .rd (sliceR R_api_Doing) a1] [] (braidref25_Same a0 a1) (fun r nv => ⟨[.rd boolR r], []⟩) := by
  refine spec 42 Try.func58 rfl rfl rfl fun H w => ?_
  refine gSeq <| gReg <| R rfl (asg rfl) <| gNil <| eThen <| gSeq <| gSeq <| gReg <| R rfl (mv rfl) <| R rfl (len' rfl .rd rfl Try.underlying67) <| R rfl (mv rfl) <| R rfl (len' rfl .rd rfl Try.underlying67) <| R rfl (I.neq rfl rfl) <| gNil <| eThen <| gIf rfl rfl (fun h1 => ?_) (fun h1 => ?_)
  · skip
    refine gSeq <| gReg <| R rfl (asg rfl) <| gNil <| eThen <| gRet <| eTret <| eRet [] [] rfl (eE rfl <| eN) (rN)
  · skip
    refine gSkip <| eThen <| gMidR (fun (s2 : Unit) aa ww => Sta (ctx 42 H [] w) [] [] aa ww) ?_ (fun s2 => ?_)
    · skip
      refine gSeq <| gReg <| R rfl (asg rfl) <| gNil <| eThen <| gLoop (fun (s3 : Int) aa ww => Sta (ctx 42 H [] w) [(0, .rd (sliceR R_api_Doing) a0), (1, .rd (sliceR R_api_Doing) a1), (5, .rd i64R s3)] [] aa ww) (fun aa ww h => h.sub [] (sS rfl <| sS rfl <| sS rfl <| sN) (rN)) (fun s3 => ?_)
      refine gSeq <| gSeq <| gReg <| R rfl (mv rfl) <| R rfl (mv rfl) <| R rfl (len' rfl .rd rfl Try.underlying67) <| R rfl (I.lss rfl rfl) <| gNil <| eThen <| gIf rfl rfl (fun h4 => ?_) (fun h4 => ?_)
      · skip
        refine gSkip <| eThen <| gSeq <| gBlk <| gSeq <| gRegH [] mixed rfl rfl <| hTake 0 rfl (by kernel_rfl) (by kernel_rfl) (by kernel_rfl) (gd0 rfl) rfl rfl (mv rfl) <| hTake 1 rfl (by kernel_rfl) (by kernel_rfl) (by kernel_rfl) (gd0 rfl) rfl rfl (mv rfl) <| hBind fun x5 h6 => hTake 2 rfl (by kernel_rfl) (by kernel_rfl) (by kernel_rfl) (gd0 rfl) rfl rfl (ixR rfl rfl h6 Try.underlying67 ti136 rfl) <| hTake 3 rfl (by kernel_rfl) (by kernel_rfl) (by kernel_rfl) (gd0 rfl) rfl rfl (faR rfl (pt_api_Doing_Kind _) Try.underlying136 rfl rfl (by exact ti5)) <| hTake 4 rfl (by kernel_rfl) (by kernel_rfl) (by kernel_rfl) (gd0 rfl) rfl rfl (ldR rfl ty5) <| hTake 5 rfl (by kernel_rfl) (by kernel_rfl) (by kernel_rfl) (gd0 rfl) rfl rfl (mv rfl) <| hTake 6 rfl (by kernel_rfl) (by kernel_rfl) (by kernel_rfl) (gd0 rfl) rfl rfl (mv rfl) <| hBind fun x7 h8 => hTake 7 rfl (by kernel_rfl) (by kernel_rfl) (by kernel_rfl) (gd0 rfl) rfl rfl (ixR rfl rfl h8 Try.underlying67 ti136 rfl) <| hTake 8 rfl (by kernel_rfl) (by kernel_rfl) (by kernel_rfl) (gd0 rfl) rfl rfl (faR rfl (pt_api_Doing_Kind _) Try.underlying136 rfl rfl (by exact ti5)) <| hTake 9 rfl (by kernel_rfl) (by kernel_rfl) (by kernel_rfl) (gd0 rfl) rfl rfl (ldR rfl ty5) <| hTake 10 rfl (by kernel_rfl) (by kernel_rfl) (by kernel_rfl) (gd0 rfl) rfl rfl (B.neq rfl rfl) <| hTake 11 rfl (by kernel_rfl) (by kernel_rfl) (by kernel_rfl) (gd0 rfl) rfl rfl (mv rfl) <| hIf 28 rfl rfl (fun h9 => ?_) (fun h9 => ?_)
        · skip
          refine hKn 27 rfl rfl h9 <| hSkip 12 rfl (by kernel_rfl) (by kernel_rfl) (by kernel_rfl) (gd rfl rfl rfl rfl) rfl rfl <| hSkip 13 rfl (by kernel_rfl) (by kernel_rfl) (by kernel_rfl) (gd rfl rfl rfl rfl) rfl rfl <| hSkip 14 rfl (by kernel_rfl) (by kernel_rfl) (by kernel_rfl) (gd rfl rfl rfl rfl) rfl rfl <| hSkip 15 rfl (by kernel_rfl) (by kernel_rfl) (by kernel_rfl) (gd rfl rfl rfl rfl) rfl rfl <| hSkip 16 rfl (by kernel_rfl) (by kernel_rfl) (by kernel_rfl) (gd rfl rfl rfl rfl) rfl rfl <| hSkip 17 rfl (by kernel_rfl) (by kernel_rfl) (by kernel_rfl) (gd rfl rfl rfl rfl) rfl rfl <| hSkip 18 rfl (by kernel_rfl) (by kernel_rfl) (by kernel_rfl) (gd rfl rfl rfl rfl) rfl rfl <| hSkip 19 rfl (by kernel_rfl) (by kernel_rfl) (by kernel_rfl) (gd rfl rfl rfl rfl) rfl rfl <| hSkip 20 rfl (by kernel_rfl) (by kernel_rfl) (by kernel_rfl) (gd rfl rfl rfl rfl) rfl rfl <| hSkip 21 rfl (by kernel_rfl) (by kernel_rfl) (by kernel_rfl) (gd rfl rfl rfl rfl) rfl rfl <| hSkip 22 rfl (by kernel_rfl) (by kernel_rfl) (by kernel_rfl) (gd rfl rfl rfl rfl) rfl rfl <| hSkip 23 rfl (by kernel_rfl) (by kernel_rfl) (by kernel_rfl) (gd rfl rfl rfl rfl) rfl rfl <| hTake 24 rfl (by kernel_rfl) (by kernel_rfl) (by kernel_rfl) (gd0 rfl) rfl rfl (pkT rfl rfl) <| hDone (by kernel_rfl) <| eThen <| gTrue rfl <| gSeq <| gReg <| R rfl (asg rfl) <| gNil <| eThen <| gRet <| eBret <| eTret <| eLret <| eMret <| eRet [] [] rfl (eE rfl <| eN) (rN)
        · skip
          refine hKn 27 rfl rfl h9 <| hTake 12 rfl (by kernel_rfl) (by kernel_rfl) (by kernel_rfl) (gd rfl rfl rfl rfl) rfl rfl (mv rfl) <| hTake 13 rfl (by kernel_rfl) (by kernel_rfl) (by kernel_rfl) (gd rfl rfl rfl rfl) rfl rfl (mv rfl) <| hBind fun x10 h11 => hTake 14 rfl (by kernel_rfl) (by kernel_rfl) (by kernel_rfl) (gd rfl rfl rfl rfl) rfl rfl (ixR rfl rfl h11 Try.underlying67 ti136 rfl) <| hTake 15 rfl (by kernel_rfl) (by kernel_rfl) (by kernel_rfl) (gd rfl rfl rfl rfl) rfl rfl (faR rfl (pt_api_Doing_Frame _) Try.underlying136 rfl rfl (by exact ti105)) <| hTake 16 rfl (by kernel_rfl) (by kernel_rfl) (by kernel_rfl) (gd rfl rfl rfl rfl) rfl rfl (ldR rfl ty105) <| hTake 17 rfl (by kernel_rfl) (by kernel_rfl) (by kernel_rfl) (gd rfl rfl rfl rfl) rfl rfl (mv rfl) <| hTake 18 rfl (by kernel_rfl) (by kernel_rfl) (by kernel_rfl) (gd rfl rfl rfl rfl) rfl rfl (mv rfl) <| hBind fun x12 h13 => hTake 19 rfl (by kernel_rfl) (by kernel_rfl) (by kernel_rfl) (gd rfl rfl rfl rfl) rfl rfl (ixR rfl rfl h13 Try.underlying67 ti136 rfl) <| hTake 20 rfl (by kernel_rfl) (by kernel_rfl) (by kernel_rfl) (gd rfl rfl rfl rfl) rfl rfl (faR rfl (pt_api_Doing_Frame _) Try.underlying136 rfl rfl (by exact ti105)) <| hTake 21 rfl (by kernel_rfl) (by kernel_rfl) (by kernel_rfl) (gd rfl rfl rfl rfl) rfl rfl (ldR rfl ty105) <| hCallF 22 [] [] rfl (by kernel_rfl) rfl (gd rfl rfl rfl rfl) rfl Try.func87 rfl rfl (braidref25_SameFrame_ok _ _) (aQ rfl <| aQ rfl <| aN) rN rfl (fun _ _ => flat_bool) fun r14 n15 => hTake 23 rfl (by kernel_rfl) (by kernel_rfl) (by kernel_rfl) (gd rfl rfl rfl rfl) rfl rfl (not' rfl) <| hTake 24 rfl (by kernel_rfl) (by kernel_rfl) (by kernel_rfl) (gd0 rfl) rfl rfl (pkF rfl rfl) <| hDone (by kernel_rfl) <| eThen <| gIf rfl rfl (fun h16 => ?_) (fun h16 => ?_)
          · skip
            refine gKn 40 rfl h16 <| gSeq <| gReg <| R rfl (asg rfl) <| gNil <| eThen <| gRet <| eBret <| eTret <| eLret <| eMret <| eRet [] [] rfl (eE rfl <| eN) (rN)
          · skip
            refine gKn 40 rfl h16 <| gSkip <| eBlk <| eThen <| gReg <| R rfl (mv rfl) <| R rfl (I.add rfl rfl) <| R rfl (asg rfl) <| gNil <| eNext (fun aa ww h => h.sub [] (sS rfl <| sS rfl <| sS rfl <| sN) (rN))
      · skip
        refine gExit <| eTexit <| eLeave <| eMidR (fun aa ww h => h.sub [] (sN) (rN))
    · skip
      refine gSeq <| gReg <| R rfl (asg rfl) <| gNil <| eThen <| gRet <| eRet [] [] rfl (eE rfl <| eN) (rN)


def braidlaw25_SessionEnds (a0 : api_Session) (a1 : UInt8) (a2 : UInt64) (a3 : UInt8) (a4 : UInt8) : Option (Bool) :=
  session_Broken a0 >>= fun r2 =>
  braidref25_Broken a0 >>= fun r5 =>
  session_Judged a0 a1 >>= fun r8 =>
  braidref25_Judged a0 a1 >>= fun r11 =>
  session_End a0 a2 >>= fun r14 =>
  braidref25_End a0 a2 >>= fun r17 =>
  session_Next a3 a4 >>= fun r20 =>
  braidref25_Next a3 a4 >>= fun r22 =>
  session_New >>= fun r24 =>
  if decide (r24 = (⟨1, 0, 0, 0⟩ : api_Session)) then
    if decide (r2.1 = r5.1) then
      braidref25_Same r2.2.1 r5.2.1 >>= fun r28 =>
      if r28 then
        if r2.2.2 == r5.2.2 then
          if decide (r8.1 = r11.1) then
            braidref25_Same r8.2.1 r11.2.1 >>= fun r33 =>
            if r33 then
              if r8.2.2 == r11.2.2 then
                if decide (r14.1 = r17.1) then
                  braidref25_Same r14.2.1 r17.2.1 >>= fun r38 =>
                  if r38 then
                    if r14.2.2 == r17.2.2 then
                      if r20.1 == r22.1 then
                        some (r20.2 == r22.2) >>= fun y43 =>
                        some y43
                      else
                        some false
                    else
                      some false
                  else
                    some false
                else
                  some false
              else
                some false
            else
              some false
          else
            some false
        else
          some false
      else
        some false
    else
      some false
  else
    some false
set_option maxRecDepth 100000 in
theorem braidlaw25_SessionEnds_ok (a0 : api_Session) (a1 : UInt8) (a2 : UInt64) (a3 : UInt8) (a4 : UInt8) : Spec Try.prog 8 [.rd R_api_Session a0, .rd u8R a1, .rd u64R a2, .rd u8R a3, .rd u8R a4] [] (braidlaw25_SessionEnds a0 a1 a2 a3 a4) (fun r nv => ⟨[.rd boolR r], []⟩) := by
  refine spec 143 Try.func8 rfl rfl rfl fun H w => ?_
  refine gSeq <| gReg <| Eb rfl (bx 1 rfl) fun v1 => R rfl (asg rfl) <| gNil <| eThen <| gSeq <| gReg <| R rfl (ld 1 rfl rfl Foc.here ty66 rfl) <| call [] [(100, 2)] rfl Try.func49 rfl rfl (session_Broken_ok _) (aQ rfl <| aN) rN fun r2 n3 => R rfl (mv rfl) <| R rfl (ext rfl rfl) <| R rfl (ext rfl rfl) <| R rfl (ext rfl rfl) <| Eb rfl (allc 3 ti66 (.zr zr66)) fun v4 => Es (sto 3 rfl rfl Foc.here rfl ti66) <| R rfl (asg rfl) <| R rfl (asg rfl) <| gNil <| eThen <| gSeq <| gReg <| R rfl (ld 1 rfl rfl Foc.here ty66 rfl) <| call [] [(100, 4)] rfl Try.func50 rfl rfl (braidref25_Broken_ok _) (aQ rfl <| aN) rN fun r5 n6 => R rfl (mv rfl) <| R rfl (ext rfl rfl) <| R rfl (ext rfl rfl) <| R rfl (ext rfl rfl) <| Eb rfl (allc 5 ti66 (.zr zr66)) fun v7 => Es (sto 5 rfl rfl Foc.here rfl ti66) <| R rfl (asg rfl) <| R rfl (asg rfl) <| gNil <| eThen <| gSeq <| gReg <| R rfl (ld 1 rfl rfl Foc.here ty66 rfl) <| R rfl (mv rfl) <| call [] [(100, 6)] rfl Try.func51 rfl rfl (session_Judged_ok _ _) (aQ rfl <| aQ rfl <| aN) rN fun r8 n9 => R rfl (mv rfl) <| R rfl (ext rfl rfl) <| R rfl (ext rfl rfl) <| R rfl (ext rfl rfl) <| Eb rfl (allc 7 ti66 (.zr zr66)) fun v10 => Es (sto 7 rfl rfl Foc.here rfl ti66) <| R rfl (asg rfl) <| R rfl (asg rfl) <| gNil <| eThen <| gSeq <| gReg <| R rfl (ld 1 rfl rfl Foc.here ty66 rfl) <| R rfl (mv rfl) <| call [] [(100, 8)] rfl Try.func52 rfl rfl (braidref25_Judged_ok _ _) (aQ rfl <| aQ rfl <| aN) rN fun r11 n12 => R rfl (mv rfl) <| R rfl (ext rfl rfl) <| R rfl (ext rfl rfl) <| R rfl (ext rfl rfl) <| Eb rfl (allc 9 ti66 (.zr zr66)) fun v13 => Es (sto 9 rfl rfl Foc.here rfl ti66) <| R rfl (asg rfl) <| R rfl (asg rfl) <| gNil <| eThen <| gSeq <| gReg <| R rfl (ld 1 rfl rfl Foc.here ty66 rfl) <| R rfl (mv rfl) <| call [] [(100, 10)] rfl Try.func53 rfl rfl (session_End_ok _ _) (aQ rfl <| aQ rfl <| aN) rN fun r14 n15 => R rfl (mv rfl) <| R rfl (ext rfl rfl) <| R rfl (ext rfl rfl) <| R rfl (ext rfl rfl) <| Eb rfl (allc 11 ti66 (.zr zr66)) fun v16 => Es (sto 11 rfl rfl Foc.here rfl ti66) <| R rfl (asg rfl) <| R rfl (asg rfl) <| gNil <| eThen <| gSeq <| gReg <| R rfl (ld 1 rfl rfl Foc.here ty66 rfl) <| R rfl (mv rfl) <| call [] [(100, 12)] rfl Try.func54 rfl rfl (braidref25_End_ok _ _) (aQ rfl <| aQ rfl <| aN) rN fun r17 n18 => R rfl (mv rfl) <| R rfl (ext rfl rfl) <| R rfl (ext rfl rfl) <| R rfl (ext rfl rfl) <| Eb rfl (allc 13 ti66 (.zr zr66)) fun v19 => Es (sto 13 rfl rfl Foc.here rfl ti66) <| R rfl (asg rfl) <| R rfl (asg rfl) <| gNil <| eThen <| gSeq <| gReg <| R rfl (mv rfl) <| R rfl (mv rfl) <| call [] [] rfl Try.func55 rfl rfl (session_Next_ok _ _) (aQ rfl <| aQ rfl <| aN) rN fun r20 n21 => R rfl (mv rfl) <| R rfl (ext rfl rfl) <| R rfl (ext rfl rfl) <| R rfl (asg rfl) <| R rfl (asg rfl) <| gNil <| eThen <| gSeq <| gReg <| R rfl (mv rfl) <| R rfl (mv rfl) <| call [] [] rfl Try.func56 rfl rfl (braidref25_Next_ok _ _) (aQ rfl <| aQ rfl <| aN) rN fun r22 n23 => R rfl (mv rfl) <| R rfl (ext rfl rfl) <| R rfl (ext rfl rfl) <| R rfl (asg rfl) <| R rfl (asg rfl) <| gNil <| eThen <| gSeq <| gReg <| call [] [] rfl Try.func57 rfl rfl (session_New_ok) (aN) rN fun r24 n25 => R rfl (bld (x' := (⟨1, 0, 0, 0⟩ : api_Session)) [(0, 1), (1, 1), (2, 1), (3, 1)] Try.underlying66 ti66 rfl zr66 rfl (Bld.cons (pt_api_Session_State _) rfl rfl <| Bld.done rfl)) <| R rfl (eqA rfl rfl eq66 rfl rfl gq66) <| R rfl (mv rfl) <| lSplit 88 rfl (fun h26 => ?_) (fun h26 => ?_)
  · skip
    refine lKn 87 rfl h26 <| lRun (gd rfl rfl rfl rfl) rfl rfl (ld 3 rfl rfl Foc.here ty66 rfl) <| lRun (gd rfl rfl rfl rfl) rfl rfl (ld 5 rfl rfl Foc.here ty66 rfl) <| lRun (gd rfl rfl rfl rfl) rfl rfl (eqA rfl rfl eq66 rfl rfl gq66) <| R rfl (pkT rfl rfl) <| R rfl (mv rfl) <| lSplit 93 rfl (fun h27 => ?_) (fun h27 => ?_)
    · skip
      refine lKn 91 rfl h27 <| lKn 92 rfl h27 <| lRun (gd rfl rfl rfl rfl) rfl rfl (mv rfl) <| lRun (gd rfl rfl rfl rfl) rfl rfl (mv rfl) <| lFrz 2 [37, 12, 94] rfl (fS rfl <| fS rfl <| fS rfl <| fN) <| lFrz 4 [43, 15, 95] rfl (fS rfl <| fS rfl <| fS rfl <| fN) <| callg [] [] (gd rfl rfl rfl rfl) rfl Try.func58 rfl rfl (braidref25_Same_ok _ _) (aQ rfl <| aQ rfl <| aN) rN fun r28 n29 => R rfl (pkT rfl rfl) <| R rfl (mv rfl) <| lSplit 98 rfl (fun h30 => ?_) (fun h30 => ?_)
      · skip
        refine lKn 96 rfl h30 <| lKn 97 rfl h30 <| lRun (gd rfl rfl rfl rfl) rfl rfl (mv rfl) <| lRun (gd rfl rfl rfl rfl) rfl rfl (mv rfl) <| lRun (gd rfl rfl rfl rfl) rfl rfl (I.eql rfl rfl) <| R rfl (pkT rfl rfl) <| R rfl (mv rfl) <| lSplit 103 rfl (fun h31 => ?_) (fun h31 => ?_)
        · skip
          refine lKn 101 rfl h31 <| lKn 102 rfl h31 <| lRun (gd rfl rfl rfl rfl) rfl rfl (ld 7 rfl rfl Foc.here ty66 rfl) <| lRun (gd rfl rfl rfl rfl) rfl rfl (ld 9 rfl rfl Foc.here ty66 rfl) <| lRun (gd rfl rfl rfl rfl) rfl rfl (eqA rfl rfl eq66 rfl rfl gq66) <| R rfl (pkT rfl rfl) <| R rfl (mv rfl) <| lSplit 108 rfl (fun h32 => ?_) (fun h32 => ?_)
          · skip
            refine lKn 106 rfl h32 <| lKn 107 rfl h32 <| lRun (gd rfl rfl rfl rfl) rfl rfl (mv rfl) <| lRun (gd rfl rfl rfl rfl) rfl rfl (mv rfl) <| lFrz 6 [50, 18, 109] rfl (fS rfl <| fS rfl <| fS rfl <| fN) <| lFrz 8 [57, 21, 110] rfl (fS rfl <| fS rfl <| fS rfl <| fN) <| callg [] [] (gd rfl rfl rfl rfl) rfl Try.func58 rfl rfl (braidref25_Same_ok _ _) (aQ rfl <| aQ rfl <| aN) rN fun r33 n34 => R rfl (pkT rfl rfl) <| R rfl (mv rfl) <| lSplit 113 rfl (fun h35 => ?_) (fun h35 => ?_)
            · skip
              refine lKn 111 rfl h35 <| lKn 112 rfl h35 <| lRun (gd rfl rfl rfl rfl) rfl rfl (mv rfl) <| lRun (gd rfl rfl rfl rfl) rfl rfl (mv rfl) <| lRun (gd rfl rfl rfl rfl) rfl rfl (I.eql rfl rfl) <| R rfl (pkT rfl rfl) <| R rfl (mv rfl) <| lSplit 118 rfl (fun h36 => ?_) (fun h36 => ?_)
              · skip
                refine lKn 116 rfl h36 <| lKn 117 rfl h36 <| lRun (gd rfl rfl rfl rfl) rfl rfl (ld 11 rfl rfl Foc.here ty66 rfl) <| lRun (gd rfl rfl rfl rfl) rfl rfl (ld 13 rfl rfl Foc.here ty66 rfl) <| lRun (gd rfl rfl rfl rfl) rfl rfl (eqA rfl rfl eq66 rfl rfl gq66) <| R rfl (pkT rfl rfl) <| R rfl (mv rfl) <| lSplit 123 rfl (fun h37 => ?_) (fun h37 => ?_)
                · skip
                  refine lKn 121 rfl h37 <| lKn 122 rfl h37 <| lRun (gd rfl rfl rfl rfl) rfl rfl (mv rfl) <| lRun (gd rfl rfl rfl rfl) rfl rfl (mv rfl) <| lFrz 10 [64, 24, 124] rfl (fS rfl <| fS rfl <| fS rfl <| fN) <| lFrz 12 [71, 27, 125] rfl (fS rfl <| fS rfl <| fS rfl <| fN) <| callg [] [] (gd rfl rfl rfl rfl) rfl Try.func58 rfl rfl (braidref25_Same_ok _ _) (aQ rfl <| aQ rfl <| aN) rN fun r38 n39 => R rfl (pkT rfl rfl) <| R rfl (mv rfl) <| lSplit 128 rfl (fun h40 => ?_) (fun h40 => ?_)
                  · skip
                    refine lKn 126 rfl h40 <| lKn 127 rfl h40 <| lRun (gd rfl rfl rfl rfl) rfl rfl (mv rfl) <| lRun (gd rfl rfl rfl rfl) rfl rfl (mv rfl) <| lRun (gd rfl rfl rfl rfl) rfl rfl (I.eql rfl rfl) <| R rfl (pkT rfl rfl) <| R rfl (mv rfl) <| lSplit 133 rfl (fun h41 => ?_) (fun h41 => ?_)
                    · skip
                      refine lKn 131 rfl h41 <| lKn 132 rfl h41 <| lRun (gd rfl rfl rfl rfl) rfl rfl (mv rfl) <| lRun (gd rfl rfl rfl rfl) rfl rfl (mv rfl) <| lRun (gd rfl rfl rfl rfl) rfl rfl (B.eql rfl rfl) <| R rfl (pkT rfl rfl) <| R rfl (mv rfl) <| lSplit 138 rfl (fun h42 => ?_) (fun h42 => ?_)
                      · skip
                        refine lKn 136 rfl h42 <| lKn 137 rfl h42 <| lRun (gd rfl rfl rfl rfl) rfl rfl (mv rfl) <| lRun (gd rfl rfl rfl rfl) rfl rfl (mv rfl) <| lRun (gd rfl rfl rfl rfl) rfl rfl (I.eql rfl rfl) <| R rfl (pkT rfl rfl) <| R rfl (asg rfl) <| lName 10 rfl fun y43 => gNil <| eThen <| gRet <| eRet [] [] rfl (eE rfl <| eN) (rN)
                      · skip
                        refine lKn 136 rfl h42 <| lKn 137 rfl h42 <| lSkip (gd rfl rfl rfl rfl) rfl rfl <| lSkip (gd rfl rfl rfl rfl) rfl rfl <| lSkip (gd rfl rfl rfl rfl) rfl rfl <| R rfl (pkF rfl rfl) <| R rfl (asg rfl) <| gNil <| eThen <| gRet <| eRet [] [] rfl (eE rfl <| eN) (rN)
                    · skip
                      refine lKn 131 rfl h41 <| lKn 132 rfl h41 <| lSkip (gd rfl rfl rfl rfl) rfl rfl <| lSkip (gd rfl rfl rfl rfl) rfl rfl <| lSkip (gd rfl rfl rfl rfl) rfl rfl <| R rfl (pkF rfl rfl) <| R rfl (mv rfl) <| lSkip (gd rfl rfl rfl rfl) rfl rfl <| lSkip (gd rfl rfl rfl rfl) rfl rfl <| lSkip (gd rfl rfl rfl rfl) rfl rfl <| R rfl (pkF rfl rfl) <| R rfl (asg rfl) <| gNil <| eThen <| gRet <| eRet [] [] rfl (eE rfl <| eN) (rN)
                  · skip
                    refine lKn 126 rfl h40 <| lKn 127 rfl h40 <| lSkip (gd rfl rfl rfl rfl) rfl rfl <| lSkip (gd rfl rfl rfl rfl) rfl rfl <| lSkip (gd rfl rfl rfl rfl) rfl rfl <| R rfl (pkF rfl rfl) <| R rfl (mv rfl) <| lSkip (gd rfl rfl rfl rfl) rfl rfl <| lSkip (gd rfl rfl rfl rfl) rfl rfl <| lSkip (gd rfl rfl rfl rfl) rfl rfl <| R rfl (pkF rfl rfl) <| R rfl (mv rfl) <| lSkip (gd rfl rfl rfl rfl) rfl rfl <| lSkip (gd rfl rfl rfl rfl) rfl rfl <| lSkip (gd rfl rfl rfl rfl) rfl rfl <| R rfl (pkF rfl rfl) <| R rfl (asg rfl) <| gNil <| eThen <| gRet <| eRet [] [] rfl (eE rfl <| eN) (rN)
                · skip
                  refine lKn 121 rfl h37 <| lKn 122 rfl h37 <| lSkip (gd rfl rfl rfl rfl) rfl rfl <| lSkip (gd rfl rfl rfl rfl) rfl rfl <| lSkip (gd rfl rfl rfl rfl) rfl rfl <| R rfl (pkF rfl rfl) <| R rfl (mv rfl) <| lSkip (gd rfl rfl rfl rfl) rfl rfl <| lSkip (gd rfl rfl rfl rfl) rfl rfl <| lSkip (gd rfl rfl rfl rfl) rfl rfl <| R rfl (pkF rfl rfl) <| R rfl (mv rfl) <| lSkip (gd rfl rfl rfl rfl) rfl rfl <| lSkip (gd rfl rfl rfl rfl) rfl rfl <| lSkip (gd rfl rfl rfl rfl) rfl rfl <| R rfl (pkF rfl rfl) <| R rfl (mv rfl) <| lSkip (gd rfl rfl rfl rfl) rfl rfl <| lSkip (gd rfl rfl rfl rfl) rfl rfl <| lSkip (gd rfl rfl rfl rfl) rfl rfl <| R rfl (pkF rfl rfl) <| R rfl (asg rfl) <| gNil <| eThen <| gRet <| eRet [] [] rfl (eE rfl <| eN) (rN)
              · skip
                refine lKn 116 rfl h36 <| lKn 117 rfl h36 <| lSkip (gd rfl rfl rfl rfl) rfl rfl <| lSkip (gd rfl rfl rfl rfl) rfl rfl <| lSkip (gd rfl rfl rfl rfl) rfl rfl <| R rfl (pkF rfl rfl) <| R rfl (mv rfl) <| lSkip (gd rfl rfl rfl rfl) rfl rfl <| lSkip (gd rfl rfl rfl rfl) rfl rfl <| lSkip (gd rfl rfl rfl rfl) rfl rfl <| R rfl (pkF rfl rfl) <| R rfl (mv rfl) <| lSkip (gd rfl rfl rfl rfl) rfl rfl <| lSkip (gd rfl rfl rfl rfl) rfl rfl <| lSkip (gd rfl rfl rfl rfl) rfl rfl <| R rfl (pkF rfl rfl) <| R rfl (mv rfl) <| lSkip (gd rfl rfl rfl rfl) rfl rfl <| lSkip (gd rfl rfl rfl rfl) rfl rfl <| lSkip (gd rfl rfl rfl rfl) rfl rfl <| R rfl (pkF rfl rfl) <| R rfl (mv rfl) <| lSkip (gd rfl rfl rfl rfl) rfl rfl <| lSkip (gd rfl rfl rfl rfl) rfl rfl <| lSkip (gd rfl rfl rfl rfl) rfl rfl <| R rfl (pkF rfl rfl) <| R rfl (asg rfl) <| gNil <| eThen <| gRet <| eRet [] [] rfl (eE rfl <| eN) (rN)
            · skip
              refine lKn 111 rfl h35 <| lKn 112 rfl h35 <| lSkip (gd rfl rfl rfl rfl) rfl rfl <| lSkip (gd rfl rfl rfl rfl) rfl rfl <| lSkip (gd rfl rfl rfl rfl) rfl rfl <| R rfl (pkF rfl rfl) <| R rfl (mv rfl) <| lSkip (gd rfl rfl rfl rfl) rfl rfl <| lSkip (gd rfl rfl rfl rfl) rfl rfl <| lSkip (gd rfl rfl rfl rfl) rfl rfl <| R rfl (pkF rfl rfl) <| R rfl (mv rfl) <| lSkip (gd rfl rfl rfl rfl) rfl rfl <| lSkip (gd rfl rfl rfl rfl) rfl rfl <| lSkip (gd rfl rfl rfl rfl) rfl rfl <| R rfl (pkF rfl rfl) <| R rfl (mv rfl) <| lSkip (gd rfl rfl rfl rfl) rfl rfl <| lSkip (gd rfl rfl rfl rfl) rfl rfl <| lSkip (gd rfl rfl rfl rfl) rfl rfl <| R rfl (pkF rfl rfl) <| R rfl (mv rfl) <| lSkip (gd rfl rfl rfl rfl) rfl rfl <| lSkip (gd rfl rfl rfl rfl) rfl rfl <| lSkip (gd rfl rfl rfl rfl) rfl rfl <| R rfl (pkF rfl rfl) <| R rfl (mv rfl) <| lSkip (gd rfl rfl rfl rfl) rfl rfl <| lSkip (gd rfl rfl rfl rfl) rfl rfl <| lSkip (gd rfl rfl rfl rfl) rfl rfl <| R rfl (pkF rfl rfl) <| R rfl (asg rfl) <| gNil <| eThen <| gRet <| eRet [] [] rfl (eE rfl <| eN) (rN)
          · skip
            refine lKn 106 rfl h32 <| lKn 107 rfl h32 <| lSkip (gd rfl rfl rfl rfl) rfl rfl <| lSkip (gd rfl rfl rfl rfl) rfl rfl <| lSkip (gd rfl rfl rfl rfl) rfl rfl <| R rfl (pkF rfl rfl) <| R rfl (mv rfl) <| lSkip (gd rfl rfl rfl rfl) rfl rfl <| lSkip (gd rfl rfl rfl rfl) rfl rfl <| lSkip (gd rfl rfl rfl rfl) rfl rfl <| R rfl (pkF rfl rfl) <| R rfl (mv rfl) <| lSkip (gd rfl rfl rfl rfl) rfl rfl <| lSkip (gd rfl rfl rfl rfl) rfl rfl <| lSkip (gd rfl rfl rfl rfl) rfl rfl <| R rfl (pkF rfl rfl) <| R rfl (mv rfl) <| lSkip (gd rfl rfl rfl rfl) rfl rfl <| lSkip (gd rfl rfl rfl rfl) rfl rfl <| lSkip (gd rfl rfl rfl rfl) rfl rfl <| R rfl (pkF rfl rfl) <| R rfl (mv rfl) <| lSkip (gd rfl rfl rfl rfl) rfl rfl <| lSkip (gd rfl rfl rfl rfl) rfl rfl <| lSkip (gd rfl rfl rfl rfl) rfl rfl <| R rfl (pkF rfl rfl) <| R rfl (mv rfl) <| lSkip (gd rfl rfl rfl rfl) rfl rfl <| lSkip (gd rfl rfl rfl rfl) rfl rfl <| lSkip (gd rfl rfl rfl rfl) rfl rfl <| R rfl (pkF rfl rfl) <| R rfl (mv rfl) <| lSkip (gd rfl rfl rfl rfl) rfl rfl <| lSkip (gd rfl rfl rfl rfl) rfl rfl <| lSkip (gd rfl rfl rfl rfl) rfl rfl <| R rfl (pkF rfl rfl) <| R rfl (asg rfl) <| gNil <| eThen <| gRet <| eRet [] [] rfl (eE rfl <| eN) (rN)
        · skip
          refine lKn 101 rfl h31 <| lKn 102 rfl h31 <| lSkip (gd rfl rfl rfl rfl) rfl rfl <| lSkip (gd rfl rfl rfl rfl) rfl rfl <| lSkip (gd rfl rfl rfl rfl) rfl rfl <| R rfl (pkF rfl rfl) <| R rfl (mv rfl) <| lSkip (gd rfl rfl rfl rfl) rfl rfl <| lSkip (gd rfl rfl rfl rfl) rfl rfl <| lSkip (gd rfl rfl rfl rfl) rfl rfl <| R rfl (pkF rfl rfl) <| R rfl (mv rfl) <| lSkip (gd rfl rfl rfl rfl) rfl rfl <| lSkip (gd rfl rfl rfl rfl) rfl rfl <| lSkip (gd rfl rfl rfl rfl) rfl rfl <| R rfl (pkF rfl rfl) <| R rfl (mv rfl) <| lSkip (gd rfl rfl rfl rfl) rfl rfl <| lSkip (gd rfl rfl rfl rfl) rfl rfl <| lSkip (gd rfl rfl rfl rfl) rfl rfl <| R rfl (pkF rfl rfl) <| R rfl (mv rfl) <| lSkip (gd rfl rfl rfl rfl) rfl rfl <| lSkip (gd rfl rfl rfl rfl) rfl rfl <| lSkip (gd rfl rfl rfl rfl) rfl rfl <| R rfl (pkF rfl rfl) <| R rfl (mv rfl) <| lSkip (gd rfl rfl rfl rfl) rfl rfl <| lSkip (gd rfl rfl rfl rfl) rfl rfl <| lSkip (gd rfl rfl rfl rfl) rfl rfl <| R rfl (pkF rfl rfl) <| R rfl (mv rfl) <| lSkip (gd rfl rfl rfl rfl) rfl rfl <| lSkip (gd rfl rfl rfl rfl) rfl rfl <| lSkip (gd rfl rfl rfl rfl) rfl rfl <| R rfl (pkF rfl rfl) <| R rfl (mv rfl) <| lSkip (gd rfl rfl rfl rfl) rfl rfl <| lSkip (gd rfl rfl rfl rfl) rfl rfl <| lSkip (gd rfl rfl rfl rfl) rfl rfl <| R rfl (pkF rfl rfl) <| R rfl (asg rfl) <| gNil <| eThen <| gRet <| eRet [] [] rfl (eE rfl <| eN) (rN)
      · skip
        refine lKn 96 rfl h30 <| lKn 97 rfl h30 <| lSkip (gd rfl rfl rfl rfl) rfl rfl <| lSkip (gd rfl rfl rfl rfl) rfl rfl <| lSkip (gd rfl rfl rfl rfl) rfl rfl <| R rfl (pkF rfl rfl) <| R rfl (mv rfl) <| lSkip (gd rfl rfl rfl rfl) rfl rfl <| lSkip (gd rfl rfl rfl rfl) rfl rfl <| lSkip (gd rfl rfl rfl rfl) rfl rfl <| R rfl (pkF rfl rfl) <| R rfl (mv rfl) <| lSkip (gd rfl rfl rfl rfl) rfl rfl <| lSkip (gd rfl rfl rfl rfl) rfl rfl <| lSkip (gd rfl rfl rfl rfl) rfl rfl <| R rfl (pkF rfl rfl) <| R rfl (mv rfl) <| lSkip (gd rfl rfl rfl rfl) rfl rfl <| lSkip (gd rfl rfl rfl rfl) rfl rfl <| lSkip (gd rfl rfl rfl rfl) rfl rfl <| R rfl (pkF rfl rfl) <| R rfl (mv rfl) <| lSkip (gd rfl rfl rfl rfl) rfl rfl <| lSkip (gd rfl rfl rfl rfl) rfl rfl <| lSkip (gd rfl rfl rfl rfl) rfl rfl <| R rfl (pkF rfl rfl) <| R rfl (mv rfl) <| lSkip (gd rfl rfl rfl rfl) rfl rfl <| lSkip (gd rfl rfl rfl rfl) rfl rfl <| lSkip (gd rfl rfl rfl rfl) rfl rfl <| R rfl (pkF rfl rfl) <| R rfl (mv rfl) <| lSkip (gd rfl rfl rfl rfl) rfl rfl <| lSkip (gd rfl rfl rfl rfl) rfl rfl <| lSkip (gd rfl rfl rfl rfl) rfl rfl <| R rfl (pkF rfl rfl) <| R rfl (mv rfl) <| lSkip (gd rfl rfl rfl rfl) rfl rfl <| lSkip (gd rfl rfl rfl rfl) rfl rfl <| lSkip (gd rfl rfl rfl rfl) rfl rfl <| R rfl (pkF rfl rfl) <| R rfl (mv rfl) <| lSkip (gd rfl rfl rfl rfl) rfl rfl <| lSkip (gd rfl rfl rfl rfl) rfl rfl <| lSkip (gd rfl rfl rfl rfl) rfl rfl <| R rfl (pkF rfl rfl) <| R rfl (asg rfl) <| gNil <| eThen <| gRet <| eRet [] [] rfl (eE rfl <| eN) (rN)
    · skip
      refine lKn 91 rfl h27 <| lKn 92 rfl h27 <| lSkip (gd rfl rfl rfl rfl) rfl rfl <| lSkip (gd rfl rfl rfl rfl) rfl rfl <| lSkip (gd rfl rfl rfl rfl) rfl rfl <| R rfl (pkF rfl rfl) <| R rfl (mv rfl) <| lSkip (gd rfl rfl rfl rfl) rfl rfl <| lSkip (gd rfl rfl rfl rfl) rfl rfl <| lSkip (gd rfl rfl rfl rfl) rfl rfl <| R rfl (pkF rfl rfl) <| R rfl (mv rfl) <| lSkip (gd rfl rfl rfl rfl) rfl rfl <| lSkip (gd rfl rfl rfl rfl) rfl rfl <| lSkip (gd rfl rfl rfl rfl) rfl rfl <| R rfl (pkF rfl rfl) <| R rfl (mv rfl) <| lSkip (gd rfl rfl rfl rfl) rfl rfl <| lSkip (gd rfl rfl rfl rfl) rfl rfl <| lSkip (gd rfl rfl rfl rfl) rfl rfl <| R rfl (pkF rfl rfl) <| R rfl (mv rfl) <| lSkip (gd rfl rfl rfl rfl) rfl rfl <| lSkip (gd rfl rfl rfl rfl) rfl rfl <| lSkip (gd rfl rfl rfl rfl) rfl rfl <| R rfl (pkF rfl rfl) <| R rfl (mv rfl) <| lSkip (gd rfl rfl rfl rfl) rfl rfl <| lSkip (gd rfl rfl rfl rfl) rfl rfl <| lSkip (gd rfl rfl rfl rfl) rfl rfl <| R rfl (pkF rfl rfl) <| R rfl (mv rfl) <| lSkip (gd rfl rfl rfl rfl) rfl rfl <| lSkip (gd rfl rfl rfl rfl) rfl rfl <| lSkip (gd rfl rfl rfl rfl) rfl rfl <| R rfl (pkF rfl rfl) <| R rfl (mv rfl) <| lSkip (gd rfl rfl rfl rfl) rfl rfl <| lSkip (gd rfl rfl rfl rfl) rfl rfl <| lSkip (gd rfl rfl rfl rfl) rfl rfl <| R rfl (pkF rfl rfl) <| R rfl (mv rfl) <| lSkip (gd rfl rfl rfl rfl) rfl rfl <| lSkip (gd rfl rfl rfl rfl) rfl rfl <| lSkip (gd rfl rfl rfl rfl) rfl rfl <| R rfl (pkF rfl rfl) <| R rfl (mv rfl) <| lSkip (gd rfl rfl rfl rfl) rfl rfl <| lSkip (gd rfl rfl rfl rfl) rfl rfl <| lSkip (gd rfl rfl rfl rfl) rfl rfl <| R rfl (pkF rfl rfl) <| R rfl (asg rfl) <| gNil <| eThen <| gRet <| eRet [] [] rfl (eE rfl <| eN) (rN)
  · skip
    refine lKn 87 rfl h26 <| lSkip (gd rfl rfl rfl rfl) rfl rfl <| lSkip (gd rfl rfl rfl rfl) rfl rfl <| lSkip (gd rfl rfl rfl rfl) rfl rfl <| R rfl (pkF rfl rfl) <| R rfl (mv rfl) <| lSkip (gd rfl rfl rfl rfl) rfl rfl <| lSkip (gd rfl rfl rfl rfl) rfl rfl <| lSkip (gd rfl rfl rfl rfl) rfl rfl <| R rfl (pkF rfl rfl) <| R rfl (mv rfl) <| lSkip (gd rfl rfl rfl rfl) rfl rfl <| lSkip (gd rfl rfl rfl rfl) rfl rfl <| lSkip (gd rfl rfl rfl rfl) rfl rfl <| R rfl (pkF rfl rfl) <| R rfl (mv rfl) <| lSkip (gd rfl rfl rfl rfl) rfl rfl <| lSkip (gd rfl rfl rfl rfl) rfl rfl <| lSkip (gd rfl rfl rfl rfl) rfl rfl <| R rfl (pkF rfl rfl) <| R rfl (mv rfl) <| lSkip (gd rfl rfl rfl rfl) rfl rfl <| lSkip (gd rfl rfl rfl rfl) rfl rfl <| lSkip (gd rfl rfl rfl rfl) rfl rfl <| R rfl (pkF rfl rfl) <| R rfl (mv rfl) <| lSkip (gd rfl rfl rfl rfl) rfl rfl <| lSkip (gd rfl rfl rfl rfl) rfl rfl <| lSkip (gd rfl rfl rfl rfl) rfl rfl <| R rfl (pkF rfl rfl) <| R rfl (mv rfl) <| lSkip (gd rfl rfl rfl rfl) rfl rfl <| lSkip (gd rfl rfl rfl rfl) rfl rfl <| lSkip (gd rfl rfl rfl rfl) rfl rfl <| R rfl (pkF rfl rfl) <| R rfl (mv rfl) <| lSkip (gd rfl rfl rfl rfl) rfl rfl <| lSkip (gd rfl rfl rfl rfl) rfl rfl <| lSkip (gd rfl rfl rfl rfl) rfl rfl <| R rfl (pkF rfl rfl) <| R rfl (mv rfl) <| lSkip (gd rfl rfl rfl rfl) rfl rfl <| lSkip (gd rfl rfl rfl rfl) rfl rfl <| lSkip (gd rfl rfl rfl rfl) rfl rfl <| R rfl (pkF rfl rfl) <| R rfl (mv rfl) <| lSkip (gd rfl rfl rfl rfl) rfl rfl <| lSkip (gd rfl rfl rfl rfl) rfl rfl <| lSkip (gd rfl rfl rfl rfl) rfl rfl <| R rfl (pkF rfl rfl) <| R rfl (mv rfl) <| lSkip (gd rfl rfl rfl rfl) rfl rfl <| lSkip (gd rfl rfl rfl rfl) rfl rfl <| lSkip (gd rfl rfl rfl rfl) rfl rfl <| R rfl (pkF rfl rfl) <| R rfl (asg rfl) <| gNil <| eThen <| gRet <| eRet [] [] rfl (eE rfl <| eN) (rN)

end Go.Proofs.Ytklfgpdfongaeaa
