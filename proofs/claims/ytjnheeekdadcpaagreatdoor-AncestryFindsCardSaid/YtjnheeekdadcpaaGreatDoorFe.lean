import Derived.Test.YtjnheeekdadcpaaGreatDoorFd
namespace Go.Proofs.YtjnheeekdadcpaaGreatDoor
open Go Go.RowKit
set_option maxRecDepth 100000
set_option linter.unusedSimpArgs false
set_option linter.unusedVariables false
def braidref06_Great (a0 : api_Op) : Option (Bool) :=
 if decide (20 < (a0.Preds.length : Int)) then
  some true
 else
  if decide (100 < (a0.Act.Key.length : Int)) then
   some true
  else
   some (decide (100 < (a0.Act.Value.Text.length : Int))) >>= fun y4 =>
   some y4
theorem braidref06_Great_ok (a0 : api_Op) : Spec Tryz.prog 23 [.rd R_api_Op a0] [] (braidref06_Great a0) (fun r nv => ⟨[.rd boolR r], []⟩) := by
 refine spec 22 Tryz.func23 rfl rfl rfl fun H w => ?_
 refine gSR <| Eb rfl (bx 1 rfl) fun v1 => R rfl (asg rfl) <| gNil <| eThen <| gSR <| R rfl (faB 1 rfl rfl Tryz.underlying65 rfl (by exact ti22)) <| R rfl (ld 1 rfl rfl ((Foc.here).part (pt_api_Op_Preds _)) ty22 rfl) <| R rfl (len' rfl .rd rfl Tryz.underlying22) <| R rfl (I.gtr rfl rfl) <| R rfl (mv rfl) <| lSplit 7 rfl (fun h2 => ?_) (fun h2 => ?_)
 ·
  refine lKn 6 rfl h2 <| lSkip (gd rfl rfl rfl rfl) rfl rfl <| lSkip (gd rfl rfl rfl rfl) rfl rfl <| lSkip (gd rfl rfl rfl rfl) rfl rfl <| lSkip (gd rfl rfl rfl rfl) rfl rfl <| lSkip (gd rfl rfl rfl rfl) rfl rfl <| R rfl (pkT rfl rfl) <| R rfl (mv rfl) <| lSkip (gd rfl rfl rfl rfl) rfl rfl <| lSkip (gd rfl rfl rfl rfl) rfl rfl <| lSkip (gd rfl rfl rfl rfl) rfl rfl <| lSkip (gd rfl rfl rfl rfl) rfl rfl <| lSkip (gd rfl rfl rfl rfl) rfl rfl <| lSkip (gd rfl rfl rfl rfl) rfl rfl <| R rfl (pkT rfl rfl) <| R rfl (asg rfl) <| gNil <| eThen <| gRet <| eRet [] [] rfl (eE rfl <| eN) (rN)
 ·
  refine lKn 6 rfl h2 <| lRun (gd rfl rfl rfl rfl) rfl rfl (faB 1 rfl rfl Tryz.underlying65 rfl (by exact ti61)) <| lRun (gd rfl rfl rfl rfl) rfl rfl (faB 1 rfl rfl Tryz.underlying61 rfl (by exact ti9)) <| lRun (gd rfl rfl rfl rfl) rfl rfl (ld 1 rfl rfl (((Foc.here).part (pt_api_Op_Act _)).part (pt_api_Act_Key _)) ty9 rfl) <| lRun (gd rfl rfl rfl rfl) rfl rfl (lenT rfl rfl Tryz.underlying9) <| lRun (gd rfl rfl rfl rfl) rfl rfl (I.gtr rfl rfl) <| R rfl (pkF rfl rfl) <| R rfl (mv rfl) <| lSplit 14 rfl (fun h3 => ?_) (fun h3 => ?_)
  ·
   refine lKn 12 rfl h3 <| lKn 13 rfl h3 <| lSkip (gd rfl rfl rfl rfl) rfl rfl <| lSkip (gd rfl rfl rfl rfl) rfl rfl <| lSkip (gd rfl rfl rfl rfl) rfl rfl <| lSkip (gd rfl rfl rfl rfl) rfl rfl <| lSkip (gd rfl rfl rfl rfl) rfl rfl <| lSkip (gd rfl rfl rfl rfl) rfl rfl <| R rfl (pkT rfl rfl) <| R rfl (asg rfl) <| gNil <| eThen <| gRet <| eRet [] [] rfl (eE rfl <| eN) (rN)
  ·
   refine lKn 12 rfl h3 <| lKn 13 rfl h3 <| lRun (gd rfl rfl rfl rfl) rfl rfl (faB 1 rfl rfl Tryz.underlying65 rfl (by exact ti61)) <| lRun (gd rfl rfl rfl rfl) rfl rfl (faB 1 rfl rfl Tryz.underlying61 rfl (by exact ti59)) <| lRun (gd rfl rfl rfl rfl) rfl rfl (faB 1 rfl rfl Tryz.underlying59 rfl (by exact ti9)) <| lRun (gd rfl rfl rfl rfl) rfl rfl (ld 1 rfl rfl ((((Foc.here).part (pt_api_Op_Act _)).part (pt_api_Act_Value _)).part (pt_api_Value_Text _)) ty9 rfl) <| lRun (gd rfl rfl rfl rfl) rfl rfl (lenT rfl rfl Tryz.underlying9) <| lRun (gd rfl rfl rfl rfl) rfl rfl (I.gtr rfl rfl) <| R rfl (pkF rfl rfl) <| R rfl (asg rfl) <| lName 2 rfl fun y4 => gNil <| eThen <| gRet <| eRet [] [] rfl (eE rfl <| eN) (rN)
def braidref09_Great_L0 (a0 : api_Graph) (s3 : Int) : Option (Sum (Sum Bool Unit) Int) :=
 if decide (s3 < (a0.Ops.length : Int)) then
  if decide (s3 ≤ 70) then
   idx a0.Ops s3 >>= fun x6 =>
   braidref06_Great x6 >>= fun r8 =>
   if r8 then
    some (.inl (.inl true))
   else
    some (.inr (w64 (s3 + 1)))
  else
   some (.inl (.inr ()))
 else
  some (.inl (.inr ()))
def braidref09_Great (a0 : api_Graph) : Option (Bool) :=
 orRet (iter (braidref09_Great_L0 a0) 0) fun s2 =>
 if decide (16 < (a0.Ops.length : Int)) then
  if decide ((a0.Ops.length : Int) ≤ 60) then
   some true
  else
   if decide (70 < (a0.Ops.length : Int)) then
    some true
   else
    some (decide (70 < (a0.IDs.length : Int))) >>= fun y14 =>
    some y14
 else
  if decide (70 < (a0.Ops.length : Int)) then
   some true
  else
   some (decide (70 < (a0.IDs.length : Int))) >>= fun y16 =>
   some y16
theorem braidref09_Great_ok (a0 : api_Graph) : Spec Tryz.prog 5 [.rd R_api_Graph a0] [] (braidref09_Great a0) (fun r nv => ⟨[.rd boolR r], []⟩) := by
 refine spec 43 Tryz.func5 rfl rfl rfl fun H w => ?_
 refine gSR <| Eb rfl (bx 1 rfl) fun v1 => R rfl (asg rfl) <| gNil <| eThen <| gMidR (fun (s2 : Unit) aa ww => Sta (ctx 43 H [] w) [(1, .val (ptrTo v1 0))] [(1, some (v1, .box 25 [.rd R_api_Graph a0]))] aa ww) ?_ (fun s2 => ?_)
 ·
  refine gSR <| R rfl (asg rfl) <| gNil <| eThen <| gLoop (fun (s3 : Int) aa ww => Sta (ctx 43 H [] w) [(1, .val (ptrTo v1 0)), (3, .rd i64R s3)] [(1, some (v1, .box 25 [.rd R_api_Graph a0]))] aa ww) (fun aa ww h => h.sub [1] (sS rfl <| sS rfl <| sN) (rR rfl rfl <| rN)) (fun s3 => ?_)
  refine gSeq <| gSR <| R rfl (mv rfl) <| R rfl (faB 1 rfl rfl Tryz.underlying25 rfl (by exact ti23)) <| R rfl (ld 1 rfl rfl ((Foc.here).part (pt_api_Graph_Ops _)) ty23 rfl) <| R rfl (len' rfl .rd rfl Tryz.underlying23) <| R rfl (I.lss rfl rfl) <| R rfl (mv rfl) <| lSplit 9 rfl (fun h4 => ?_) (fun h4 => ?_)
  ·
   refine lKn 8 rfl h4 <| lRun (gd rfl rfl rfl rfl) rfl rfl (mv rfl) <| lRun (gd rfl rfl rfl rfl) rfl rfl (I.leq rfl rfl) <| R rfl (pkT rfl rfl) <| gNil <| eThen <| gIf rfl rfl (fun h5 => ?_) (fun h5 => ?_)
   ·
    refine gKn 11 rfl h5 <| gSkip <| eThen <| gSeq <| gBlk <| gSR <| R rfl (faB 1 rfl rfl Tryz.underlying25 rfl (by exact ti23)) <| R rfl (ld 1 rfl rfl ((Foc.here).part (pt_api_Graph_Ops _)) ty23 rfl) <| R rfl (mv rfl) <| lBind fun x6 h7 => R rfl (ixR rfl rfl h7 Tryz.underlying23 ti65 rfl) <| R rfl (ldR rfl ty65) <| call [] [] rfl Tryz.func23 rfl rfl (braidref06_Great_ok _) (aQ rfl <| aN) rN fun r8 n9 => gNil <| eThen <| gIf rfl rfl (fun h10 => ?_) (fun h10 => ?_)
    ·
     refine gSR <| R rfl (asg rfl) <| gNil <| eThen <| gRet <| eBret <| eTret <| eLret <| eMret <| eRet [] [] rfl (eE rfl <| eN) (rN)
    ·
     refine gSkip <| eBlk <| eThen <| gReg <| R rfl (mv rfl) <| R rfl (I.add rfl rfl) <| R rfl (asg rfl) <| gNil <| eNext (fun aa ww h => h.sub [1] (sS rfl <| sS rfl <| sN) (rR rfl rfl <| rN))
   ·
    refine gKn 11 rfl h5 <| gExit <| eTexit <| eLeave <| eMidR (fun aa ww h => h.sub [1] (sS rfl <| sN) (rR rfl rfl <| rN))
  ·
   refine lKn 8 rfl h4 <| lSkip (gd rfl rfl rfl rfl) rfl rfl <| lSkip (gd rfl rfl rfl rfl) rfl rfl <| R rfl (pkF rfl rfl) <| gNil <| eThen <| gFalse rfl <| gExit <| eTexit <| eLeave <| eMidR (fun aa ww h => h.sub [1] (sS rfl <| sN) (rR rfl rfl <| rN))
 ·
  refine gSR <| R rfl (faB 1 rfl rfl Tryz.underlying25 rfl (by exact ti23)) <| R rfl (ld 1 rfl rfl ((Foc.here).part (pt_api_Graph_Ops _)) ty23 rfl) <| R rfl (len' rfl .rd rfl Tryz.underlying23) <| R rfl (I.gtr rfl rfl) <| R rfl (mv rfl) <| lSplit 25 rfl (fun h11 => ?_) (fun h11 => ?_)
  ·
   refine lKn 24 rfl h11 <| lRun (gd rfl rfl rfl rfl) rfl rfl (faB 1 rfl rfl Tryz.underlying25 rfl (by exact ti23)) <| lRun (gd rfl rfl rfl rfl) rfl rfl (ld 1 rfl rfl ((Foc.here).part (pt_api_Graph_Ops _)) ty23 rfl) <| lRun (gd rfl rfl rfl rfl) rfl rfl (len' rfl .rd rfl Tryz.underlying23) <| lRun (gd rfl rfl rfl rfl) rfl rfl (I.leq rfl rfl) <| R rfl (pkT rfl rfl) <| R rfl (mv rfl) <| lSplit 31 rfl (fun h12 => ?_) (fun h12 => ?_)
   ·
    refine lKn 29 rfl h12 <| lKn 30 rfl h12 <| lSkip (gd rfl rfl rfl rfl) rfl rfl <| lSkip (gd rfl rfl rfl rfl) rfl rfl <| lSkip (gd rfl rfl rfl rfl) rfl rfl <| lSkip (gd rfl rfl rfl rfl) rfl rfl <| R rfl (pkT rfl rfl) <| R rfl (mv rfl) <| lSkip (gd rfl rfl rfl rfl) rfl rfl <| lSkip (gd rfl rfl rfl rfl) rfl rfl <| lSkip (gd rfl rfl rfl rfl) rfl rfl <| lSkip (gd rfl rfl rfl rfl) rfl rfl <| R rfl (pkT rfl rfl) <| R rfl (asg rfl) <| gNil <| eThen <| gRet <| eRet [] [] rfl (eE rfl <| eN) (rN)
   ·
    refine lKn 29 rfl h12 <| lKn 30 rfl h12 <| lRun (gd rfl rfl rfl rfl) rfl rfl (faB 1 rfl rfl Tryz.underlying25 rfl (by exact ti23)) <| lRun (gd rfl rfl rfl rfl) rfl rfl (ld 1 rfl rfl ((Foc.here).part (pt_api_Graph_Ops _)) ty23 rfl) <| lRun (gd rfl rfl rfl rfl) rfl rfl (len' rfl .rd rfl Tryz.underlying23) <| lRun (gd rfl rfl rfl rfl) rfl rfl (I.gtr rfl rfl) <| R rfl (pkF rfl rfl) <| R rfl (mv rfl) <| lSplit 37 rfl (fun h13 => ?_) (fun h13 => ?_)
    ·
     refine lKn 35 rfl h13 <| lKn 36 rfl h13 <| lSkip (gd rfl rfl rfl rfl) rfl rfl <| lSkip (gd rfl rfl rfl rfl) rfl rfl <| lSkip (gd rfl rfl rfl rfl) rfl rfl <| lSkip (gd rfl rfl rfl rfl) rfl rfl <| R rfl (pkT rfl rfl) <| R rfl (asg rfl) <| gNil <| eThen <| gRet <| eRet [] [] rfl (eE rfl <| eN) (rN)
    ·
     refine lKn 35 rfl h13 <| lKn 36 rfl h13 <| lRun (gd rfl rfl rfl rfl) rfl rfl (faB 1 rfl rfl Tryz.underlying25 rfl (by exact ti22)) <| lRun (gd rfl rfl rfl rfl) rfl rfl (ld 1 rfl rfl ((Foc.here).part (pt_api_Graph_IDs _)) ty22 rfl) <| lRun (gd rfl rfl rfl rfl) rfl rfl (len' rfl .rd rfl Tryz.underlying22) <| lRun (gd rfl rfl rfl rfl) rfl rfl (I.gtr rfl rfl) <| R rfl (pkF rfl rfl) <| R rfl (asg rfl) <| lName 2 rfl fun y14 => gNil <| eThen <| gRet <| eRet [] [] rfl (eE rfl <| eN) (rN)
  ·
   refine lKn 24 rfl h11 <| lSkip (gd rfl rfl rfl rfl) rfl rfl <| lSkip (gd rfl rfl rfl rfl) rfl rfl <| lSkip (gd rfl rfl rfl rfl) rfl rfl <| lSkip (gd rfl rfl rfl rfl) rfl rfl <| R rfl (pkF rfl rfl) <| R rfl (mv rfl) <| lRun (gd rfl rfl rfl rfl) rfl rfl (faB 1 rfl rfl Tryz.underlying25 rfl (by exact ti23)) <| lRun (gd rfl rfl rfl rfl) rfl rfl (ld 1 rfl rfl ((Foc.here).part (pt_api_Graph_Ops _)) ty23 rfl) <| lRun (gd rfl rfl rfl rfl) rfl rfl (len' rfl .rd rfl Tryz.underlying23) <| lRun (gd rfl rfl rfl rfl) rfl rfl (I.gtr rfl rfl) <| R rfl (pkF rfl rfl) <| R rfl (mv rfl) <| lSplit 37 rfl (fun h15 => ?_) (fun h15 => ?_)
   ·
    refine lKn 35 rfl h15 <| lKn 36 rfl h15 <| lSkip (gd rfl rfl rfl rfl) rfl rfl <| lSkip (gd rfl rfl rfl rfl) rfl rfl <| lSkip (gd rfl rfl rfl rfl) rfl rfl <| lSkip (gd rfl rfl rfl rfl) rfl rfl <| R rfl (pkT rfl rfl) <| R rfl (asg rfl) <| gNil <| eThen <| gRet <| eRet [] [] rfl (eE rfl <| eN) (rN)
   ·
    refine lKn 35 rfl h15 <| lKn 36 rfl h15 <| lRun (gd rfl rfl rfl rfl) rfl rfl (faB 1 rfl rfl Tryz.underlying25 rfl (by exact ti22)) <| lRun (gd rfl rfl rfl rfl) rfl rfl (ld 1 rfl rfl ((Foc.here).part (pt_api_Graph_IDs _)) ty22 rfl) <| lRun (gd rfl rfl rfl rfl) rfl rfl (len' rfl .rd rfl Tryz.underlying22) <| lRun (gd rfl rfl rfl rfl) rfl rfl (I.gtr rfl rfl) <| R rfl (pkF rfl rfl) <| R rfl (asg rfl) <| lName 2 rfl fun y16 => gNil <| eThen <| gRet <| eRet [] [] rfl (eE rfl <| eN) (rN)
def braidref06_Twin (a0 : api_Op) : Option (api_Op) :=
 app 32 ([] : List (Vector UInt8 32)) a0.Preds >>= fun x4 =>
 some (⟨a0.Author, x4, a0.Stamp, a0.Act, a0.Sig⟩ : api_Op)
theorem braidref06_Twin_ok (a0 : api_Op) : Spec Tryz.prog 24 [.rd R_api_Op a0] [] (braidref06_Twin a0) (fun r nv => ⟨[.rd R_api_Op r], []⟩) := by
 refine spec 9 Tryz.func24 rfl rfl rfl fun H w => ?_
 refine gSR <| Eb rfl (bx 1 rfl) fun v1 => Eb rfl (allc 2 ti65 (ZrE.rd (R := u32R) (x := 0) (Zr.num rfl) (ZrE.nilS (ZrE.rd (R := u64R) (x := 0) (Zr.num rfl) (ZrE.rd (R := R_api_Act) (x := (⟨0, [], (⟨0, 0, 0, []⟩ : api_Value)⟩ : api_Act)) zr61 (ZrE.rd (R := R_api_Sig) (x := (⟨0, 0⟩ : api_Sig)) zr63 ZrE.nil rfl) rfl) rfl)) rfl)) fun v2 => gNil <| eThen <| gSR <| Ef rfl (lit (R := (arrR 32 u8R)) (([] : List (Vector UInt8 32)) : List (Vector UInt8 32)) 3 (pN) rfl Tryz.underlying22 ti27 rfl rfl) fun v3 => R rfl (faB 1 rfl rfl Tryz.underlying65 rfl (by exact ti22)) <| R rfl (ld 1 rfl rfl ((Foc.here).part (pt_api_Op_Preds _)) ty22 rfl) <| lBind fun x4 h5 => Ef rfl (apn 3 rfl rfl rfl .rd h5 Tryz.underlying22 ti27 rfl rfl rfl) fun v6 => R rfl (faB 1 rfl rfl Tryz.underlying65 rfl (by exact ti22)) <| lSpl (R := R_api_Op) 1 rfl (Sp.via (Sp.prod (Sp.prod (Sp.prod (Sp.prod (Sp.prod Sp.unit)))))) <| Es (stoE 1 rfl rfl (Swap.cast (Swap.next fills_rd (Swap.here fills_rd)) rfl) rfl ones_val fills_val ti22) <| gNil <| eThen <| gSR <| lPow [.rd u32R a0.Author, .rd (sliceR (arrR 32 u8R)) x4, .rd u64R a0.Stamp, .rd R_api_Act a0.Act, .rd R_api_Sig a0.Sig] 1 3 [.rd u32R a0.Author] [.rd u64R a0.Stamp, .rd R_api_Act a0.Act, .rd R_api_Sig a0.Sig] rfl rfl rfl rfl rfl <| lJoi (R := R_api_Op) (⟨a0.Author, x4, a0.Stamp, a0.Act, a0.Sig⟩ : api_Op) 1 rfl (Sp.via (Sp.prod (Sp.prod (Sp.prod (Sp.prod (Sp.prod Sp.unit)))))) <| R rfl (ld 1 rfl rfl Foc.here ty65 rfl) <| lPnl (arrR 32 u8R) [.rd u32R 0, .rd (sliceR (arrR 32 u8R)) [], .rd u64R 0, .rd R_api_Act (⟨0, [], (⟨0, 0, 0, []⟩ : api_Value)⟩ : api_Act), .rd R_api_Sig (⟨0, 0⟩ : api_Sig)] 2 [.rd u32R 0] [.rd u64R 0, .rd R_api_Act (⟨0, [], (⟨0, 0, 0, []⟩ : api_Value)⟩ : api_Act), .rd R_api_Sig (⟨0, 0⟩ : api_Sig)] rfl rfl rfl <| lJoi (R := R_api_Op) (⟨0, [], 0, (⟨0, [], (⟨0, 0, 0, []⟩ : api_Value)⟩ : api_Act), (⟨0, 0⟩ : api_Sig)⟩ : api_Op) 2 rfl (Sp.via (Sp.prod (Sp.prod (Sp.prod (Sp.prod (Sp.prod Sp.unit)))))) <| Es (sto 2 rfl rfl Foc.here rfl ti65) <| gNil <| eThen <| gRet <| eRet [] [] rfl (eC 2 rfl rfl ty65 <| eN) (rN)
def braidref09_Twin_L0 (a0 : api_Graph) (s9 : (List api_Op) × Int) : Option (Sum ((List api_Op)) ((List api_Op) × Int)) :=
 if decide (s9.2 < (a0.Ops.length : Int)) then
  idx a0.Ops s9.2 >>= fun x12 =>
  braidref06_Twin x12 >>= fun r14 =>
  app 112 s9.1 [r14] >>= fun x17 =>
  some (w64 (s9.2 + 1)) >>= fun y20 =>
  some (.inr (x17, y20))
 else
  some (.inl s9.1)
def braidref09_Twin (a0 : api_Graph) : Option (api_Graph) :=
 app 32 ([] : List (Vector UInt8 32)) a0.IDs >>= fun x4 =>
 (iter (braidref09_Twin_L0 a0) ([], 0)) >>= fun s8 =>
 some (⟨x4, s8⟩ : api_Graph)
theorem braidref09_Twin_ok (a0 : api_Graph) : Spec Tryz.prog 6 [.rd R_api_Graph a0] [] (braidref09_Twin a0) (fun r nv => ⟨[.rd R_api_Graph r], []⟩) := by
 refine spec 29 Tryz.func6 rfl rfl rfl fun H w => ?_
 refine gSR <| Eb rfl (bx 1 rfl) fun v1 => Eb rfl (allc 2 ti25 (ZrE.nilS (ZrE.nilS ZrE.nil))) fun v2 => gNil <| eThen <| gSR <| Ef rfl (lit (R := (arrR 32 u8R)) (([] : List (Vector UInt8 32)) : List (Vector UInt8 32)) 3 (pN) rfl Tryz.underlying22 ti27 rfl rfl) fun v3 => R rfl (faB 1 rfl rfl Tryz.underlying25 rfl (by exact ti22)) <| R rfl (ld 1 rfl rfl ((Foc.here).part (pt_api_Graph_IDs _)) ty22 rfl) <| lBind fun x4 h5 => Ef rfl (apn 3 rfl rfl rfl .rd h5 Tryz.underlying22 ti27 rfl rfl rfl) fun v6 => R rfl (bldE [(0, 1), (1, 1)] Tryz.underlying25 ti25 (ZrE.nilS (ZrE.nilS ZrE.nil)) rfl (BldE.cons rfl rfl fills_val (Swap.cast (Swap.here fills_val) rfl) <| BldE.done rfl)) <| Eb rfl (allc 4 ti25 (ZrE.nilS (ZrE.nilS ZrE.nil))) fun v7 => Es (stoG 4 rfl rfl (fillsL.cast (fillsL.cons fills_val (fillsL.cons fills_val fillsL.nil)) rfl) rfl (onesL.cons ones_val (onesL.cons ones_val onesL.nil)) (fillsL.cast (fillsL.cons fills_val (fillsL.cons fills_val fillsL.nil)) rfl) ti25) <| gNil <| eThen <| gMid (fun (s8 : (List api_Op)) aa ww => ∃ nv : Nat → Value, Sta (ctx 29 H [] w) [(2, .val (ptrTo v2 0)), (3, .val (ptrTo v7 0))] [(2, some (v2, .box 25 [.val (.slice none 0 0), .val (.slice none 0 0)])), (3, some (v6, .list (arrR 32 u8R) 27 x4)), (32, some ((nv 0), .list R_api_Op 65 s8)), (4, some (v7, .box 25 [.val v6, .val (nv 0)]))] aa ww) ?_ (fun s8 => ?_)
 ·
  refine gSR <| R rfl (asg rfl) <| gNil <| eThen <| gNew R_api_Op 65 61 <| gLoop (fun (s9 : (List api_Op) × Int) aa ww => ∃ nv : Nat → Value, Sta (ctx 29 H [] w) [(1, .val (ptrTo v1 0)), (2, .val (ptrTo v2 0)), (3, .val (ptrTo v7 0)), (4, .rd i64R s9.2)] [(1, some (v1, .box 25 [.rd R_api_Graph a0])), (2, some (v2, .box 25 [.val (.slice none 0 0), .val (.slice none 0 0)])), (3, some (v6, .list (arrR 32 u8R) 27 x4)), (60, some ((nv 0), .list R_api_Op 65 s9.1)), (4, some (v7, .box 25 [.val v6, .val (nv 0)]))] aa ww) (fun aa ww h => ⟨nvl [(.slice none 0 0)], h.sub [1, 2, 3, 61, 4] (sS rfl <| sS rfl <| sS rfl <| sS rfl <| sN) (rR rfl rfl <| rR rfl rfl <| rR rfl rfl <| rR rfl rfl <| rR rfl rfl <| rN)⟩) (fun s9 => ?_)
  refine gEx fun n10 => gSeq <| gSR <| R rfl (mv rfl) <| R rfl (faB 1 rfl rfl Tryz.underlying25 rfl (by exact ti23)) <| R rfl (ld 1 rfl rfl ((Foc.here).part (pt_api_Graph_Ops _)) ty23 rfl) <| R rfl (len' rfl .rd rfl Tryz.underlying23) <| R rfl (I.lss rfl rfl) <| gNil <| eThen <| gIf rfl rfl (fun h11 => ?_) (fun h11 => ?_)
  ·
   refine gSkip <| eThen <| gSeq <| gBlk <| gRegH [4, 60, 86] mixed rfl rfl <| hTk 0 rfl rfl (faB 4 rfl rfl Tryz.underlying25 rfl (by exact ti23)) <| hTk 2 rfl rfl (faB 1 rfl rfl Tryz.underlying25 rfl (by exact ti23)) <| hTk 3 rfl rfl (ld 1 rfl rfl ((Foc.here).part (pt_api_Graph_Ops _)) ty23 rfl) <| hTk 4 rfl rfl (mv rfl) <| hBind fun x12 h13 => hTk 5 rfl rfl (ixR rfl rfl h13 Tryz.underlying23 ti65 rfl) <| hTk 6 rfl rfl (ldR rfl ty65) <| hAlt [1, 7] (by kernel_rfl) rfl ⟨?_, ?_, trivial⟩
   ·
    refine oRun 1 rfl (gd0 rfl) rfl rfl flat_val (ldV 4 rfl rfl (At.cast (At.next fills_val At.here) rfl) sc23 rfl) <| hCallJ 7 [] [] rfl (by kernel_rfl) rfl (gd0 rfl) rfl Tryz.func24 rfl rfl (braidref06_Twin_ok _) (aQ rfl <| aN) rN rfl fun r14 n15 => hDo 8 rfl (by kernel_rfl) (gd0 rfl) rfl rfl rfl (lit (R := R_api_Op) ([r14] : List api_Op) 86 (pP rfl rfl <| pN) rfl Tryz.underlying23 ti65 rfl rfl) (fun _ => rfl) fun v16 => hFrz 86 [25] rfl (fS rfl <| fN) <| hBind fun x17 h18 => hDo 9 rfl (by kernel_rfl) (gd0 rfl) rfl rfl rfl (apn 60 rfl rfl rfl .rd h18 Tryz.underlying23 ti65 rfl rfl rfl) (fun _ => rfl) fun v19 => hTk 10 rfl rfl (faB 4 rfl rfl Tryz.underlying25 rfl (by exact ti23)) <| hDoS 11 rfl (by kernel_rfl) (gd0 rfl) rfl rfl rfl rfl (stoE 4 rfl rfl (Swap.cast (Swap.next fills_val (Swap.here fills_val)) rfl) rfl ones_val fills_val ti23) <| hDone (by kernel_rfl) <| eBlk <| eThen <| gReg <| R rfl (mv rfl) <| R rfl (I.add rfl rfl) <| R rfl (asg rfl) <| lName 4 rfl fun y20 => gNil <| eNext (fun aa ww h => ⟨nvl [v19], h.sub [1, 2, 3, 60, 4] (sS rfl <| sS rfl <| sS rfl <| sS rfl <| sN) (rR rfl rfl <| rR rfl rfl <| rR rfl rfl <| rR rfl rfl <| rR rfl rfl <| rN)⟩)
   ·
    refine oCallJ 7 [] [] rfl rfl (gd0 rfl) rfl Tryz.func24 rfl rfl (braidref06_Twin_ok _) (aQ rfl <| aN) rN rfl fun r21 n22 => hAlt [1, 8] (by kernel_rfl) rfl ⟨?_, ?_, trivial⟩
    ·
     refine oRun 1 rfl (gd0 rfl) rfl rfl flat_val (ldV 4 rfl rfl (At.cast (At.next fills_val At.here) rfl) sc23 rfl) <| hDo 8 rfl (by kernel_rfl) (gd0 rfl) rfl rfl rfl (lit (R := R_api_Op) ([r21] : List api_Op) 86 (pP rfl rfl <| pN) rfl Tryz.underlying23 ti65 rfl rfl) (fun _ => rfl) fun v23 => hFrz 86 [25] rfl (fS rfl <| fN) <| hBind fun x24 h25 => hDo 9 rfl (by kernel_rfl) (gd0 rfl) rfl rfl rfl (apn 60 rfl rfl rfl .rd h25 Tryz.underlying23 ti65 rfl rfl rfl) (fun _ => rfl) fun v26 => hTk 10 rfl rfl (faB 4 rfl rfl Tryz.underlying25 rfl (by exact ti23)) <| hDoS 11 rfl (by kernel_rfl) (gd0 rfl) rfl rfl rfl rfl (stoE 4 rfl rfl (Swap.cast (Swap.next fills_val (Swap.here fills_val)) rfl) rfl ones_val fills_val ti23) <| hDone (by kernel_rfl) <| eBlk <| eThen <| gReg <| R rfl (mv rfl) <| R rfl (I.add rfl rfl) <| R rfl (asg rfl) <| lName 4 rfl fun y27 => gNil <| eNext (fun aa ww h => ⟨nvl [v26], h.sub [1, 2, 3, 60, 4] (sS rfl <| sS rfl <| sS rfl <| sS rfl <| sN) (rR rfl rfl <| rR rfl rfl <| rR rfl rfl <| rR rfl rfl <| rR rfl rfl <| rN)⟩)
    ·
     refine oDo 8 rfl (gd0 rfl) rfl rfl rfl (lit (R := R_api_Op) ([r21] : List api_Op) 86 (pP rfl rfl <| pN) rfl Tryz.underlying23 ti65 rfl rfl) (fun _ => rfl) fun v28 => hRun 1 rfl (by kernel_rfl) (gd0 rfl) rfl rfl flat_val (ldV 4 rfl rfl (At.cast (At.next fills_val At.here) rfl) sc23 rfl) <| hFrz 86 [25] rfl (fS rfl <| fN) <| hBind fun x29 h30 => hDo 9 rfl (by kernel_rfl) (gd0 rfl) rfl rfl rfl (apn 60 rfl rfl rfl .rd h30 Tryz.underlying23 ti65 rfl rfl rfl) (fun _ => rfl) fun v31 => hTk 10 rfl rfl (faB 4 rfl rfl Tryz.underlying25 rfl (by exact ti23)) <| hDoS 11 rfl (by kernel_rfl) (gd0 rfl) rfl rfl rfl rfl (stoE 4 rfl rfl (Swap.cast (Swap.next fills_val (Swap.here fills_val)) rfl) rfl ones_val fills_val ti23) <| hDone (by kernel_rfl) <| eBlk <| eThen <| gReg <| R rfl (mv rfl) <| R rfl (I.add rfl rfl) <| R rfl (asg rfl) <| lName 4 rfl fun y32 => gNil <| eNext (fun aa ww h => ⟨nvl [v31], h.sub [1, 2, 3, 60, 4] (sS rfl <| sS rfl <| sS rfl <| sS rfl <| sN) (rR rfl rfl <| rR rfl rfl <| rR rfl rfl <| rR rfl rfl <| rR rfl rfl <| rN)⟩)
  ·
   refine gExit <| eTexit <| eLeave <| eMid (fun aa ww h => ⟨nvl [(n10 0)], h.sub [2, 3, 60, 4] (sS rfl <| sS rfl <| sN) (rR rfl rfl <| rR rfl rfl <| rR rfl rfl <| rR rfl rfl <| rN)⟩)
 ·
  refine gEx fun n33 => gSR <| lPow [.rd (sliceR (arrR 32 u8R)) x4, .val (n33 0)] 4 3 [] [.val (n33 0)] rfl rfl rfl rfl rfl <| lPow [.rd (sliceR (arrR 32 u8R)) x4, .rd (sliceR R_api_Op) s8] 4 32 [.rd (sliceR (arrR 32 u8R)) x4] [] rfl rfl rfl rfl rfl <| lJoi (R := R_api_Graph) (⟨x4, s8⟩ : api_Graph) 4 rfl (Sp.via (Sp.prod (Sp.prod Sp.unit))) <| R rfl (ld 4 rfl rfl Foc.here ty25 rfl) <| lPnl (arrR 32 u8R) [.rd (sliceR (arrR 32 u8R)) [], .val (.slice none 0 0)] 2 [] [.val (.slice none 0 0)] rfl rfl rfl <| lPnl R_api_Op [.rd (sliceR (arrR 32 u8R)) [], .rd (sliceR R_api_Op) []] 2 [.rd (sliceR (arrR 32 u8R)) []] [] rfl rfl rfl <| lJoi (R := R_api_Graph) (⟨[], []⟩ : api_Graph) 2 rfl (Sp.via (Sp.prod (Sp.prod Sp.unit))) <| Es (sto 2 rfl rfl Foc.here rfl ti25) <| gNil <| eThen <| gRet <| eRet [] [] rfl (eC 2 rfl rfl ty25 <| eN) (rN)
def ancestry_look (a0 : api_Graph) (a1 : Vector UInt8 32) : Option (Int × Int) :=
 dag_Check a0 >>= fun r3 =>
 if r3 != 0 then
  some (0, r3)
 else
  slices_BinarySearchFunc_api_ID_api_ID_api_ID_digest_Cmp a0.IDs a1 >>= fun r6 =>
  if !r6.2 then
   some (0, 6)
  else
   some (r6.1, 0)
theorem ancestry_look_ok (a0 : api_Graph) (a1 : Vector UInt8 32) : Spec Tryz.prog 25 [.rd R_api_Graph a0, .rd (arrR 32 u8R) a1] [(1001, some ((.bool true), .glob 1 (arrR 64 u32R) gtab1))] (ancestry_look a0 a1) (fun r nv => ⟨[.rd i64R r.1, .rd i64R r.2], [(1001, some (.bool true, .glob 1 (arrR 64 u32R) gtab1))]⟩) := by
 refine spec 24 Tryz.func25 rfl rfl rfl fun H w => ?_
 refine gSR <| Eb rfl (bx 1 rfl) fun v1 => Eb rfl (bx 2 rfl) fun v2 => R rfl (asg rfl) <| R rfl (asg rfl) <| gNil <| eThen <| gSeq <| gSR <| R rfl (ld 1 rfl rfl Foc.here ty25 rfl) <| call [1001] [] rfl Tryz.func31 rfl rfl (dag_Check_ok _) (aQ rfl <| aN) (rR rfl rfl <| rN) fun r3 n4 => R rfl (asg rfl) <| gNil <| eThen <| gSR <| R rfl (mv rfl) <| R rfl (I.neq rfl rfl) <| gNil <| eThen <| gIf rfl rfl (fun h5 => ?_) (fun h5 => ?_)
 ·
  refine gSR <| R rfl (mv rfl) <| R rfl (asg rfl) <| R rfl (asg rfl) <| gNil <| eThen <| gRet <| eTret <| eRet [] [1001] rfl (eE rfl <| eE rfl <| eN) (rR rfl rfl <| rN)
 ·
  refine gSkip <| eThen <| gSR <| R rfl (faB 1 rfl rfl Tryz.underlying25 rfl (by exact ti22)) <| R rfl (ld 1 rfl rfl ((Foc.here).part (pt_api_Graph_IDs _)) ty22 rfl) <| R rfl (ld 2 rfl rfl Foc.here ty27 rfl) <| call [] [] rfl Tryz.func50 rfl rfl (slices_BinarySearchFunc_api_ID_api_ID_api_ID_digest_Cmp_ok _ _) (aQ rfl <| aQ rfl <| aQ rfl <| aN) rN fun r6 n7 => R rfl (mv rfl) <| R rfl (ext rfl rfl) <| R rfl (ext rfl rfl) <| R rfl (asg rfl) <| R rfl (asg rfl) <| gNil <| eThen <| gSeq <| gSR <| R rfl (mv rfl) <| R rfl (not' rfl) <| gNil <| eThen <| gIf rfl rfl (fun h8 => ?_) (fun h8 => ?_)
  ·
   refine gSR <| R rfl (asg rfl) <| R rfl (asg rfl) <| gNil <| eThen <| gRet <| eTret <| eRet [] [1001] rfl (eE rfl <| eE rfl <| eN) (rR rfl rfl <| rN)
  ·
   refine gSkip <| eThen <| gSR <| R rfl (mv rfl) <| R rfl (asg rfl) <| R rfl (asg rfl) <| gNil <| eThen <| gRet <| eRet [] [1001] rfl (eE rfl <| eE rfl <| eN) (rR rfl rfl <| rN)
def ancestry_places_L0 (a0 : api_Graph) (s4 : (List ((Vector UInt8 32) × Int)) × Int) : Option (Sum ((List ((Vector UInt8 32) × Int))) ((List ((Vector UInt8 32) × Int)) × Int)) :=
 if decide (s4.2 < (a0.IDs.length : Int)) then
  idx a0.IDs s4.2 >>= fun x6 =>
  some (.inr (mput s4.1 x6 s4.2, w64 (s4.2 + 1)))
 else
  some (.inl s4.1)
def ancestry_places (a0 : api_Graph) : Option ((List ((Vector UInt8 32) × Int))) :=
 (iter (ancestry_places_L0 a0) (([] : List ((Vector UInt8 32) × Int)), 0)) >>= fun s3 =>
 some s3
theorem ancestry_places_ok (a0 : api_Graph) : Spec Tryz.prog 32 [.rd R_api_Graph a0] [] (ancestry_places a0) (fun r nv => ⟨[.val (nv 0)], [(100, some (nv 0, .map (arrR 32 u8R) i64R r))]⟩) := by
 refine spec 23 Tryz.func32 rfl rfl rfl fun H w => ?_
 refine gSR <| Eb rfl (bx 1 rfl) fun v1 => R rfl (asg rfl) <| gNil <| eThen <| gSR <| R rfl (faB 1 rfl rfl Tryz.underlying25 rfl (by exact ti22)) <| R rfl (ld 1 rfl rfl ((Foc.here).part (pt_api_Graph_IDs _)) ty22 rfl) <| R rfl (len' rfl .rd rfl Tryz.underlying22) <| Ef rfl (mkm (arrR 32 u8R) i64R 2 (Or.inr ⟨_, _, rfl, rfl⟩) Tryz.underlying74) fun v2 => R rfl (asg rfl) <| gNil <| eThen <| gMid (fun (s3 : (List ((Vector UInt8 32) × Int))) aa ww => Sta (ctx 23 H [] w) [(3, .val v2)] [(2, some (v2, .map (arrR 32 u8R) i64R s3))] aa ww) ?_ (fun s3 => ?_)
 ·
  refine gSR <| R rfl (faB 1 rfl rfl Tryz.underlying25 rfl (by exact ti22)) <| R rfl (ld 1 rfl rfl ((Foc.here).part (pt_api_Graph_IDs _)) ty22 rfl) <| R rfl (len' rfl .rd rfl Tryz.underlying22) <| R rfl (mv rfl) <| gNil <| eThen <| gLoop (fun (s4 : (List ((Vector UInt8 32) × Int)) × Int) aa ww => Sta (ctx 23 H [] w) [(3, .val v2), (11, .rd (sliceR (arrR 32 u8R)) a0.IDs), (12, .rd i64R (a0.IDs.length : Int)), (13, .rd i64R s4.2)] [(2, some (v2, .map (arrR 32 u8R) i64R s4.1))] aa ww) (fun aa ww h => h.sub [2] (sS rfl <| sS rfl <| sS rfl <| sS rfl <| sN) (rR rfl rfl <| rN)) (fun s4 => ?_)
  refine gSR <| R rfl (I.lss rfl rfl) <| gNil <| eThen <| gSeq <| gIf rfl rfl (fun h5 => ?_) (fun h5 => ?_)
  ·
   refine gSkip <| eThen <| gSeq <| gBlk <| gSR <| R rfl (mv rfl) <| lBind fun x6 h7 => R rfl (ixR rfl rfl h7 Tryz.underlying22 ti27 rfl) <| R rfl (ldR rfl ty27) <| Eb rfl (allc 3 ti27 (.zr (R := (arrR 32 u8R)) (x := (Vector.replicate 32 0)) zr26)) fun v8 => R rfl (asg rfl) <| Es (sto 3 rfl rfl Foc.here rfl ti27) <| gNil <| eThen <| gReg <| R rfl (mv rfl) <| R rfl (ld 3 rfl rfl Foc.here ty27 rfl) <| R rfl (mv rfl) <| Es (mup 2 rfl rfl rfl rfl ky27 Tryz.underlying74) <| gNil <| eBlk <| eThen <| gReg <| R rfl (I.add rfl rfl) <| R rfl (mv rfl) <| gNil <| eNext (fun aa ww h => h.sub [2] (sS rfl <| sS rfl <| sS rfl <| sS rfl <| sN) (rR rfl rfl <| rN))
  ·
   refine gExit <| eTexit <| eLeave <| eMid (fun aa ww h => h.sub [2] (sS rfl <| sN) (rR rfl rfl <| rN))
 ·
  refine gSR <| R rfl (mv rfl) <| R rfl (asg rfl) <| gNil <| eThen <| gRet <| eRet [v2] [2] rfl (eE rfl <| eN) (rR rfl rfl <| rN)
def ancestry_reach_1_L0 (c1_0 : List ((Vector UInt8 32) × Int)) (c3_0 : api_Graph) (rec : (Vector UInt8 32) → (List ((Vector UInt8 32) × Int)) → (List Bool) → api_Graph → Option ((List Bool))) (x8 : api_Op) (s10 : (List Bool) × Int) : Option (Sum ((List Bool)) ((List Bool) × Int)) :=
 if decide (s10.2 < (x8.Preds.length : Int)) then
  idx x8.Preds s10.2 >>= fun x12 =>
  rec x12 c1_0 s10.1 c3_0 >>= fun r15 =>
  some (.inr (r15, w64 (s10.2 + 1)))
 else
  some (.inl s10.1)
def ancestry_reach_1_body (rec : (Vector UInt8 32) → (List ((Vector UInt8 32) × Int)) → (List Bool) → api_Graph → Option ((List Bool))) (a0 : Vector UInt8 32) (c1_0 : List ((Vector UInt8 32) × Int)) (c2_0 : List Bool) (c3_0 : api_Graph) : Option ((List Bool)) :=
 some ((mget c1_0 a0).getD 0) >>= fun y2 =>
 idx c2_0 y2 >>= fun x3 =>
 if x3 then
  some c2_0
 else
  idx c2_0 y2 >>= fun x6 =>
  idx c3_0.Ops y2 >>= fun x8 =>
  iter (ancestry_reach_1_L0 c1_0 c3_0 rec x8) (c2_0.set (y2 : Int).toNat true, 0)
def ancestry_reach_1 : Nat → (Vector UInt8 32) → (List ((Vector UInt8 32) × Int)) → (List Bool) → api_Graph → Option ((List Bool))
 | 0, _, _, _, _ => none
 | N + 1, a0, c1_0, c2_0, c3_0 => ancestry_reach_1_body (ancestry_reach_1 N) a0 c1_0 c2_0 c3_0
theorem ancestry_reach_1_st (rec : (Vector UInt8 32) → (List ((Vector UInt8 32) × Int)) → (List Bool) → api_Graph → Option ((List Bool))) (ih : ∀ (a0 : Vector UInt8 32) (p1_0 : Value) (q1_0 : Value) (c1_0 : List ((Vector UInt8 32) × Int)) (p2_0 : Value) (q2_0 : Value) (c2_0 : List Bool) (p3_0 : Value) (c3_0 : api_Graph) (p4_0 : Value), Spec Tryz.prog 51 [.rd (arrR 32 u8R) a0, .val (ptrTo p1_0 0), .val (ptrTo p2_0 0), .val (ptrTo p3_0 0), .val (ptrTo p4_0 0)] [(1, some (p1_0, .box 74 [.val q1_0])), (2, some (q1_0, .map (arrR 32 u8R) i64R c1_0)), (3, some (p2_0, .box 68 [.val q2_0])), (4, some (q2_0, .list boolR 4 c2_0)), (5, some (p3_0, .box 25 [.rd R_api_Graph c3_0])), (6, some (p4_0, .box 92 [.val (.func (.func 51) #[] #[ptrTo p1_0 0, ptrTo p2_0 0, ptrTo p3_0 0, ptrTo p4_0 0])]))] (rec a0 c1_0 c2_0 c3_0) (fun r nv => ⟨[], [(1, some (p1_0, .box 74 [.val q1_0])), (2, some (q1_0, .map (arrR 32 u8R) i64R c1_0)), (3, some (p2_0, .box 68 [.val q2_0])), (4, some (q2_0, .list boolR 4 r)), (5, some (p3_0, .box 25 [.rd R_api_Graph c3_0])), (6, some (p4_0, .box 92 [.val (.func (.func 51) #[] #[ptrTo p1_0 0, ptrTo p2_0 0, ptrTo p3_0 0, ptrTo p4_0 0])]))]⟩)) (a0 : Vector UInt8 32) (p1_0 : Value) (q1_0 : Value) (c1_0 : List ((Vector UInt8 32) × Int)) (p2_0 : Value) (q2_0 : Value) (c2_0 : List Bool) (p3_0 : Value) (c3_0 : api_Graph) (p4_0 : Value) : Spec Tryz.prog 51 [.rd (arrR 32 u8R) a0, .val (ptrTo p1_0 0), .val (ptrTo p2_0 0), .val (ptrTo p3_0 0), .val (ptrTo p4_0 0)] [(1, some (p1_0, .box 74 [.val q1_0])), (2, some (q1_0, .map (arrR 32 u8R) i64R c1_0)), (3, some (p2_0, .box 68 [.val q2_0])), (4, some (q2_0, .list boolR 4 c2_0)), (5, some (p3_0, .box 25 [.rd R_api_Graph c3_0])), (6, some (p4_0, .box 92 [.val (.func (.func 51) #[] #[ptrTo p1_0 0, ptrTo p2_0 0, ptrTo p3_0 0, ptrTo p4_0 0])]))] (ancestry_reach_1_body rec a0 c1_0 c2_0 c3_0) (fun r nv => ⟨[], [(1, some (p1_0, .box 74 [.val q1_0])), (2, some (q1_0, .map (arrR 32 u8R) i64R c1_0)), (3, some (p2_0, .box 68 [.val q2_0])), (4, some (q2_0, .list boolR 4 r)), (5, some (p3_0, .box 25 [.rd R_api_Graph c3_0])), (6, some (p4_0, .box 92 [.val (.func (.func 51) #[] #[ptrTo p1_0 0, ptrTo p2_0 0, ptrTo p3_0 0, ptrTo p4_0 0])]))]⟩) := by
 refine spec 34 Tryz.func51 rfl rfl rfl fun H w => ?_
 refine gSR <| Eb rfl (bx 7 rfl) fun v1 => gNil <| eThen <| gSR <| R rfl (ldV 1 rfl rfl .here sc74 rfl) <| R rfl (ld 7 rfl rfl Foc.here ty27 rfl) <| R rfl (mlk rfl (.own 2 rfl rfl) rfl ky27 Tryz.underlying74 ti3 (Zr.num rfl) rfl) <| R rfl (asg rfl) <| lName 6 rfl fun y2 => gNil <| eThen <| gSeq <| gSR <| R rfl (ldV 3 rfl rfl .here sc68 rfl) <| R rfl (mv rfl) <| lBind fun x3 h4 => R rfl (ixO 4 rfl rfl rfl h4 Tryz.underlying68 ti4) <| R rfl (ld 4 rfl rfl (Foc.el h4) ty4 rfl) <| gNil <| eThen <| gIf rfl rfl (fun h5 => ?_) (fun h5 => ?_)
 ·
  refine gRet <| eTret <| eRet [] [1, 2, 3, 4, 5, 6] rfl (eN) (rR rfl rfl <| rR rfl rfl <| rR rfl rfl <| rR rfl rfl <| rR rfl rfl <| rR rfl rfl <| rN)
 ·
  refine gSkip <| eThen <| gSR <| R rfl (ldV 3 rfl rfl .here sc68 rfl) <| R rfl (mv rfl) <| lBind fun x6 h7 => R rfl (ixO 4 rfl rfl rfl h7 Tryz.underlying68 ti4) <| Es (sto 4 rfl rfl (Foc.el h7) rfl ti4) <| gNil <| eThen <| gSR <| R rfl (faB 5 rfl rfl Tryz.underlying25 rfl (by exact ti23)) <| R rfl (ld 5 rfl rfl ((Foc.here).part (pt_api_Graph_Ops _)) ty23 rfl) <| R rfl (mv rfl) <| lBind fun x8 h9 => R rfl (ixR rfl rfl h9 Tryz.underlying23 ti65 rfl) <| R rfl (faR rfl (pt_api_Op_Preds _) Tryz.underlying65 rfl rfl (by exact ti22)) <| R rfl (ldR rfl ty22) <| R rfl (len' rfl .rd rfl Tryz.underlying22) <| R rfl (mv rfl) <| gNil <| eThen <| gLoop (fun (s10 : (List Bool) × Int) aa ww => Sta (ctx 34 H [(1, some (p1_0, .box 74 [.val q1_0])), (2, some (q1_0, .map (arrR 32 u8R) i64R c1_0)), (3, some (p2_0, .box 68 [.val q2_0])), (4, some (q2_0, .list boolR 4 c2_0)), (5, some (p3_0, .box 25 [.rd R_api_Graph c3_0])), (6, some (p4_0, .box 92 [.val (.func (.func 51) #[] #[ptrTo p1_0 0, ptrTo p2_0 0, ptrTo p3_0 0, ptrTo p4_0 0])]))] w) [(4, .val (ptrTo p4_0 0)), (24, .rd (sliceR (arrR 32 u8R)) x8.Preds), (25, .rd i64R (x8.Preds.length : Int)), (26, .rd i64R s10.2)] [(6, some (p4_0, .box 92 [.val (.func (.func 51) #[] #[ptrTo p1_0 0, ptrTo p2_0 0, ptrTo p3_0 0, ptrTo p4_0 0])])), (2, some (q1_0, .map (arrR 32 u8R) i64R c1_0)), (1, some (p1_0, .box 74 [.val q1_0])), (4, some (q2_0, .list boolR 4 s10.1)), (3, some (p2_0, .box 68 [.val q2_0])), (5, some (p3_0, .box 25 [.rd R_api_Graph c3_0]))] aa ww) (fun aa ww h => h.sub [6, 2, 1, 4, 3, 5] (sS rfl <| sS rfl <| sS rfl <| sS rfl <| sN) (rR rfl rfl <| rR rfl rfl <| rR rfl rfl <| rR rfl rfl <| rR rfl rfl <| rR rfl rfl <| rN)) (fun s10 => ?_)
  refine gSR <| R rfl (I.lss rfl rfl) <| gNil <| eThen <| gSeq <| gIf rfl rfl (fun h11 => ?_) (fun h11 => ?_)
  ·
   refine gSkip <| eThen <| gSeq <| gBlk <| gSR <| lBind fun x12 h13 => R rfl (ixR rfl rfl h13 Tryz.underlying22 ti27 rfl) <| R rfl (ldR rfl ty27) <| Eb rfl (allc 8 ti27 (.zr (R := (arrR 32 u8R)) (x := (Vector.replicate 32 0)) zr26)) fun v14 => Es (sto 8 rfl rfl Foc.here rfl ti27) <| gNil <| eThen <| gReg <| R rfl (ldV 6 rfl rfl .here sc92 rfl) <| R rfl (ld 8 rfl rfl Foc.here ty27 rfl) <| callv [1, 2, 3, 4, 5, 6] [(1, 1), (2, 2), (3, 3), (4, 4), (5, 5), (6, 6)] (gd0 rfl) rfl rfl Tryz.func51 rfl rfl (ih _ _ _ _ _ _ _ _ _ _) (aQ rfl <| aN) (cQ 1 rfl <| cQ 3 rfl <| cQ 5 rfl <| cQ 6 rfl <| cN) (rR rfl rfl <| rR rfl rfl <| rR rfl rfl <| rR rfl rfl <| rR rfl rfl <| rR rfl rfl <| rN) fun r15 n16 => gNil <| eBlk <| eThen <| gReg <| R rfl (I.add rfl rfl) <| R rfl (mv rfl) <| gNil <| eNext (fun aa ww h => h.sub [6, 2, 1, 4, 3, 5] (sS rfl <| sS rfl <| sS rfl <| sS rfl <| sN) (rR rfl rfl <| rR rfl rfl <| rR rfl rfl <| rR rfl rfl <| rR rfl rfl <| rR rfl rfl <| rN))
  ·
   refine gExit <| eTexit <| eLeave <| eRet [] [1, 2, 3, 4, 5, 6] rfl (eN) (rR rfl rfl <| rR rfl rfl <| rR rfl rfl <| rR rfl rfl <| rR rfl rfl <| rR rfl rfl <| rN)
theorem ancestry_reach_1_okN : ∀ (N : Nat) (a0 : Vector UInt8 32) (p1_0 : Value) (q1_0 : Value) (c1_0 : List ((Vector UInt8 32) × Int)) (p2_0 : Value) (q2_0 : Value) (c2_0 : List Bool) (p3_0 : Value) (c3_0 : api_Graph) (p4_0 : Value), Spec Tryz.prog 51 [.rd (arrR 32 u8R) a0, .val (ptrTo p1_0 0), .val (ptrTo p2_0 0), .val (ptrTo p3_0 0), .val (ptrTo p4_0 0)] [(1, some (p1_0, .box 74 [.val q1_0])), (2, some (q1_0, .map (arrR 32 u8R) i64R c1_0)), (3, some (p2_0, .box 68 [.val q2_0])), (4, some (q2_0, .list boolR 4 c2_0)), (5, some (p3_0, .box 25 [.rd R_api_Graph c3_0])), (6, some (p4_0, .box 92 [.val (.func (.func 51) #[] #[ptrTo p1_0 0, ptrTo p2_0 0, ptrTo p3_0 0, ptrTo p4_0 0])]))] (ancestry_reach_1 N a0 c1_0 c2_0 c3_0) (fun r nv => ⟨[], [(1, some (p1_0, .box 74 [.val q1_0])), (2, some (q1_0, .map (arrR 32 u8R) i64R c1_0)), (3, some (p2_0, .box 68 [.val q2_0])), (4, some (q2_0, .list boolR 4 r)), (5, some (p3_0, .box 25 [.rd R_api_Graph c3_0])), (6, some (p4_0, .box 92 [.val (.func (.func 51) #[] #[ptrTo p1_0 0, ptrTo p2_0 0, ptrTo p3_0 0, ptrTo p4_0 0])]))]⟩)
 | 0, a0, p1_0, q1_0, c1_0, p2_0, q2_0, c2_0, p3_0, c3_0, p4_0 => fun r hr => absurd hr (by simp [ancestry_reach_1])
 | N + 1, a0, p1_0, q1_0, c1_0, p2_0, q2_0, c2_0, p3_0, c3_0, p4_0 => ancestry_reach_1_st (ancestry_reach_1 N) (ancestry_reach_1_okN N) a0 p1_0 q1_0 c1_0 p2_0 q2_0 c2_0 p3_0 c3_0 p4_0
theorem ancestry_reach_1_ok (a0 : Vector UInt8 32) (p1_0 : Value) (q1_0 : Value) (c1_0 : List ((Vector UInt8 32) × Int)) (p2_0 : Value) (q2_0 : Value) (c2_0 : List Bool) (p3_0 : Value) (c3_0 : api_Graph) (p4_0 : Value) : Spec Tryz.prog 51 [.rd (arrR 32 u8R) a0, .val (ptrTo p1_0 0), .val (ptrTo p2_0 0), .val (ptrTo p3_0 0), .val (ptrTo p4_0 0)] [(1, some (p1_0, .box 74 [.val q1_0])), (2, some (q1_0, .map (arrR 32 u8R) i64R c1_0)), (3, some (p2_0, .box 68 [.val q2_0])), (4, some (q2_0, .list boolR 4 c2_0)), (5, some (p3_0, .box 25 [.rd R_api_Graph c3_0])), (6, some (p4_0, .box 92 [.val (.func (.func 51) #[] #[ptrTo p1_0 0, ptrTo p2_0 0, ptrTo p3_0 0, ptrTo p4_0 0])]))] (ancestry_reach_1 1000 a0 c1_0 c2_0 c3_0) (fun r nv => ⟨[], [(1, some (p1_0, .box 74 [.val q1_0])), (2, some (q1_0, .map (arrR 32 u8R) i64R c1_0)), (3, some (p2_0, .box 68 [.val q2_0])), (4, some (q2_0, .list boolR 4 r)), (5, some (p3_0, .box 25 [.rd R_api_Graph c3_0])), (6, some (p4_0, .box 92 [.val (.func (.func 51) #[] #[ptrTo p1_0 0, ptrTo p2_0 0, ptrTo p3_0 0, ptrTo p4_0 0])]))]⟩) := ancestry_reach_1_okN 1000 a0 p1_0 q1_0 c1_0 p2_0 q2_0 c2_0 p3_0 c3_0 p4_0
def ancestry_reach_L0 (a0 : api_Graph) (a1 : List (Vector UInt8 32)) (r2 : (List ((Vector UInt8 32) × Int))) (s11 : (List Bool) × Int) : Option (Sum ((List Bool)) ((List Bool) × Int)) :=
 if decide (s11.2 < (a1.length : Int)) then
  idx a1 s11.2 >>= fun x13 =>
  (ancestry_reach_1 1000) x13 r2 s11.1 a0 >>= fun r16 =>
  some (.inr (r16, w64 (s11.2 + 1)))
 else
  some (.inl s11.1)
def ancestry_reach (a0 : api_Graph) (a1 : List (Vector UInt8 32)) : Option ((List Bool)) :=
 ancestry_places a0 >>= fun r2 =>
 mkn 1 false (a0.IDs.length : Int) >>= fun x5 =>
 (iter (ancestry_reach_L0 a0 a1 r2) (x5, 0)) >>= fun s10 =>
 some s10
theorem ancestry_reach_ok (a0 : api_Graph) (a1 : List (Vector UInt8 32)) : Spec Tryz.prog 27 [.rd R_api_Graph a0, .rd (sliceR (arrR 32 u8R)) a1] [] (ancestry_reach a0 a1) (fun r nv => ⟨[.val (nv 0)], [(100, some (nv 0, .list boolR 4 r))]⟩) := by
 refine spec 28 Tryz.func27 rfl rfl rfl fun H w => ?_
 refine gSR <| Eb rfl (bx 1 rfl) fun v1 => R rfl (asg rfl) <| gNil <| eThen <| gSR <| R rfl (ld 1 rfl rfl Foc.here ty25 rfl) <| call [] [(100, 2)] rfl Tryz.func32 rfl rfl (ancestry_places_ok _) (aQ rfl <| aN) rN fun r2 n3 => Eb rfl (allc 3 ti74 (.val rfl)) fun v4 => Es (stoE 3 rfl rfl (.here fills_val) rfl ones_val fills_val ti74) <| gNil <| eThen <| gSR <| R rfl (faB 1 rfl rfl Tryz.underlying25 rfl (by exact ti22)) <| R rfl (ld 1 rfl rfl ((Foc.here).part (pt_api_Graph_IDs _)) ty22 rfl) <| R rfl (len' rfl .rd rfl Tryz.underlying22) <| lBind fun x5 h6 => Ef rfl (mks (R := boolR) 4 rfl rfl h6 Tryz.underlying68 ti4 Zr.bool rfl) fun v7 => Eb rfl (allc 5 ti68 (.val rfl)) fun v8 => Es (stoE 5 rfl rfl (.here fills_val) rfl ones_val fills_val ti68) <| gNil <| eThen <| gSR <| Eb rfl (allc 6 ti92 (.val rfl)) fun v9 => gNil <| eThen <| gSR <| R rfl (mkf mp0 (mp4 rfl rfl rfl rfl)) <| Es (stoE 6 rfl rfl (.here fills_val) rfl ones_val fills_val ti92) <| gNil <| eThen <| gMid (fun (s10 : (List Bool)) aa ww => Sta (ctx 28 H [] w) [(6, .val (ptrTo v8 0))] [(4, some (v7, .list boolR 4 s10)), (5, some (v8, .box 68 [.val v7]))] aa ww) ?_ (fun s10 => ?_)
 ·
  refine gSR <| R rfl (mv rfl) <| R rfl (len' rfl .rd rfl Tryz.underlying22) <| R rfl (mv rfl) <| gNil <| eThen <| gLoop (fun (s11 : (List Bool) × Int) aa ww => Sta (ctx 28 H [] w) [(6, .val (ptrTo v8 0)), (7, .val (ptrTo v9 0)), (17, .rd (sliceR (arrR 32 u8R)) a1), (18, .rd i64R (a1.length : Int)), (19, .rd i64R s11.2)] [(4, some (v7, .list boolR 4 s11.1)), (5, some (v8, .box 68 [.val v7])), (6, some (v9, .box 92 [.val (.func (.func 51) #[] #[ptrTo v4 0, ptrTo v8 0, ptrTo v1 0, ptrTo v9 0])])), (2, some ((n3 0), .map (arrR 32 u8R) i64R r2)), (3, some (v4, .box 74 [.val (n3 0)])), (1, some (v1, .box 25 [.rd R_api_Graph a0]))] aa ww) (fun aa ww h => h.sub [4, 5, 6, 2, 3, 1] (sS rfl <| sS rfl <| sS rfl <| sS rfl <| sS rfl <| sN) (rR rfl rfl <| rR rfl rfl <| rR rfl rfl <| rR rfl rfl <| rR rfl rfl <| rR rfl rfl <| rN)) (fun s11 => ?_)
  refine gSR <| R rfl (I.lss rfl rfl) <| gNil <| eThen <| gSeq <| gIf rfl rfl (fun h12 => ?_) (fun h12 => ?_)
  ·
   refine gSkip <| eThen <| gSeq <| gBlk <| gSR <| lBind fun x13 h14 => R rfl (ixR rfl rfl h14 Tryz.underlying22 ti27 rfl) <| R rfl (ldR rfl ty27) <| Eb rfl (allc 7 ti27 (.zr (R := (arrR 32 u8R)) (x := (Vector.replicate 32 0)) zr26)) fun v15 => Es (sto 7 rfl rfl Foc.here rfl ti27) <| gNil <| eThen <| gReg <| R rfl (ldV 6 rfl rfl .here sc92 rfl) <| R rfl (ld 7 rfl rfl Foc.here ty27 rfl) <| callv [3, 2, 5, 4, 1, 6] [(1, 3), (2, 2), (3, 5), (4, 4), (5, 1), (6, 6)] (gd0 rfl) rfl rfl Tryz.func51 rfl rfl (ancestry_reach_1_ok _ _ _ _ _ _ _ _ _ _) (aQ rfl <| aN) (cQ 3 rfl <| cQ 5 rfl <| cQ 1 rfl <| cQ 6 rfl <| cN) (rR rfl rfl <| rR rfl rfl <| rR rfl rfl <| rR rfl rfl <| rR rfl rfl <| rR rfl rfl <| rN) fun r16 n17 => gNil <| eBlk <| eThen <| gReg <| R rfl (I.add rfl rfl) <| R rfl (mv rfl) <| gNil <| eNext (fun aa ww h => h.sub [4, 5, 6, 2, 3, 1] (sS rfl <| sS rfl <| sS rfl <| sS rfl <| sS rfl <| sN) (rR rfl rfl <| rR rfl rfl <| rR rfl rfl <| rR rfl rfl <| rR rfl rfl <| rR rfl rfl <| rN))
  ·
   refine gExit <| eTexit <| eLeave <| eMid (fun aa ww h => h.sub [4, 5] (sS rfl <| sN) (rR rfl rfl <| rR rfl rfl <| rN))
 ·
  refine gSR <| R rfl (ldV 5 rfl rfl .here sc68 rfl) <| R rfl (asg rfl) <| gNil <| eThen <| gRet <| eRet [v7] [4] rfl (eE rfl <| eN) (rR rfl rfl <| rN)
def ancestry_marked_L0 (a0 : api_Graph) (a1 : List Bool) (s3 : (List (Vector UInt8 32)) × Int) : Option (Sum ((List (Vector UInt8 32))) ((List (Vector UInt8 32)) × Int)) :=
 if decide (s3.2 < (a1.length : Int)) then
  idx a1 s3.2 >>= fun x6 =>
  if x6 then
   idx a0.IDs s3.2 >>= fun x9 =>
   app 32 s3.1 [x9] >>= fun x12 =>
   some (.inr (x12, w64 (s3.2 + 1)))
  else
   some (.inr (s3.1, w64 (s3.2 + 1)))
 else
  some (.inl s3.1)
def ancestry_marked (a0 : api_Graph) (a1 : List Bool) : Option ((List (Vector UInt8 32))) :=
 (iter (ancestry_marked_L0 a0 a1) ([], 0)) >>= fun s2 =>
 some s2
theorem ancestry_marked_ok (a0 : api_Graph) (a1 : List Bool) : Spec Tryz.prog 26 [.rd R_api_Graph a0, .rd (sliceR boolR) a1] [] (ancestry_marked a0 a1) (fun r nv => ⟨[.val (nv 0)], [(100, some (nv 0, .list (arrR 32 u8R) 27 r))]⟩) := by
 refine spec 26 Tryz.func26 rfl rfl rfl fun H w => ?_
 refine gSR <| Eb rfl (bx 1 rfl) fun v1 => R rfl (asg rfl) <| gNil <| eThen <| gSR <| R rfl (asg rfl) <| gNil <| eThen <| gMid (fun (s2 : (List (Vector UInt8 32))) aa ww => ∃ nv : Nat → Value, Sta (ctx 26 H [] w) [(5, .val (nv 0))] [(3, some ((nv 0), .list (arrR 32 u8R) 27 s2))] aa ww) ?_ (fun s2 => ?_)
 ·
  refine gSR <| R rfl (mv rfl) <| R rfl (len' rfl .rd rfl Tryz.underlying68) <| R rfl (mv rfl) <| gNil <| eThen <| gNew (arrR 32 u8R) 27 6 <| gLoop (fun (s3 : (List (Vector UInt8 32)) × Int) aa ww => ∃ nv : Nat → Value, Sta (ctx 26 H [] w) [(1, .rd (sliceR boolR) a1), (2, .val (ptrTo v1 0)), (5, .val (nv 0)), (8, .rd i64R (a1.length : Int)), (9, .rd i64R s3.2)] [(1, some (v1, .box 25 [.rd R_api_Graph a0])), (5, some ((nv 0), .list (arrR 32 u8R) 27 s3.1))] aa ww) (fun aa ww h => ⟨nvl [(.slice none 0 0)], h.sub [1, 6] (sS rfl <| sS rfl <| sS rfl <| sS rfl <| sS rfl <| sN) (rR rfl rfl <| rR rfl rfl <| rN)⟩) (fun s3 => ?_)
  refine gEx fun n4 => gSR <| R rfl (I.lss rfl rfl) <| gNil <| eThen <| gSeq <| gIf rfl rfl (fun h5 => ?_) (fun h5 => ?_)
  ·
   refine gSkip <| eThen <| gSeq <| gBlk <| gSR <| R rfl (mv rfl) <| R rfl (asg rfl) <| gNil <| eThen <| gSR <| R rfl (mv rfl) <| R rfl (mv rfl) <| lBind fun x6 h7 => R rfl (ixR rfl rfl h7 Tryz.underlying68 ti4 rfl) <| R rfl (ldR rfl ty4) <| gNil <| eThen <| gIf rfl rfl (fun h8 => ?_) (fun h8 => ?_)
   ·
    refine gReg <| R rfl (mv rfl) <| R rfl (faB 1 rfl rfl Tryz.underlying25 rfl (by exact ti22)) <| R rfl (ld 1 rfl rfl ((Foc.here).part (pt_api_Graph_IDs _)) ty22 rfl) <| R rfl (mv rfl) <| lBind fun x9 h10 => R rfl (ixR rfl rfl h10 Tryz.underlying22 ti27 rfl) <| R rfl (ldR rfl ty27) <| Ef rfl (lit (R := (arrR 32 u8R)) ([x9] : List (Vector UInt8 32)) 7 (pP rfl rfl <| pN) rfl Tryz.underlying22 ti27 rfl rfl) fun v11 => lFrz 7 [22] rfl (fS rfl <| fN) <| lBind fun x12 h13 => Ef rfl (apn 5 rfl rfl rfl .rd h13 Tryz.underlying22 ti27 rfl rfl rfl) fun v14 => R rfl (asg rfl) <| gNil <| eBlk <| eThen <| gReg <| R rfl (I.add rfl rfl) <| R rfl (mv rfl) <| gNil <| eNext (fun aa ww h => ⟨nvl [v14], h.sub [1, 5] (sS rfl <| sS rfl <| sS rfl <| sS rfl <| sS rfl <| sN) (rR rfl rfl <| rR rfl rfl <| rN)⟩)
   ·
    refine gSkip <| eBlk <| eThen <| gReg <| R rfl (I.add rfl rfl) <| R rfl (mv rfl) <| gNil <| eNext (fun aa ww h => ⟨nvl [(n4 0)], h.sub [1, 5] (sS rfl <| sS rfl <| sS rfl <| sS rfl <| sS rfl <| sN) (rR rfl rfl <| rR rfl rfl <| rN)⟩)
  ·
   refine gExit <| eTexit <| eLeave <| eMid (fun aa ww h => ⟨nvl [(n4 0)], h.sub [5] (sS rfl <| sN) (rR rfl rfl <| rN)⟩)
 ·
  refine gEx fun n15 => gSR <| R rfl (mv rfl) <| R rfl (asg rfl) <| gNil <| eThen <| gRet <| eRet [(n15 0)] [3] rfl (eE rfl <| eN) (rR rfl rfl <| rN)
def ancestry_Ancestors (a0 : api_Graph) (a1 : Vector UInt8 32) : Option ((List (Vector UInt8 32)) × Int) :=
 ancestry_look a0 a1 >>= fun r3 =>
 if r3.2 != 0 then
  some ([], r3.2)
 else
  idx a0.Ops r3.1 >>= fun x6 =>
  ancestry_reach a0 x6.Preds >>= fun r8 =>
  ancestry_marked a0 r8 >>= fun r10 =>
  some (r10, 0)
theorem ancestry_Ancestors_ok (a0 : api_Graph) (a1 : Vector UInt8 32) : Spec Tryz.prog 7 [.rd R_api_Graph a0, .rd (arrR 32 u8R) a1] [(1001, some ((.bool true), .glob 1 (arrR 64 u32R) gtab1))] (ancestry_Ancestors a0 a1) (fun r nv => ⟨[.val (nv 0), .rd i64R r.2], [(1001, some (.bool true, .glob 1 (arrR 64 u32R) gtab1)), (100, some (nv 0, .list (arrR 32 u8R) 27 r.1))]⟩) := by
 refine spec 27 Tryz.func7 rfl rfl rfl fun H w => ?_
 refine gSR <| Eb rfl (bx 1 rfl) fun v1 => Eb rfl (bx 2 rfl) fun v2 => R rfl (asg rfl) <| R rfl (asg rfl) <| gNil <| eThen <| gSR <| R rfl (ld 1 rfl rfl Foc.here ty25 rfl) <| R rfl (ld 2 rfl rfl Foc.here ty27 rfl) <| call [1001] [] rfl Tryz.func25 rfl rfl (ancestry_look_ok _ _) (aQ rfl <| aQ rfl <| aN) (rR rfl rfl <| rN) fun r3 n4 => R rfl (mv rfl) <| R rfl (ext rfl rfl) <| R rfl (ext rfl rfl) <| R rfl (asg rfl) <| R rfl (asg rfl) <| gNil <| eThen <| gSeq <| gSR <| R rfl (mv rfl) <| R rfl (I.neq rfl rfl) <| gNil <| eThen <| gIf rfl rfl (fun h5 => ?_) (fun h5 => ?_)
 ·
  refine gSR <| R rfl (mv rfl) <| R rfl (asg rfl) <| R rfl (asg rfl) <| gNil <| eThen <| gRet <| eTret <| eNew (arrR 32 u8R) 27 3 <| eRet [(.slice none 0 0)] [1001, 3] rfl (eE rfl <| eE rfl <| eN) (rR rfl rfl <| rR rfl rfl <| rN)
 ·
  refine gSkip <| eThen <| gSeq <| gRegH [28, 31] mixed rfl rfl <| hTk 0 rfl rfl (ld 1 rfl rfl Foc.here ty25 rfl) <| hTk 1 rfl rfl (ld 1 rfl rfl Foc.here ty25 rfl) <| hTk 2 rfl rfl (faB 1 rfl rfl Tryz.underlying25 rfl (by exact ti23)) <| hTk 3 rfl rfl (ld 1 rfl rfl ((Foc.here).part (pt_api_Graph_Ops _)) ty23 rfl) <| hTk 4 rfl rfl (mv rfl) <| hBind fun x6 h7 => hTk 5 rfl rfl (ixR rfl rfl h7 Tryz.underlying23 ti65 rfl) <| hTk 6 rfl rfl (faR rfl (pt_api_Op_Preds _) Tryz.underlying65 rfl rfl (by exact ti22)) <| hTk 7 rfl rfl (ldR rfl ty22) <| hCallF 8 [] [(100, 28)] rfl (by kernel_rfl) rfl (gd0 rfl) rfl Tryz.func27 rfl rfl (ancestry_reach_ok _ _) (aQ rfl <| aQ rfl <| aN) rN rfl (fun _ _ => flat_val) fun r8 n9 => hFrz 28 [25] rfl (fS rfl <| fN) <| hCallF 9 [] [(100, 31)] rfl (by kernel_rfl) rfl (gd0 rfl) rfl Tryz.func26 rfl rfl (ancestry_marked_ok _ _) (aQ rfl <| aQ rfl <| aN) rN rfl (fun _ _ => flat_val) fun r10 n11 => hTakeF 10 rfl (by kernel_rfl) (by kernel_rfl) (by kernel_rfl) (gd0 rfl) rfl rfl flat_val (asg rfl) <| hTk 11 rfl rfl (asg rfl) <| hDone (by kernel_rfl) <| eThen <| gRet <| eRet [(n11 0)] [1001, 31] rfl (eE rfl <| eE rfl <| eN) (rR rfl rfl <| rR rfl rfl <| rN)
def braidref10_asked (a0 : api_Graph) (a1 : List (Vector UInt8 32)) : Option (Int) :=
 braidref09_Check a0 >>= fun r2 =>
 if r2 != 0 then
  braidref09_Check a0 >>= fun r5 =>
  some r5
 else
  braidref09_All a0.IDs a1 >>= fun r7 =>
  if !r7 then
   some 6
  else
   some 0
theorem braidref10_asked_ok (a0 : api_Graph) (a1 : List (Vector UInt8 32)) : Spec Tryz.prog 28 [.rd R_api_Graph a0, .rd (sliceR (arrR 32 u8R)) a1] [] (braidref10_asked a0 a1) (fun r nv => ⟨[.rd i64R r], []⟩) := by
 refine spec 15 Tryz.func28 rfl rfl rfl fun H w => ?_
 refine gSR <| Eb rfl (bx 1 rfl) fun v1 => R rfl (asg rfl) <| gNil <| eThen <| gSeq <| gSR <| R rfl (ld 1 rfl rfl Foc.here ty25 rfl) <| call [] [] rfl Tryz.func33 rfl rfl (braidref09_Check_ok _) (aQ rfl <| aN) rN fun r2 n3 => R rfl (I.neq rfl rfl) <| gNil <| eThen <| gIf rfl rfl (fun h4 => ?_) (fun h4 => ?_)
 ·
  refine gSR <| R rfl (ld 1 rfl rfl Foc.here ty25 rfl) <| call [] [] rfl Tryz.func33 rfl rfl (braidref09_Check_ok _) (aQ rfl <| aN) rN fun r5 n6 => R rfl (asg rfl) <| gNil <| eThen <| gRet <| eTret <| eRet [] [] rfl (eE rfl <| eN) (rN)
 ·
  refine gSkip <| eThen <| gSeq <| gSR <| R rfl (faB 1 rfl rfl Tryz.underlying25 rfl (by exact ti22)) <| R rfl (ld 1 rfl rfl ((Foc.here).part (pt_api_Graph_IDs _)) ty22 rfl) <| R rfl (mv rfl) <| call [] [] rfl Tryz.func48 rfl rfl (braidref09_All_ok _ _) (aQ rfl <| aQ rfl <| aN) rN fun r7 n8 => R rfl (not' rfl) <| gNil <| eThen <| gIf rfl rfl (fun h9 => ?_) (fun h9 => ?_)
  ·
   refine gSR <| R rfl (asg rfl) <| gNil <| eThen <| gRet <| eTret <| eRet [] [] rfl (eE rfl <| eN) (rN)
  ·
   refine gSkip <| eThen <| gSR <| R rfl (asg rfl) <| gNil <| eThen <| gRet <| eRet [] [] rfl (eE rfl <| eN) (rN)
def braidref10_preds (a0 : api_Graph) (a1 : Vector UInt8 32) : Option ((List (Vector UInt8 32))) :=
 braidref09_At a0.IDs a1 >>= fun r3 =>
 idx a0.Ops r3 >>= fun x5 =>
 some x5.Preds
theorem braidref10_preds_ok (a0 : api_Graph) (a1 : Vector UInt8 32) : Spec Tryz.prog 52 [.rd R_api_Graph a0, .rd (arrR 32 u8R) a1] [] (braidref10_preds a0 a1) (fun r nv => ⟨[.rd (sliceR (arrR 32 u8R)) r], []⟩) := by
 refine spec 14 Tryz.func52 rfl rfl rfl fun H w => ?_
 refine gSR <| Eb rfl (bx 1 rfl) fun v1 => Eb rfl (bx 2 rfl) fun v2 => R rfl (asg rfl) <| gNil <| eThen <| gSeq <| gRegH [] mixed rfl rfl <| hTk 0 rfl rfl (faB 1 rfl rfl Tryz.underlying25 rfl (by exact ti23)) <| hTk 1 rfl rfl (ld 1 rfl rfl ((Foc.here).part (pt_api_Graph_Ops _)) ty23 rfl) <| hTk 2 rfl rfl (faB 1 rfl rfl Tryz.underlying25 rfl (by exact ti22)) <| hTk 3 rfl rfl (ld 1 rfl rfl ((Foc.here).part (pt_api_Graph_IDs _)) ty22 rfl) <| hTk 4 rfl rfl (ld 2 rfl rfl Foc.here ty27 rfl) <| hCallF 5 [] [] rfl (by kernel_rfl) rfl (gd0 rfl) rfl Tryz.func30 rfl rfl (braidref09_At_ok _ _) (aQ rfl <| aQ rfl <| aN) rN rfl (fun _ _ => flat_num) fun r3 n4 => hBind fun x5 h6 => hTk 6 rfl rfl (ixR rfl rfl h6 Tryz.underlying23 ti65 rfl) <| hTk 7 rfl rfl (faR rfl (pt_api_Op_Preds _) Tryz.underlying65 rfl rfl (by exact ti22)) <| hTk 8 rfl rfl (ldR rfl ty22) <| hTk 9 rfl rfl (asg rfl) <| hDone (by kernel_rfl) <| eThen <| gRet <| eRet [] [] rfl (eE rfl <| eN) (rN)
def braidref10_Sorted_L2 (a0 : List (Vector UInt8 32)) (s2 : (List (Vector UInt8 32)) × Int) (s6 : Int) : Option (Sum Int Int) :=
 if decide (s6 < (s2.1.length : Int)) then
  idx s2.1 s6 >>= fun x8 =>
  idx a0 s2.2 >>= fun x10 =>
  braidref01_Cmp x8 x10 >>= fun r12 =>
  if decide (r12 < 0) then
   some (.inr (w64 (s6 + 1)))
  else
   some (.inl s6)
 else
  some (.inl s6)
def braidref10_Sorted_L0 (a0 : List (Vector UInt8 32)) (s2 : (List (Vector UInt8 32)) × Int) : Option (Sum ((List (Vector UInt8 32))) ((List (Vector UInt8 32)) × Int)) :=
 if decide (s2.2 < (a0.length : Int)) then
  (iter (braidref10_Sorted_L2 a0 s2) 0) >>= fun s5 =>
  (if s5 == (s2.1.length : Int) then
   some true
  else
   idx s2.1 s5 >>= fun x17 =>
   idx a0 s2.2 >>= fun x19 =>
   some (!decide (x17 = x19))) >>= fun s15 =>
  if s15 then
   cut s2.1 0 s5 >>= fun x22 =>
   idx a0 s2.2 >>= fun x24 =>
   cut s2.1 s5 (s2.1.length : Int) >>= fun x26 =>
   app 32 ([] : List (Vector UInt8 32)) x22 >>= fun x29 =>
   app 32 x29 [x24] >>= fun x33 =>
   app 32 x33 x26 >>= fun x36 =>
   some (w64 (s2.2 + 1)) >>= fun y39 =>
   some (.inr (x36, y39))
  else
   some (w64 (s2.2 + 1)) >>= fun y63 =>
   some (.inr (s2.1, y63))
 else
  some (.inl s2.1)
def braidref10_Sorted (a0 : List (Vector UInt8 32)) : Option ((List (Vector UInt8 32))) :=
 (iter (braidref10_Sorted_L0 a0) ([], 0)) >>= fun s1 =>
 some s1
theorem braidref10_Sorted_ok (a0 : List (Vector UInt8 32)) : Spec Tryz.prog 53 [.rd (sliceR (arrR 32 u8R)) a0] [] (braidref10_Sorted a0) (fun r nv => ⟨[.val (nv 0)], [(100, some (nv 0, .list (arrR 32 u8R) 27 r))]⟩) := by
 refine spec 61 Tryz.func53 rfl rfl rfl fun H w => ?_
 refine gSR <| R rfl (asg rfl) <| gNil <| eThen <| gSR <| R rfl (asg rfl) <| gNil <| eThen <| gMid (fun (s1 : (List (Vector UInt8 32))) aa ww => ∃ nv : Nat → Value, Sta (ctx 61 H [] w) [(3, .val (nv 0))] [(53, some ((nv 0), .list (arrR 32 u8R) 27 s1))] aa ww) ?_ (fun s1 => ?_)
 ·
  refine gSR <| R rfl (asg rfl) <| gNil <| eThen <| gNew (arrR 32 u8R) 27 107 <| gLoop (fun (s2 : (List (Vector UInt8 32)) × Int) aa ww => ∃ nv : Nat → Value, Sta (ctx 61 H [] w) [(0, .rd (sliceR (arrR 32 u8R)) a0), (3, .val (nv 0)), (4, .rd i64R s2.2)] [(106, some ((nv 0), .list (arrR 32 u8R) 27 s2.1))] aa ww) (fun aa ww h => ⟨nvl [(.slice none 0 0)], h.sub [107] (sS rfl <| sS rfl <| sS rfl <| sN) (rR rfl rfl <| rN)⟩) (fun s2 => ?_)
  refine gEx fun n3 => gSeq <| gSR <| R rfl (mv rfl) <| R rfl (mv rfl) <| R rfl (len' rfl .rd rfl Tryz.underlying22) <| R rfl (I.lss rfl rfl) <| gNil <| eThen <| gIf rfl rfl (fun h4 => ?_) (fun h4 => ?_)
  ·
   refine gSkip <| eThen <| gSeq <| gBlk <| gSR <| R rfl (asg rfl) <| gNil <| eThen <| gMid (fun (s5 : Int) aa ww => Sta (ctx 61 H [] w) [(0, .rd (sliceR (arrR 32 u8R)) a0), (3, .val (n3 0)), (4, .rd i64R s2.2), (5, .rd i64R s5)] [(106, some ((n3 0), .list (arrR 32 u8R) 27 s2.1))] aa ww) ?_ (fun s5 => ?_)
   ·
    refine gLoop (fun (s6 : Int) aa ww => Sta (ctx 61 H [] w) [(0, .rd (sliceR (arrR 32 u8R)) a0), (3, .val (n3 0)), (4, .rd i64R s2.2), (5, .rd i64R s6)] [(106, some ((n3 0), .list (arrR 32 u8R) 27 s2.1))] aa ww) (fun aa ww h => h.sub [106] (sS rfl <| sS rfl <| sS rfl <| sS rfl <| sN) (rR rfl rfl <| rN)) (fun s6 => ?_)
    refine gSeq <| gSeq <| gRegH [] mixed rfl rfl <| hTk 0 rfl rfl (mv rfl) <| hTk 1 rfl rfl (mv rfl) <| hTk 2 rfl rfl (len' rfl (.own 106 rfl) rfl Tryz.underlying22) <| hTk 3 rfl rfl (I.lss rfl rfl) <| hTk 4 rfl rfl (mv rfl) <| hIf 16 rfl rfl (fun h7 => ?_) (fun h7 => ?_)
    ·
     refine hKn 15 rfl rfl h7 <| hTake 5 rfl (by kernel_rfl) (by kernel_rfl) (by kernel_rfl) (gd rfl rfl rfl rfl) rfl rfl (mv rfl) <| hTake 6 rfl (by kernel_rfl) (by kernel_rfl) (by kernel_rfl) (gd rfl rfl rfl rfl) rfl rfl (mv rfl) <| hBind fun x8 h9 => hTake 7 rfl (by kernel_rfl) (by kernel_rfl) (by kernel_rfl) (gd rfl rfl rfl rfl) rfl rfl (ixO 106 rfl rfl rfl h9 Tryz.underlying22 ti27) <| hTake 8 rfl (by kernel_rfl) (by kernel_rfl) (by kernel_rfl) (gd rfl rfl rfl rfl) rfl rfl (ld 106 rfl rfl (Foc.el h9) ty27 rfl) <| hTake 9 rfl (by kernel_rfl) (by kernel_rfl) (by kernel_rfl) (gd rfl rfl rfl rfl) rfl rfl (mv rfl) <| hTake 10 rfl (by kernel_rfl) (by kernel_rfl) (by kernel_rfl) (gd rfl rfl rfl rfl) rfl rfl (mv rfl) <| hBind fun x10 h11 => hTake 11 rfl (by kernel_rfl) (by kernel_rfl) (by kernel_rfl) (gd rfl rfl rfl rfl) rfl rfl (ixR rfl rfl h11 Tryz.underlying22 ti27 rfl) <| hTake 12 rfl (by kernel_rfl) (by kernel_rfl) (by kernel_rfl) (gd rfl rfl rfl rfl) rfl rfl (ldR rfl ty27) <| hCallF 13 [] [] rfl (by kernel_rfl) rfl (gd rfl rfl rfl rfl) rfl Tryz.func65 rfl rfl (braidref01_Cmp_ok _ _) (aQ rfl <| aQ rfl <| aN) rN rfl (fun _ _ => flat_num) fun r12 n13 => hTake 14 rfl (by kernel_rfl) (by kernel_rfl) (by kernel_rfl) (gd rfl rfl rfl rfl) rfl rfl (I.lss rfl rfl) <| hTk 15 rfl rfl (pkT rfl rfl) <| hDone (by kernel_rfl) <| eThen <| gIf rfl rfl (fun h14 => ?_) (fun h14 => ?_)
     ·
      refine gKn 26 rfl h14 <| gSkip <| eThen <| gBlk <| gReg <| R rfl (mv rfl) <| R rfl (I.add rfl rfl) <| R rfl (asg rfl) <| gNil <| eBlk <| eNext (fun aa ww h => h.sub [106] (sS rfl <| sS rfl <| sS rfl <| sS rfl <| sN) (rR rfl rfl <| rN))
     ·
      refine gKn 26 rfl h14 <| gExit <| eTexit <| eLeave <| eMid (fun aa ww h => h.sub [106] (sS rfl <| sS rfl <| sS rfl <| sS rfl <| sN) (rR rfl rfl <| rN))
    ·
     refine hKn 15 rfl rfl h7 <| hSkip 5 rfl (by kernel_rfl) (by kernel_rfl) (by kernel_rfl) (gd rfl rfl rfl rfl) rfl rfl <| hSkip 6 rfl (by kernel_rfl) (by kernel_rfl) (by kernel_rfl) (gd rfl rfl rfl rfl) rfl rfl <| hSkip 7 rfl (by kernel_rfl) (by kernel_rfl) (by kernel_rfl) (gd rfl rfl rfl rfl) rfl rfl <| hSkip 8 rfl (by kernel_rfl) (by kernel_rfl) (by kernel_rfl) (gd rfl rfl rfl rfl) rfl rfl <| hSkip 9 rfl (by kernel_rfl) (by kernel_rfl) (by kernel_rfl) (gd rfl rfl rfl rfl) rfl rfl <| hSkip 10 rfl (by kernel_rfl) (by kernel_rfl) (by kernel_rfl) (gd rfl rfl rfl rfl) rfl rfl <| hSkip 11 rfl (by kernel_rfl) (by kernel_rfl) (by kernel_rfl) (gd rfl rfl rfl rfl) rfl rfl <| hSkip 12 rfl (by kernel_rfl) (by kernel_rfl) (by kernel_rfl) (gd rfl rfl rfl rfl) rfl rfl <| hSkip 13 rfl (by kernel_rfl) (by kernel_rfl) (by kernel_rfl) (gd rfl rfl rfl rfl) rfl rfl <| hSkip 14 rfl (by kernel_rfl) (by kernel_rfl) (by kernel_rfl) (gd rfl rfl rfl rfl) rfl rfl <| hTk 15 rfl rfl (pkF rfl rfl) <| hDone (by kernel_rfl) <| eThen <| gFalse rfl <| gExit <| eTexit <| eLeave <| eMid (fun aa ww h => h.sub [106] (sS rfl <| sS rfl <| sS rfl <| sS rfl <| sN) (rR rfl rfl <| rN))
   ·
    refine gMid (fun (s15 : Bool) aa ww => Sta (ctx 61 H [] w) [(0, .rd (sliceR (arrR 32 u8R)) a0), (3, .val (n3 0)), (4, .rd i64R s2.2), (5, .rd i64R s5), (44, .rd boolR s15)] [(106, some ((n3 0), .list (arrR 32 u8R) 27 s2.1))] aa ww) ?_ (fun s15 => ?_)
    ·
     refine gRegQ mixed (by kernel_rfl) <| Rq rfl (mv rfl) <| Rq rfl (mv rfl) <| Rq rfl (len' rfl (.own 106 rfl) rfl Tryz.underlying22) <| Rq rfl (I.eql rfl rfl) <| Rq rfl (mv rfl) <| qSplit 34 rfl (fun h16 => ?_) (fun h16 => ?_)
     ·
      refine qKn 33 rfl h16 <| qSkip (gd rfl rfl rfl rfl) rfl rfl <| qSkip (gd rfl rfl rfl rfl) rfl rfl <| qSkip (gd rfl rfl rfl rfl) rfl rfl <| qSkip (gd rfl rfl rfl rfl) rfl rfl <| qSkip (gd rfl rfl rfl rfl) rfl rfl <| qSkip (gd rfl rfl rfl rfl) rfl rfl <| qSkip (gd rfl rfl rfl rfl) rfl rfl <| qSkip (gd rfl rfl rfl rfl) rfl rfl <| qSkip (gd rfl rfl rfl rfl) rfl rfl <| Rq rfl (pkT rfl rfl) <| qNil <| eMid (fun aa ww h => h.sub [106] (sS rfl <| sS rfl <| sS rfl <| sS rfl <| sS rfl <| sN) (rR rfl rfl <| rN))
     ·
      refine qKn 33 rfl h16 <| qRun (gd rfl rfl rfl rfl) rfl rfl (mv rfl) <| qRun (gd rfl rfl rfl rfl) rfl rfl (mv rfl) <| qBind fun x17 h18 => qRun (gd rfl rfl rfl rfl) rfl rfl (ixO 106 rfl rfl rfl h18 Tryz.underlying22 ti27) <| qRun (gd rfl rfl rfl rfl) rfl rfl (ld 106 rfl rfl (Foc.el h18) ty27 rfl) <| qRun (gd rfl rfl rfl rfl) rfl rfl (mv rfl) <| qRun (gd rfl rfl rfl rfl) rfl rfl (mv rfl) <| qBind fun x19 h20 => qRun (gd rfl rfl rfl rfl) rfl rfl (ixR rfl rfl h20 Tryz.underlying22 ti27 rfl) <| qRun (gd rfl rfl rfl rfl) rfl rfl (ldR rfl ty27) <| qRun (gd rfl rfl rfl rfl) rfl rfl (neA rfl rfl eq27 rfl rfl gq27) <| Rq rfl (pkF rfl rfl) <| qNil <| eMid (fun aa ww h => h.sub [106] (sS rfl <| sS rfl <| sS rfl <| sS rfl <| sS rfl <| sN) (rR rfl rfl <| rN))
    ·
     refine gIf rfl rfl (fun h21 => ?_) (fun h21 => ?_)
     ·
      refine gRegH [159, 186] mixed rfl rfl <| hTk 1 rfl rfl (mv rfl) <| hTk 2 rfl rfl (mv rfl) <| hFrz 106 [3, 46] rfl (fS rfl <| fS rfl <| fN) <| hBind fun x22 h23 => hTakeP 3 rfl (by kernel_rfl) (by kernel_rfl) (by kernel_rfl) (gd0 rfl) rfl rfl (cut' rfl .no (.to rfl) h23 Tryz.underlying22 ti27) <| hTk 5 rfl rfl (mv rfl) <| hTk 6 rfl rfl (mv rfl) <| hBind fun x24 h25 => hTk 7 rfl rfl (ixR rfl rfl h25 Tryz.underlying22 ti27 rfl) <| hTk 8 rfl rfl (ldR rfl ty27) <| hTakeP 11 rfl (by kernel_rfl) (by kernel_rfl) (by kernel_rfl) (gd0 rfl) rfl rfl (mv rfl) <| hTk 12 rfl rfl (mv rfl) <| hBind fun x26 h27 => hTakeP 13 rfl (by kernel_rfl) (by kernel_rfl) (by kernel_rfl) (gd0 rfl) rfl rfl (cut' rfl (.to rfl) .no h27 Tryz.underlying22 ti27) <| hAlt [0, 9] (by kernel_rfl) rfl ⟨?_, ?_, trivial⟩
      ·
       refine oDo 0 rfl (gd0 rfl) rfl rfl rfl (lit (R := (arrR 32 u8R)) (([] : List (Vector UInt8 32)) : List (Vector UInt8 32)) 159 (pN) rfl Tryz.underlying22 ti27 rfl rfl) (fun _ => rfl) fun v28 => hAlt [4, 9] (by kernel_rfl) rfl ⟨?_, ?_, trivial⟩
       ·
        refine oBind fun x29 h30 => oDo 4 rfl (gd0 rfl) rfl rfl rfl (apn 159 rfl rfl rfl .rd h30 Tryz.underlying22 ti27 rfl rfl rfl) (fun _ => rfl) fun v31 => hDo 9 rfl (by kernel_rfl) (gd0 rfl) rfl rfl rfl (lit (R := (arrR 32 u8R)) ([x24] : List (Vector UInt8 32)) 186 (pP rfl rfl <| pN) rfl Tryz.underlying22 ti27 rfl rfl) (fun _ => rfl) fun v32 => hFrz 186 [54] rfl (fS rfl <| fN) <| hBind fun x33 h34 => hDo 10 rfl (by kernel_rfl) (gd0 rfl) rfl rfl rfl (apn 159 rfl rfl rfl .rd h34 Tryz.underlying22 ti27 rfl rfl rfl) (fun _ => rfl) fun v35 => hBind fun x36 h37 => hDo 14 rfl (by kernel_rfl) (gd0 rfl) rfl rfl rfl (apn 159 rfl rfl rfl .rd h37 Tryz.underlying22 ti27 rfl rfl rfl) (fun _ => rfl) fun v38 => hTakeF 15 rfl (by kernel_rfl) (by kernel_rfl) (by kernel_rfl) (gd0 rfl) rfl rfl flat_val (asg rfl) <| hDone (by kernel_rfl) <| eBlk <| eThen <| gReg <| R rfl (mv rfl) <| R rfl (I.add rfl rfl) <| R rfl (asg rfl) <| lName 4 rfl fun y39 => gNil <| eNext (fun aa ww h => ⟨nvl [v38], h.sub [159] (sS rfl <| sS rfl <| sS rfl <| sN) (rR rfl rfl <| rN)⟩)
       ·
        refine oDo 9 rfl (gd0 rfl) rfl rfl rfl (lit (R := (arrR 32 u8R)) ([x24] : List (Vector UInt8 32)) 186 (pP rfl rfl <| pN) rfl Tryz.underlying22 ti27 rfl rfl) (fun _ => rfl) fun v40 => hBind fun x41 h42 => hDo 4 rfl (by kernel_rfl) (gd0 rfl) rfl rfl rfl (apn 159 rfl rfl rfl .rd h42 Tryz.underlying22 ti27 rfl rfl rfl) (fun _ => rfl) fun v43 => hFrz 186 [54] rfl (fS rfl <| fN) <| hBind fun x44 h45 => hDo 10 rfl (by kernel_rfl) (gd0 rfl) rfl rfl rfl (apn 159 rfl rfl rfl .rd h45 Tryz.underlying22 ti27 rfl rfl rfl) (fun _ => rfl) fun v46 => hBind fun x47 h48 => hDo 14 rfl (by kernel_rfl) (gd0 rfl) rfl rfl rfl (apn 159 rfl rfl rfl .rd h48 Tryz.underlying22 ti27 rfl rfl rfl) (fun _ => rfl) fun v49 => hTakeF 15 rfl (by kernel_rfl) (by kernel_rfl) (by kernel_rfl) (gd0 rfl) rfl rfl flat_val (asg rfl) <| hDone (by kernel_rfl) <| eBlk <| eThen <| gReg <| R rfl (mv rfl) <| R rfl (I.add rfl rfl) <| R rfl (asg rfl) <| lName 4 rfl fun y50 => gNil <| eNext (fun aa ww h => ⟨nvl [v49], h.sub [159] (sS rfl <| sS rfl <| sS rfl <| sN) (rR rfl rfl <| rN)⟩)
      ·
       refine oDo 9 rfl (gd0 rfl) rfl rfl rfl (lit (R := (arrR 32 u8R)) ([x24] : List (Vector UInt8 32)) 186 (pP rfl rfl <| pN) rfl Tryz.underlying22 ti27 rfl rfl) (fun _ => rfl) fun v51 => hDo 0 rfl (by kernel_rfl) (gd0 rfl) rfl rfl rfl (lit (R := (arrR 32 u8R)) (([] : List (Vector UInt8 32)) : List (Vector UInt8 32)) 159 (pN) rfl Tryz.underlying22 ti27 rfl rfl) (fun _ => rfl) fun v52 => hBind fun x53 h54 => hDo 4 rfl (by kernel_rfl) (gd0 rfl) rfl rfl rfl (apn 159 rfl rfl rfl .rd h54 Tryz.underlying22 ti27 rfl rfl rfl) (fun _ => rfl) fun v55 => hFrz 186 [54] rfl (fS rfl <| fN) <| hBind fun x56 h57 => hDo 10 rfl (by kernel_rfl) (gd0 rfl) rfl rfl rfl (apn 159 rfl rfl rfl .rd h57 Tryz.underlying22 ti27 rfl rfl rfl) (fun _ => rfl) fun v58 => hBind fun x59 h60 => hDo 14 rfl (by kernel_rfl) (gd0 rfl) rfl rfl rfl (apn 159 rfl rfl rfl .rd h60 Tryz.underlying22 ti27 rfl rfl rfl) (fun _ => rfl) fun v61 => hTakeF 15 rfl (by kernel_rfl) (by kernel_rfl) (by kernel_rfl) (gd0 rfl) rfl rfl flat_val (asg rfl) <| hDone (by kernel_rfl) <| eBlk <| eThen <| gReg <| R rfl (mv rfl) <| R rfl (I.add rfl rfl) <| R rfl (asg rfl) <| lName 4 rfl fun y62 => gNil <| eNext (fun aa ww h => ⟨nvl [v61], h.sub [159] (sS rfl <| sS rfl <| sS rfl <| sN) (rR rfl rfl <| rN)⟩)
     ·
      refine gSkip <| eBlk <| eThen <| gReg <| R rfl (mv rfl) <| R rfl (I.add rfl rfl) <| R rfl (asg rfl) <| lName 4 rfl fun y63 => gNil <| eNext (fun aa ww h => ⟨nvl [(n3 0)], h.sub [106] (sS rfl <| sS rfl <| sS rfl <| sN) (rR rfl rfl <| rN)⟩)
  ·
   refine gExit <| eTexit <| eLeave <| eMid (fun aa ww h => ⟨nvl [(n3 0)], h.sub [106] (sS rfl <| sN) (rR rfl rfl <| rN)⟩)
 ·
  refine gEx fun n64 => gSR <| R rfl (mv rfl) <| R rfl (asg rfl) <| gNil <| eThen <| gRet <| eRet [(n64 0)] [53] rfl (eE rfl <| eN) (rR rfl rfl <| rN)
theorem braidref10_Sorted_q0_ok (a0 : List (Vector UInt8 32)) (q0 : Value) (l0 : List (Vector UInt8 32)) : Spec Tryz.prog 53 [.vw (arrR 32 u8R) q0 l0 a0] [(1, some (q0, .list (arrR 32 u8R) 27 l0))] (braidref10_Sorted a0) (fun r nv => ⟨[.val (nv 0)], [(1, some (q0, .list (arrR 32 u8R) 27 l0)), (100, some (nv 0, .list (arrR 32 u8R) 27 r))]⟩) := by
 refine spec 61 Tryz.func53 rfl rfl rfl fun H w => ?_
 refine gSR <| R rfl (asg rfl) <| gNil <| eThen <| gSR <| R rfl (asg rfl) <| gNil <| eThen <| gMid (fun (s1 : (List (Vector UInt8 32))) aa ww => ∃ nv : Nat → Value, Sta (ctx 61 H [(1, some (q0, .list (arrR 32 u8R) 27 l0))] w) [(3, .val (nv 0))] [(54, some ((nv 0), .list (arrR 32 u8R) 27 s1)), (1, some (q0, .list (arrR 32 u8R) 27 l0))] aa ww) ?_ (fun s1 => ?_)
 ·
  refine gSR <| R rfl (asg rfl) <| gNil <| eThen <| gNew (arrR 32 u8R) 27 108 <| gLoop (fun (s2 : (List (Vector UInt8 32)) × Int) aa ww => ∃ nv : Nat → Value, Sta (ctx 61 H [(1, some (q0, .list (arrR 32 u8R) 27 l0))] w) [(0, .vw (arrR 32 u8R) q0 l0 a0), (3, .val (nv 0)), (4, .rd i64R s2.2)] [(1, some (q0, .list (arrR 32 u8R) 27 l0)), (107, some ((nv 0), .list (arrR 32 u8R) 27 s2.1))] aa ww) (fun aa ww h => ⟨nvl [(.slice none 0 0)], h.sub [1, 108] (sS rfl <| sS rfl <| sS rfl <| sN) (rR rfl rfl <| rR rfl rfl <| rN)⟩) (fun s2 => ?_)
  refine gEx fun n3 => gSeq <| gSR <| R rfl (mv rfl) <| R rfl (mv rfl) <| R rfl (len' rfl (.vw 1 rfl) rfl Tryz.underlying22) <| R rfl (I.lss rfl rfl) <| gNil <| eThen <| gIf rfl rfl (fun h4 => ?_) (fun h4 => ?_)
  ·
   refine gSkip <| eThen <| gSeq <| gBlk <| gSR <| R rfl (asg rfl) <| gNil <| eThen <| gMid (fun (s5 : Int) aa ww => Sta (ctx 61 H [(1, some (q0, .list (arrR 32 u8R) 27 l0))] w) [(0, .vw (arrR 32 u8R) q0 l0 a0), (3, .val (n3 0)), (4, .rd i64R s2.2), (5, .rd i64R s5)] [(1, some (q0, .list (arrR 32 u8R) 27 l0)), (107, some ((n3 0), .list (arrR 32 u8R) 27 s2.1))] aa ww) ?_ (fun s5 => ?_)
   ·
    refine gLoop (fun (s6 : Int) aa ww => Sta (ctx 61 H [(1, some (q0, .list (arrR 32 u8R) 27 l0))] w) [(0, .vw (arrR 32 u8R) q0 l0 a0), (3, .val (n3 0)), (4, .rd i64R s2.2), (5, .rd i64R s6)] [(1, some (q0, .list (arrR 32 u8R) 27 l0)), (107, some ((n3 0), .list (arrR 32 u8R) 27 s2.1))] aa ww) (fun aa ww h => h.sub [1, 107] (sS rfl <| sS rfl <| sS rfl <| sS rfl <| sN) (rR rfl rfl <| rR rfl rfl <| rN)) (fun s6 => ?_)
    refine gSeq <| gSeq <| gRegH [] mixed rfl rfl <| hTk 0 rfl rfl (mv rfl) <| hTk 1 rfl rfl (mv rfl) <| hTk 2 rfl rfl (len' rfl (.own 107 rfl) rfl Tryz.underlying22) <| hTk 3 rfl rfl (I.lss rfl rfl) <| hTk 4 rfl rfl (mv rfl) <| hIf 16 rfl rfl (fun h7 => ?_) (fun h7 => ?_)
    ·
     refine hKn 15 rfl rfl h7 <| hTake 5 rfl (by kernel_rfl) (by kernel_rfl) (by kernel_rfl) (gd rfl rfl rfl rfl) rfl rfl (mv rfl) <| hTake 6 rfl (by kernel_rfl) (by kernel_rfl) (by kernel_rfl) (gd rfl rfl rfl rfl) rfl rfl (mv rfl) <| hBind fun x8 h9 => hTake 7 rfl (by kernel_rfl) (by kernel_rfl) (by kernel_rfl) (gd rfl rfl rfl rfl) rfl rfl (ixO 107 rfl rfl rfl h9 Tryz.underlying22 ti27) <| hTake 8 rfl (by kernel_rfl) (by kernel_rfl) (by kernel_rfl) (gd rfl rfl rfl rfl) rfl rfl (ld 107 rfl rfl (Foc.el h9) ty27 rfl) <| hTake 9 rfl (by kernel_rfl) (by kernel_rfl) (by kernel_rfl) (gd rfl rfl rfl rfl) rfl rfl (mv rfl) <| hTake 10 rfl (by kernel_rfl) (by kernel_rfl) (by kernel_rfl) (gd rfl rfl rfl rfl) rfl rfl (mv rfl) <| hBind fun x10 h11 => hTake 11 rfl (by kernel_rfl) (by kernel_rfl) (by kernel_rfl) (gd rfl rfl rfl rfl) rfl rfl (ixQ 1 rfl rfl rfl h11 Tryz.underlying22 ti27) <| hTake 12 rfl (by kernel_rfl) (by kernel_rfl) (by kernel_rfl) (gd rfl rfl rfl rfl) rfl rfl (ldQ 1 rfl rfl ty27 rfl) <| hCallF 13 [] [] rfl (by kernel_rfl) rfl (gd rfl rfl rfl rfl) rfl Tryz.func65 rfl rfl (braidref01_Cmp_ok _ _) (aQ rfl <| aQ rfl <| aN) rN rfl (fun _ _ => flat_num) fun r12 n13 => hTake 14 rfl (by kernel_rfl) (by kernel_rfl) (by kernel_rfl) (gd rfl rfl rfl rfl) rfl rfl (I.lss rfl rfl) <| hTk 15 rfl rfl (pkT rfl rfl) <| hDone (by kernel_rfl) <| eThen <| gIf rfl rfl (fun h14 => ?_) (fun h14 => ?_)
     ·
      refine gKn 26 rfl h14 <| gSkip <| eThen <| gBlk <| gReg <| R rfl (mv rfl) <| R rfl (I.add rfl rfl) <| R rfl (asg rfl) <| gNil <| eBlk <| eNext (fun aa ww h => h.sub [1, 107] (sS rfl <| sS rfl <| sS rfl <| sS rfl <| sN) (rR rfl rfl <| rR rfl rfl <| rN))
     ·
      refine gKn 26 rfl h14 <| gExit <| eTexit <| eLeave <| eMid (fun aa ww h => h.sub [1, 107] (sS rfl <| sS rfl <| sS rfl <| sS rfl <| sN) (rR rfl rfl <| rR rfl rfl <| rN))
    ·
     refine hKn 15 rfl rfl h7 <| hSkip 5 rfl (by kernel_rfl) (by kernel_rfl) (by kernel_rfl) (gd rfl rfl rfl rfl) rfl rfl <| hSkip 6 rfl (by kernel_rfl) (by kernel_rfl) (by kernel_rfl) (gd rfl rfl rfl rfl) rfl rfl <| hSkip 7 rfl (by kernel_rfl) (by kernel_rfl) (by kernel_rfl) (gd rfl rfl rfl rfl) rfl rfl <| hSkip 8 rfl (by kernel_rfl) (by kernel_rfl) (by kernel_rfl) (gd rfl rfl rfl rfl) rfl rfl <| hSkip 9 rfl (by kernel_rfl) (by kernel_rfl) (by kernel_rfl) (gd rfl rfl rfl rfl) rfl rfl <| hSkip 10 rfl (by kernel_rfl) (by kernel_rfl) (by kernel_rfl) (gd rfl rfl rfl rfl) rfl rfl <| hSkip 11 rfl (by kernel_rfl) (by kernel_rfl) (by kernel_rfl) (gd rfl rfl rfl rfl) rfl rfl <| hSkip 12 rfl (by kernel_rfl) (by kernel_rfl) (by kernel_rfl) (gd rfl rfl rfl rfl) rfl rfl <| hSkip 13 rfl (by kernel_rfl) (by kernel_rfl) (by kernel_rfl) (gd rfl rfl rfl rfl) rfl rfl <| hSkip 14 rfl (by kernel_rfl) (by kernel_rfl) (by kernel_rfl) (gd rfl rfl rfl rfl) rfl rfl <| hTk 15 rfl rfl (pkF rfl rfl) <| hDone (by kernel_rfl) <| eThen <| gFalse rfl <| gExit <| eTexit <| eLeave <| eMid (fun aa ww h => h.sub [1, 107] (sS rfl <| sS rfl <| sS rfl <| sS rfl <| sN) (rR rfl rfl <| rR rfl rfl <| rN))
   ·
    refine gMid (fun (s15 : Bool) aa ww => Sta (ctx 61 H [(1, some (q0, .list (arrR 32 u8R) 27 l0))] w) [(0, .vw (arrR 32 u8R) q0 l0 a0), (3, .val (n3 0)), (4, .rd i64R s2.2), (5, .rd i64R s5), (44, .rd boolR s15)] [(1, some (q0, .list (arrR 32 u8R) 27 l0)), (107, some ((n3 0), .list (arrR 32 u8R) 27 s2.1))] aa ww) ?_ (fun s15 => ?_)
    ·
     refine gRegQ mixed (by kernel_rfl) <| Rq rfl (mv rfl) <| Rq rfl (mv rfl) <| Rq rfl (len' rfl (.own 107 rfl) rfl Tryz.underlying22) <| Rq rfl (I.eql rfl rfl) <| Rq rfl (mv rfl) <| qSplit 34 rfl (fun h16 => ?_) (fun h16 => ?_)
     ·
      refine qKn 33 rfl h16 <| qSkip (gd rfl rfl rfl rfl) rfl rfl <| qSkip (gd rfl rfl rfl rfl) rfl rfl <| qSkip (gd rfl rfl rfl rfl) rfl rfl <| qSkip (gd rfl rfl rfl rfl) rfl rfl <| qSkip (gd rfl rfl rfl rfl) rfl rfl <| qSkip (gd rfl rfl rfl rfl) rfl rfl <| qSkip (gd rfl rfl rfl rfl) rfl rfl <| qSkip (gd rfl rfl rfl rfl) rfl rfl <| qSkip (gd rfl rfl rfl rfl) rfl rfl <| Rq rfl (pkT rfl rfl) <| qNil <| eMid (fun aa ww h => h.sub [1, 107] (sS rfl <| sS rfl <| sS rfl <| sS rfl <| sS rfl <| sN) (rR rfl rfl <| rR rfl rfl <| rN))
     ·
      refine qKn 33 rfl h16 <| qRun (gd rfl rfl rfl rfl) rfl rfl (mv rfl) <| qRun (gd rfl rfl rfl rfl) rfl rfl (mv rfl) <| qBind fun x17 h18 => qRun (gd rfl rfl rfl rfl) rfl rfl (ixO 107 rfl rfl rfl h18 Tryz.underlying22 ti27) <| qRun (gd rfl rfl rfl rfl) rfl rfl (ld 107 rfl rfl (Foc.el h18) ty27 rfl) <| qRun (gd rfl rfl rfl rfl) rfl rfl (mv rfl) <| qRun (gd rfl rfl rfl rfl) rfl rfl (mv rfl) <| qBind fun x19 h20 => qRun (gd rfl rfl rfl rfl) rfl rfl (ixQ 1 rfl rfl rfl h20 Tryz.underlying22 ti27) <| qRun (gd rfl rfl rfl rfl) rfl rfl (ldQ 1 rfl rfl ty27 rfl) <| qRun (gd rfl rfl rfl rfl) rfl rfl (neA rfl rfl eq27 rfl rfl gq27) <| Rq rfl (pkF rfl rfl) <| qNil <| eMid (fun aa ww h => h.sub [1, 107] (sS rfl <| sS rfl <| sS rfl <| sS rfl <| sS rfl <| sN) (rR rfl rfl <| rR rfl rfl <| rN))
    ·
     refine gIf rfl rfl (fun h21 => ?_) (fun h21 => ?_)
     ·
      refine gRegH [160, 187] mixed rfl rfl <| hTk 1 rfl rfl (mv rfl) <| hTk 2 rfl rfl (mv rfl) <| hFrz 107 [3, 46] rfl (fS rfl <| fS rfl <| fN) <| hBind fun x22 h23 => hTakeP 3 rfl (by kernel_rfl) (by kernel_rfl) (by kernel_rfl) (gd0 rfl) rfl rfl (cut' rfl .no (.to rfl) h23 Tryz.underlying22 ti27) <| hTk 5 rfl rfl (mv rfl) <| hTk 6 rfl rfl (mv rfl) <| hBind fun x24 h25 => hTk 7 rfl rfl (ixQ 1 rfl rfl rfl h25 Tryz.underlying22 ti27) <| hTk 8 rfl rfl (ldQ 1 rfl rfl ty27 rfl) <| hTakeP 11 rfl (by kernel_rfl) (by kernel_rfl) (by kernel_rfl) (gd0 rfl) rfl rfl (mv rfl) <| hTk 12 rfl rfl (mv rfl) <| hBind fun x26 h27 => hTakeP 13 rfl (by kernel_rfl) (by kernel_rfl) (by kernel_rfl) (gd0 rfl) rfl rfl (cut' rfl (.to rfl) .no h27 Tryz.underlying22 ti27) <| hAlt [0, 9] (by kernel_rfl) rfl ⟨?_, ?_, trivial⟩
      ·
       refine oDo 0 rfl (gd0 rfl) rfl rfl rfl (lit (R := (arrR 32 u8R)) (([] : List (Vector UInt8 32)) : List (Vector UInt8 32)) 160 (pN) rfl Tryz.underlying22 ti27 rfl rfl) (fun _ => rfl) fun v28 => hAlt [4, 9] (by kernel_rfl) rfl ⟨?_, ?_, trivial⟩
       ·
        refine oBind fun x29 h30 => oDo 4 rfl (gd0 rfl) rfl rfl rfl (apn 160 rfl rfl rfl .rd h30 Tryz.underlying22 ti27 rfl rfl rfl) (fun _ => rfl) fun v31 => hDo 9 rfl (by kernel_rfl) (gd0 rfl) rfl rfl rfl (lit (R := (arrR 32 u8R)) ([x24] : List (Vector UInt8 32)) 187 (pP rfl rfl <| pN) rfl Tryz.underlying22 ti27 rfl rfl) (fun _ => rfl) fun v32 => hFrz 187 [54] rfl (fS rfl <| fN) <| hBind fun x33 h34 => hDo 10 rfl (by kernel_rfl) (gd0 rfl) rfl rfl rfl (apn 160 rfl rfl rfl .rd h34 Tryz.underlying22 ti27 rfl rfl rfl) (fun _ => rfl) fun v35 => hBind fun x36 h37 => hDo 14 rfl (by kernel_rfl) (gd0 rfl) rfl rfl rfl (apn 160 rfl rfl rfl .rd h37 Tryz.underlying22 ti27 rfl rfl rfl) (fun _ => rfl) fun v38 => hTakeF 15 rfl (by kernel_rfl) (by kernel_rfl) (by kernel_rfl) (gd0 rfl) rfl rfl flat_val (asg rfl) <| hDone (by kernel_rfl) <| eBlk <| eThen <| gReg <| R rfl (mv rfl) <| R rfl (I.add rfl rfl) <| R rfl (asg rfl) <| lName 4 rfl fun y39 => gNil <| eNext (fun aa ww h => ⟨nvl [v38], h.sub [1, 160] (sS rfl <| sS rfl <| sS rfl <| sN) (rR rfl rfl <| rR rfl rfl <| rN)⟩)
       ·
        refine oDo 9 rfl (gd0 rfl) rfl rfl rfl (lit (R := (arrR 32 u8R)) ([x24] : List (Vector UInt8 32)) 187 (pP rfl rfl <| pN) rfl Tryz.underlying22 ti27 rfl rfl) (fun _ => rfl) fun v40 => hBind fun x41 h42 => hDo 4 rfl (by kernel_rfl) (gd0 rfl) rfl rfl rfl (apn 160 rfl rfl rfl .rd h42 Tryz.underlying22 ti27 rfl rfl rfl) (fun _ => rfl) fun v43 => hFrz 187 [54] rfl (fS rfl <| fN) <| hBind fun x44 h45 => hDo 10 rfl (by kernel_rfl) (gd0 rfl) rfl rfl rfl (apn 160 rfl rfl rfl .rd h45 Tryz.underlying22 ti27 rfl rfl rfl) (fun _ => rfl) fun v46 => hBind fun x47 h48 => hDo 14 rfl (by kernel_rfl) (gd0 rfl) rfl rfl rfl (apn 160 rfl rfl rfl .rd h48 Tryz.underlying22 ti27 rfl rfl rfl) (fun _ => rfl) fun v49 => hTakeF 15 rfl (by kernel_rfl) (by kernel_rfl) (by kernel_rfl) (gd0 rfl) rfl rfl flat_val (asg rfl) <| hDone (by kernel_rfl) <| eBlk <| eThen <| gReg <| R rfl (mv rfl) <| R rfl (I.add rfl rfl) <| R rfl (asg rfl) <| lName 4 rfl fun y50 => gNil <| eNext (fun aa ww h => ⟨nvl [v49], h.sub [1, 160] (sS rfl <| sS rfl <| sS rfl <| sN) (rR rfl rfl <| rR rfl rfl <| rN)⟩)
      ·
       refine oDo 9 rfl (gd0 rfl) rfl rfl rfl (lit (R := (arrR 32 u8R)) ([x24] : List (Vector UInt8 32)) 187 (pP rfl rfl <| pN) rfl Tryz.underlying22 ti27 rfl rfl) (fun _ => rfl) fun v51 => hDo 0 rfl (by kernel_rfl) (gd0 rfl) rfl rfl rfl (lit (R := (arrR 32 u8R)) (([] : List (Vector UInt8 32)) : List (Vector UInt8 32)) 160 (pN) rfl Tryz.underlying22 ti27 rfl rfl) (fun _ => rfl) fun v52 => hBind fun x53 h54 => hDo 4 rfl (by kernel_rfl) (gd0 rfl) rfl rfl rfl (apn 160 rfl rfl rfl .rd h54 Tryz.underlying22 ti27 rfl rfl rfl) (fun _ => rfl) fun v55 => hFrz 187 [54] rfl (fS rfl <| fN) <| hBind fun x56 h57 => hDo 10 rfl (by kernel_rfl) (gd0 rfl) rfl rfl rfl (apn 160 rfl rfl rfl .rd h57 Tryz.underlying22 ti27 rfl rfl rfl) (fun _ => rfl) fun v58 => hBind fun x59 h60 => hDo 14 rfl (by kernel_rfl) (gd0 rfl) rfl rfl rfl (apn 160 rfl rfl rfl .rd h60 Tryz.underlying22 ti27 rfl rfl rfl) (fun _ => rfl) fun v61 => hTakeF 15 rfl (by kernel_rfl) (by kernel_rfl) (by kernel_rfl) (gd0 rfl) rfl rfl flat_val (asg rfl) <| hDone (by kernel_rfl) <| eBlk <| eThen <| gReg <| R rfl (mv rfl) <| R rfl (I.add rfl rfl) <| R rfl (asg rfl) <| lName 4 rfl fun y62 => gNil <| eNext (fun aa ww h => ⟨nvl [v61], h.sub [1, 160] (sS rfl <| sS rfl <| sS rfl <| sN) (rR rfl rfl <| rR rfl rfl <| rN)⟩)
     ·
      refine gSkip <| eBlk <| eThen <| gReg <| R rfl (mv rfl) <| R rfl (I.add rfl rfl) <| R rfl (asg rfl) <| lName 4 rfl fun y63 => gNil <| eNext (fun aa ww h => ⟨nvl [(n3 0)], h.sub [1, 107] (sS rfl <| sS rfl <| sS rfl <| sN) (rR rfl rfl <| rR rfl rfl <| rN)⟩)
  ·
   refine gExit <| eTexit <| eLeave <| eMid (fun aa ww h => ⟨nvl [(n3 0)], h.sub [107, 1] (sS rfl <| sN) (rR rfl rfl <| rR rfl rfl <| rN)⟩)
 ·
  refine gEx fun n64 => gSR <| R rfl (mv rfl) <| R rfl (asg rfl) <| gNil <| eThen <| gRet <| eRet [(n64 0)] [1, 54] rfl (eE rfl <| eN) (rR rfl rfl <| rR rfl rfl <| rN)
def braidref10_Before_L0 (a0 : api_Graph) (s10 : (List (Vector UInt8 32)) × (List (Vector UInt8 32))) : Option (Sum ((List (Vector UInt8 32))) ((List (Vector UInt8 32)) × (List (Vector UInt8 32)))) :=
 if decide (0 < (s10.2.length : Int)) then
  idx s10.2 0 >>= fun x13 =>
  cut s10.2 1 (s10.2.length : Int) >>= fun x16 =>
  braidref09_At s10.1 x13 >>= fun r19 =>
  if decide (r19 < 0) then
   app 32 s10.1 [x13] >>= fun x23 =>
   braidref10_preds a0 x13 >>= fun r26 =>
   app 32 x16 r26 >>= fun x28 =>
   some (.inr (x23, x28))
  else
   some (.inr (s10.1, x16))
 else
  some (.inl s10.1)
def braidref10_Before (a0 : api_Graph) (a1 : Vector UInt8 32) : Option ((List (Vector UInt8 32))) :=
 braidref10_preds a0 a1 >>= fun r4 =>
 app 32 ([] : List (Vector UInt8 32)) r4 >>= fun x6 =>
 (iter (braidref10_Before_L0 a0) ([], x6)) >>= fun s9 =>
 braidref10_Sorted s9 >>= fun r32 =>
 some r32
theorem braidref10_Before_ok (a0 : api_Graph) (a1 : Vector UInt8 32) : Spec Tryz.prog 29 [.rd R_api_Graph a0, .rd (arrR 32 u8R) a1] [] (braidref10_Before a0 a1) (fun r nv => ⟨[.val (nv 0)], [(100, some (nv 0, .list (arrR 32 u8R) 27 r))]⟩) := by
 refine spec 36 Tryz.func29 rfl rfl rfl fun H w => ?_
 refine gSR <| Eb rfl (bx 1 rfl) fun v1 => Eb rfl (bx 2 rfl) fun v2 => R rfl (asg rfl) <| gNil <| eThen <| gSR <| R rfl (asg rfl) <| gNil <| eThen <| gSR <| Ef rfl (lit (R := (arrR 32 u8R)) (([] : List (Vector UInt8 32)) : List (Vector UInt8 32)) 3 (pN) rfl Tryz.underlying22 ti27 rfl rfl) fun v3 => R rfl (ld 1 rfl rfl Foc.here ty25 rfl) <| R rfl (ld 2 rfl rfl Foc.here ty27 rfl) <| call [] [] rfl Tryz.func52 rfl rfl (braidref10_preds_ok _ _) (aQ rfl <| aQ rfl <| aN) rN fun r4 n5 => lBind fun x6 h7 => Ef rfl (apn 3 rfl rfl rfl .rd h7 Tryz.underlying22 ti27 rfl rfl rfl) fun v8 => R rfl (asg rfl) <| gNil <| eThen <| gMid (fun (s9 : (List (Vector UInt8 32))) aa ww => ∃ nv : Nat → Value, Sta (ctx 36 H [] w) [(5, .val (nv 0))] [(6, some ((nv 0), .list (arrR 32 u8R) 27 s9))] aa ww) ?_ (fun s9 => ?_)
 ·
  refine gNew (arrR 32 u8R) 27 10 <| gSeg 3 rfl <| gLoop (fun (s10 : (List (Vector UInt8 32)) × (List (Vector UInt8 32))) aa ww => ∃ nv : Nat → Value, Sta (ctx 36 H [] w) [(2, .val (ptrTo v1 0)), (5, .val (nv 0)), (6, .val (nv 1))] [(1, some (v1, .box 25 [.rd R_api_Graph a0])), (9, some ((nv 0), .list (arrR 32 u8R) 27 s10.1)), (3, some ((nv 1), .seg (arrR 32 u8R) 27 s10.2))] aa ww) (fun aa ww h => ⟨nvl [(.slice none 0 0), v8], h.sub [1, 10, 3] (sS rfl <| sS rfl <| sS rfl <| sN) (rR rfl rfl <| rR rfl rfl <| rR rfl rfl <| rN)⟩) (fun s10 => ?_)
  refine gEx fun n11 => gSeq <| gSR <| R rfl (mv rfl) <| R rfl (len' rfl (.seg 3 rfl) rfl Tryz.underlying22) <| R rfl (I.gtr rfl rfl) <| gNil <| eThen <| gIf rfl rfl (fun h12 => ?_) (fun h12 => ?_)
  ·
   refine gSkip <| eThen <| gBlk <| gSR <| R rfl (mv rfl) <| lBind fun x13 h14 => R rfl (ixSg 3 rfl rfl rfl h14 Tryz.underlying22 ti27) <| R rfl (ldSg 3 rfl rfl ty27 rfl) <| Eb rfl (allc 11 ti27 (.zr (R := (arrR 32 u8R)) (x := (Vector.replicate 32 0)) zr26)) fun v15 => Es (sto 11 rfl rfl Foc.here rfl ti27) <| gNil <| eThen <| gSR <| R rfl (mv rfl) <| lBind fun x16 h17 => Ef rfl (cutS 3 rfl rfl rfl h17 Tryz.underlying22 ti27) fun v18 => R rfl (asg rfl) <| gNil <| eThen <| gSR <| R rfl (mv rfl) <| R rfl (ld 11 rfl rfl Foc.here ty27 rfl) <| call [9] [(1, 9)] rfl Tryz.func30 rfl rfl (braidref09_At_q0_ok _ _ _ _) (aW rfl <| aQ rfl <| aN) (rR rfl rfl <| rN) fun r19 n20 => R rfl (I.lss rfl rfl) <| gNil <| eThen <| gIf rfl rfl (fun h21 => ?_) (fun h21 => ?_)
   ·
    refine gSR <| R rfl (mv rfl) <| R rfl (ld 11 rfl rfl Foc.here ty27 rfl) <| Ef rfl (lit (R := (arrR 32 u8R)) ([x13] : List (Vector UInt8 32)) 12 (pP rfl rfl <| pN) rfl Tryz.underlying22 ti27 rfl rfl) fun v22 => lFrz 12 [27] rfl (fS rfl <| fN) <| lBind fun x23 h24 => Ef rfl (apn 9 rfl rfl rfl .rd h24 Tryz.underlying22 ti27 rfl rfl rfl) fun v25 => R rfl (asg rfl) <| gNil <| eThen <| gReg <| R rfl (mv rfl) <| R rfl (ld 1 rfl rfl Foc.here ty25 rfl) <| R rfl (ld 11 rfl rfl Foc.here ty27 rfl) <| call [] [] rfl Tryz.func52 rfl rfl (braidref10_preds_ok _ _) (aQ rfl <| aQ rfl <| aN) rN fun r26 n27 => lBind fun x28 h29 => Ef rfl (apS 3 rfl rfl rfl .rd h29 Tryz.underlying22 ti27 rfl rfl rfl) fun v30 => R rfl (asg rfl) <| gNil <| eBlk <| eNext (fun aa ww h => ⟨nvl [v25, v30], h.sub [1, 9, 3] (sS rfl <| sS rfl <| sS rfl <| sN) (rR rfl rfl <| rR rfl rfl <| rR rfl rfl <| rN)⟩)
   ·
    refine gSkip <| eBlk <| eNext (fun aa ww h => ⟨nvl [(n11 0), v18], h.sub [1, 9, 3] (sS rfl <| sS rfl <| sS rfl <| sN) (rR rfl rfl <| rR rfl rfl <| rR rfl rfl <| rN)⟩)
  ·
   refine gExit <| eTexit <| eLeave <| eMid (fun aa ww h => ⟨nvl [(n11 0)], h.sub [9] (sS rfl <| sN) (rR rfl rfl <| rN)⟩)
 ·
  refine gEx fun n31 => gSR <| R rfl (mv rfl) <| call [6] [(100, 13), (1, 6)] rfl Tryz.func53 rfl rfl (braidref10_Sorted_q0_ok _ _ _) (aW rfl <| aN) (rR rfl rfl <| rN) fun r32 n33 => R rfl (asg rfl) <| gNil <| eThen <| gRet <| eRet [(n33 0)] [13] rfl (eE rfl <| eN) (rR rfl rfl <| rN)
def braidref10_Ancestors (a0 : api_Graph) (a1 : Vector UInt8 32) : Option ((List (Vector UInt8 32)) × Int) :=
 braidref10_asked a0 [a1] >>= fun r4 =>
 if r4 != 0 then
  some ([], r4)
 else
  braidref10_Before a0 a1 >>= fun r7 =>
  some (r7, 0)
theorem braidref10_Ancestors_ok (a0 : api_Graph) (a1 : Vector UInt8 32) : Spec Tryz.prog 8 [.rd R_api_Graph a0, .rd (arrR 32 u8R) a1] [] (braidref10_Ancestors a0 a1) (fun r nv => ⟨[.val (nv 0), .rd i64R r.2], [(100, some (nv 0, .list (arrR 32 u8R) 27 r.1))]⟩) := by
 refine spec 17 Tryz.func8 rfl rfl rfl fun H w => ?_
 refine gSR <| Eb rfl (bx 1 rfl) fun v1 => Eb rfl (bx 2 rfl) fun v2 => R rfl (asg rfl) <| R rfl (asg rfl) <| gNil <| eThen <| gSeq <| gSR <| R rfl (ld 1 rfl rfl Foc.here ty25 rfl) <| R rfl (ld 2 rfl rfl Foc.here ty27 rfl) <| Ef rfl (lit (R := (arrR 32 u8R)) ([a1] : List (Vector UInt8 32)) 3 (pP rfl rfl <| pN) rfl Tryz.underlying22 ti27 rfl rfl) fun v3 => lFrz 3 [9] rfl (fS rfl <| fN) <| call [] [] rfl Tryz.func28 rfl rfl (braidref10_asked_ok _ _) (aQ rfl <| aQ rfl <| aN) rN fun r4 n5 => R rfl (asg rfl) <| gNil <| eThen <| gSR <| R rfl (mv rfl) <| R rfl (I.neq rfl rfl) <| gNil <| eThen <| gIf rfl rfl (fun h6 => ?_) (fun h6 => ?_)
 ·
  refine gSR <| R rfl (mv rfl) <| R rfl (asg rfl) <| R rfl (asg rfl) <| gNil <| eThen <| gRet <| eTret <| eNew (arrR 32 u8R) 27 4 <| eRet [(.slice none 0 0)] [4] rfl (eE rfl <| eE rfl <| eN) (rR rfl rfl <| rN)
 ·
  refine gSkip <| eThen <| gSR <| R rfl (ld 1 rfl rfl Foc.here ty25 rfl) <| R rfl (ld 2 rfl rfl Foc.here ty27 rfl) <| call [] [(100, 5)] rfl Tryz.func29 rfl rfl (braidref10_Before_ok _ _) (aQ rfl <| aQ rfl <| aN) rN fun r7 n8 => R rfl (asg rfl) <| R rfl (asg rfl) <| gNil <| eThen <| gRet <| eRet [(n8 0)] [5] rfl (eE rfl <| eE rfl <| eN) (rR rfl rfl <| rN)
def ancestry_Is (a0 : api_Graph) (a1 : Vector UInt8 32) (a2 : Vector UInt8 32) : Option (Bool × Int) :=
 ancestry_look a0 a1 >>= fun r4 =>
 if r4.2 != 0 then
  some (false, r4.2)
 else
  ancestry_look a0 a2 >>= fun r7 =>
  if r7.2 != 0 then
   some (false, r7.2)
  else
   idx a0.Ops r7.1 >>= fun x10 =>
   ancestry_reach a0 x10.Preds >>= fun r12 =>
   idx r12 r4.1 >>= fun x14 =>
   some (x14, 0)
end Go.Proofs.YtjnheeekdadcpaaGreatDoor
namespace Go.Proofs.YtjnheeekdadcpaaGreatDoor
open Go Go.RowKit
set_option maxRecDepth 100000
set_option linter.unusedSimpArgs false
set_option linter.unusedVariables false
theorem ancestry_Is_ok (a0 : api_Graph) (a1 : Vector UInt8 32) (a2 : Vector UInt8 32) : Spec Tryz.prog 9 [.rd R_api_Graph a0, .rd (arrR 32 u8R) a1, .rd (arrR 32 u8R) a2] [(1001, some ((.bool true), .glob 1 (arrR 64 u32R) gtab1))] (ancestry_Is a0 a1 a2) (fun r nv => ⟨[.rd boolR r.1, .rd i64R r.2], [(1001, some (.bool true, .glob 1 (arrR 64 u32R) gtab1))]⟩) := by
 refine spec 40 Tryz.func9 rfl rfl rfl fun H w => ?_
 refine gSR <| Eb rfl (bx 1 rfl) fun v1 => Eb rfl (bx 2 rfl) fun v2 => Eb rfl (bx 3 rfl) fun v3 => R rfl (asg rfl) <| R rfl (asg rfl) <| gNil <| eThen <| gSR <| R rfl (ld 1 rfl rfl Foc.here ty25 rfl) <| R rfl (ld 2 rfl rfl Foc.here ty27 rfl) <| call [1001] [] rfl Tryz.func25 rfl rfl (ancestry_look_ok _ _) (aQ rfl <| aQ rfl <| aN) (rR rfl rfl <| rN) fun r4 n5 => R rfl (mv rfl) <| R rfl (ext rfl rfl) <| R rfl (ext rfl rfl) <| R rfl (asg rfl) <| R rfl (asg rfl) <| gNil <| eThen <| gSeq <| gSR <| R rfl (mv rfl) <| R rfl (I.neq rfl rfl) <| gNil <| eThen <| gIf rfl rfl (fun h6 => ?_) (fun h6 => ?_)
 ·
  refine gSR <| R rfl (mv rfl) <| R rfl (asg rfl) <| R rfl (asg rfl) <| gNil <| eThen <| gRet <| eTret <| eRet [] [1001] rfl (eE rfl <| eE rfl <| eN) (rR rfl rfl <| rN)
 ·
  refine gSkip <| eThen <| gSR <| R rfl (ld 1 rfl rfl Foc.here ty25 rfl) <| R rfl (ld 3 rfl rfl Foc.here ty27 rfl) <| call [1001] [] rfl Tryz.func25 rfl rfl (ancestry_look_ok _ _) (aQ rfl <| aQ rfl <| aN) (rR rfl rfl <| rN) fun r7 n8 => R rfl (mv rfl) <| R rfl (ext rfl rfl) <| R rfl (ext rfl rfl) <| R rfl (asg rfl) <| R rfl (asg rfl) <| gNil <| eThen <| gSeq <| gSR <| R rfl (mv rfl) <| R rfl (I.neq rfl rfl) <| gNil <| eThen <| gIf rfl rfl (fun h9 => ?_) (fun h9 => ?_)
  ·
   refine gSR <| R rfl (mv rfl) <| R rfl (asg rfl) <| R rfl (asg rfl) <| gNil <| eThen <| gRet <| eTret <| eRet [] [1001] rfl (eE rfl <| eE rfl <| eN) (rR rfl rfl <| rN)
  ·
   refine gSkip <| eThen <| gSeq <| gRegH [25] mixed rfl rfl <| hTk 0 rfl rfl (ld 1 rfl rfl Foc.here ty25 rfl) <| hTk 1 rfl rfl (faB 1 rfl rfl Tryz.underlying25 rfl (by exact ti23)) <| hTk 2 rfl rfl (ld 1 rfl rfl ((Foc.here).part (pt_api_Graph_Ops _)) ty23 rfl) <| hTk 3 rfl rfl (mv rfl) <| hBind fun x10 h11 => hTk 4 rfl rfl (ixR rfl rfl h11 Tryz.underlying23 ti65 rfl) <| hTk 5 rfl rfl (faR rfl (pt_api_Op_Preds _) Tryz.underlying65 rfl rfl (by exact ti22)) <| hTk 6 rfl rfl (ldR rfl ty22) <| hTk 8 rfl rfl (mv rfl) <| hCallF 7 [] [(100, 25)] rfl (by kernel_rfl) rfl (gd0 rfl) rfl Tryz.func27 rfl rfl (ancestry_reach_ok _ _) (aQ rfl <| aQ rfl <| aN) rN rfl (fun _ _ => flat_val) fun r12 n13 => hBind fun x14 h15 => hTakeF 9 rfl (by kernel_rfl) (by kernel_rfl) (by kernel_rfl) (gd0 rfl) rfl rfl flat_val (ixO 25 rfl rfl rfl h15 Tryz.underlying68 ti4) <| hRun 10 rfl (by kernel_rfl) (gd0 rfl) rfl rfl flat_bool (ld 25 rfl rfl (Foc.el h15) ty4 rfl) <| hTk 11 rfl rfl (asg rfl) <| hTk 12 rfl rfl (asg rfl) <| hDone (by kernel_rfl) <| eThen <| gRet <| eRet [] [1001] rfl (eE rfl <| eE rfl <| eN) (rR rfl rfl <| rN)
def braidref10_Is (a0 : api_Graph) (a1 : Vector UInt8 32) (a2 : Vector UInt8 32) : Option (Bool × Int) :=
 braidref10_asked a0 [a1, a2] >>= fun r5 =>
 if r5 != 0 then
  some (false, r5)
 else
  braidref10_Before a0 a2 >>= fun r8 =>
  braidref09_At r8 a1 >>= fun r10 =>
  some (decide (0 ≤ r10)) >>= fun y12 =>
  some (y12, 0)
theorem braidref10_Is_ok (a0 : api_Graph) (a1 : Vector UInt8 32) (a2 : Vector UInt8 32) : Spec Tryz.prog 10 [.rd R_api_Graph a0, .rd (arrR 32 u8R) a1, .rd (arrR 32 u8R) a2] [] (braidref10_Is a0 a1 a2) (fun r nv => ⟨[.rd boolR r.1, .rd i64R r.2], []⟩) := by
 refine spec 23 Tryz.func10 rfl rfl rfl fun H w => ?_
 refine gSR <| Eb rfl (bx 1 rfl) fun v1 => Eb rfl (bx 2 rfl) fun v2 => Eb rfl (bx 3 rfl) fun v3 => R rfl (asg rfl) <| R rfl (asg rfl) <| gNil <| eThen <| gSeq <| gSR <| R rfl (ld 1 rfl rfl Foc.here ty25 rfl) <| R rfl (ld 2 rfl rfl Foc.here ty27 rfl) <| R rfl (ld 3 rfl rfl Foc.here ty27 rfl) <| Ef rfl (lit (R := (arrR 32 u8R)) ([a1, a2] : List (Vector UInt8 32)) 4 (pP rfl rfl <| pP rfl rfl <| pN) rfl Tryz.underlying22 ti27 rfl rfl) fun v4 => lFrz 4 [12] rfl (fS rfl <| fN) <| call [] [] rfl Tryz.func28 rfl rfl (braidref10_asked_ok _ _) (aQ rfl <| aQ rfl <| aN) rN fun r5 n6 => R rfl (asg rfl) <| gNil <| eThen <| gSR <| R rfl (mv rfl) <| R rfl (I.neq rfl rfl) <| gNil <| eThen <| gIf rfl rfl (fun h7 => ?_) (fun h7 => ?_)
 ·
  refine gSR <| R rfl (mv rfl) <| R rfl (asg rfl) <| R rfl (asg rfl) <| gNil <| eThen <| gRet <| eTret <| eRet [] [] rfl (eE rfl <| eE rfl <| eN) (rN)
 ·
  refine gSkip <| eThen <| gSeq <| gRegH [11] mixed rfl rfl <| hTk 0 rfl rfl (ld 1 rfl rfl Foc.here ty25 rfl) <| hTk 1 rfl rfl (ld 3 rfl rfl Foc.here ty27 rfl) <| hTk 3 rfl rfl (ld 2 rfl rfl Foc.here ty27 rfl) <| hCallF 2 [] [(100, 11)] rfl (by kernel_rfl) rfl (gd0 rfl) rfl Tryz.func29 rfl rfl (braidref10_Before_ok _ _) (aQ rfl <| aQ rfl <| aN) rN rfl (fun _ _ => flat_val) fun r8 n9 => hFrz 11 [19] rfl (fS rfl <| fN) <| hCallF 4 [] [] rfl (by kernel_rfl) rfl (gd0 rfl) rfl Tryz.func30 rfl rfl (braidref09_At_ok _ _) (aQ rfl <| aQ rfl <| aN) rN rfl (fun _ _ => flat_num) fun r10 n11 => hTk 5 rfl rfl (I.geq rfl rfl) <| hTk 6 rfl rfl (asg rfl) <| hName 6 rfl rfl fun y12 => hTk 7 rfl rfl (asg rfl) <| hDone (by kernel_rfl) <| eThen <| gRet <| eRet [] [] rfl (eE rfl <| eE rfl <| eN) (rN)
def ancestry_Heads_L0 (x7 : List Bool) (s11 : (List Bool) × Int) : Option (Sum ((List Bool)) ((List Bool) × Int)) :=
 if decide (s11.2 < (x7.length : Int)) then
  idx s11.1 s11.2 >>= fun x13 =>
  some (.inr (s11.1.set (s11.2 : Int).toNat true, w64 (s11.2 + 1)))
 else
  some (.inl s11.1)
def ancestry_Heads_L4 (r5 : (List ((Vector UInt8 32) × Int))) (x19 : api_Op) (s22 : (List Bool) × Int) : Option (Sum ((List Bool)) ((List Bool) × Int)) :=
 if decide (s22.2 < (x19.Preds.length : Int)) then
  idx x19.Preds s22.2 >>= fun x24 =>
  idx s22.1 ((mget r5 x24).getD 0) >>= fun x27 =>
  some (.inr (s22.1.set ((mget r5 x24).getD 0 : Int).toNat false, w64 (s22.2 + 1)))
 else
  some (.inl s22.1)
def ancestry_Heads_L2 (a0 : api_Graph) (r5 : (List ((Vector UInt8 32) × Int))) (s16 : (List Bool) × Int) : Option (Sum ((List Bool)) ((List Bool) × Int)) :=
 if decide (s16.2 < (a0.Ops.length : Int)) then
  (idx a0.Ops s16.2 >>= fun x19 =>
  iter (ancestry_Heads_L4 r5 x19) (s16.1, 0)) >>= fun s18 =>
  some (.inr (s18, w64 (s16.2 + 1)))
 else
  some (.inl s16.1)
def ancestry_Heads (a0 : api_Graph) : Option ((List (Vector UInt8 32)) × Int) :=
 dag_Check a0 >>= fun r2 =>
 if r2 != 0 then
  some ([], r2)
 else
  ancestry_places a0 >>= fun r5 =>
  mkn 1 false (a0.IDs.length : Int) >>= fun x7 =>
  (iter (ancestry_Heads_L0 x7) (x7, 0)) >>= fun s10 =>
  (iter (ancestry_Heads_L2 a0 r5) (s10, 0)) >>= fun s15 =>
  ancestry_marked a0 s15 >>= fun r29 =>
  some (r29, 0)
theorem ancestry_Heads_ok (a0 : api_Graph) : Spec Tryz.prog 11 [.rd R_api_Graph a0] [(1001, some ((.bool true), .glob 1 (arrR 64 u32R) gtab1))] (ancestry_Heads a0) (fun r nv => ⟨[.val (nv 0), .rd i64R r.2], [(1001, some (.bool true, .glob 1 (arrR 64 u32R) gtab1)), (100, some (nv 0, .list (arrR 32 u8R) 27 r.1))]⟩) := by
 refine spec 56 Tryz.func11 rfl rfl rfl fun H w => ?_
 refine gSR <| Eb rfl (bx 1 rfl) fun v1 => R rfl (asg rfl) <| R rfl (asg rfl) <| gNil <| eThen <| gSeq <| gSR <| R rfl (ld 1 rfl rfl Foc.here ty25 rfl) <| call [1001] [] rfl Tryz.func31 rfl rfl (dag_Check_ok _) (aQ rfl <| aN) (rR rfl rfl <| rN) fun r2 n3 => R rfl (asg rfl) <| gNil <| eThen <| gSR <| R rfl (mv rfl) <| R rfl (I.neq rfl rfl) <| gNil <| eThen <| gIf rfl rfl (fun h4 => ?_) (fun h4 => ?_)
 ·
  refine gSR <| R rfl (mv rfl) <| R rfl (asg rfl) <| R rfl (asg rfl) <| gNil <| eThen <| gRet <| eTret <| eNew (arrR 32 u8R) 27 2 <| eRet [(.slice none 0 0)] [1001, 2] rfl (eE rfl <| eE rfl <| eN) (rR rfl rfl <| rR rfl rfl <| rN)
 ·
  refine gSkip <| eThen <| gSR <| R rfl (ld 1 rfl rfl Foc.here ty25 rfl) <| call [] [(100, 3)] rfl Tryz.func32 rfl rfl (ancestry_places_ok _) (aQ rfl <| aN) rN fun r5 n6 => R rfl (asg rfl) <| gNil <| eThen <| gSR <| R rfl (faB 1 rfl rfl Tryz.underlying25 rfl (by exact ti22)) <| R rfl (ld 1 rfl rfl ((Foc.here).part (pt_api_Graph_IDs _)) ty22 rfl) <| R rfl (len' rfl .rd rfl Tryz.underlying22) <| lBind fun x7 h8 => Ef rfl (mks (R := boolR) 4 rfl rfl h8 Tryz.underlying68 ti4 Zr.bool rfl) fun v9 => R rfl (asg rfl) <| gNil <| eThen <| gMid (fun (s10 : (List Bool)) aa ww => Sta (ctx 56 H [(1001, some ((.bool true), .glob 1 (arrR 64 u32R) gtab1))] w) [(1, .val (ptrTo v1 0)), (5, .val (n6 0)), (6, .val v9)] [(1, some (v1, .box 25 [.rd R_api_Graph a0])), (3, some ((n6 0), .map (arrR 32 u8R) i64R r5)), (4, some (v9, .list boolR 4 s10)), (1001, some ((.bool true), .glob 1 (arrR 64 u32R) gtab1))] aa ww) ?_ (fun s10 => ?_)
  ·
   refine gSR <| R rfl (mv rfl) <| R rfl (len' rfl (.own 4 rfl) rfl Tryz.underlying68) <| R rfl (mv rfl) <| gNil <| eThen <| gLoop (fun (s11 : (List Bool) × Int) aa ww => Sta (ctx 56 H [(1001, some ((.bool true), .glob 1 (arrR 64 u32R) gtab1))] w) [(1, .val (ptrTo v1 0)), (5, .val (n6 0)), (6, .val v9), (24, .rd i64R (x7.length : Int)), (25, .rd i64R s11.2)] [(1, some (v1, .box 25 [.rd R_api_Graph a0])), (3, some ((n6 0), .map (arrR 32 u8R) i64R r5)), (4, some (v9, .list boolR 4 s11.1)), (1001, some ((.bool true), .glob 1 (arrR 64 u32R) gtab1))] aa ww) (fun aa ww h => h.sub [1, 3, 4, 1001] (sS rfl <| sS rfl <| sS rfl <| sS rfl <| sS rfl <| sN) (rR rfl rfl <| rR rfl rfl <| rR rfl rfl <| rR rfl rfl <| rN)) (fun s11 => ?_)
   refine gSR <| R rfl (I.lss rfl rfl) <| gNil <| eThen <| gSeq <| gIf rfl rfl (fun h12 => ?_) (fun h12 => ?_)
   ·
    refine gSkip <| eThen <| gSeq <| gBlk <| gSR <| R rfl (mv rfl) <| R rfl (asg rfl) <| gNil <| eThen <| gReg <| R rfl (mv rfl) <| R rfl (mv rfl) <| lBind fun x13 h14 => R rfl (ixO 4 rfl rfl rfl h14 Tryz.underlying68 ti4) <| Es (sto 4 rfl rfl (Foc.el h14) rfl ti4) <| gNil <| eBlk <| eThen <| gReg <| R rfl (I.add rfl rfl) <| R rfl (mv rfl) <| gNil <| eNext (fun aa ww h => h.sub [1, 3, 4, 1001] (sS rfl <| sS rfl <| sS rfl <| sS rfl <| sS rfl <| sN) (rR rfl rfl <| rR rfl rfl <| rR rfl rfl <| rR rfl rfl <| rN))
   ·
    refine gExit <| eTexit <| eLeave <| eMid (fun aa ww h => h.sub [1, 3, 4, 1001] (sS rfl <| sS rfl <| sS rfl <| sN) (rR rfl rfl <| rR rfl rfl <| rR rfl rfl <| rR rfl rfl <| rN))
  ·
   refine gMid (fun (s15 : (List Bool)) aa ww => Sta (ctx 56 H [(1001, some ((.bool true), .glob 1 (arrR 64 u32R) gtab1))] w) [(1, .val (ptrTo v1 0)), (6, .val v9)] [(1, some (v1, .box 25 [.rd R_api_Graph a0])), (4, some (v9, .list boolR 4 s15)), (1001, some ((.bool true), .glob 1 (arrR 64 u32R) gtab1))] aa ww) ?_ (fun s15 => ?_)
   ·
    refine gSR <| R rfl (faB 1 rfl rfl Tryz.underlying25 rfl (by exact ti23)) <| R rfl (ld 1 rfl rfl ((Foc.here).part (pt_api_Graph_Ops _)) ty23 rfl) <| R rfl (len' rfl .rd rfl Tryz.underlying23) <| R rfl (mv rfl) <| gNil <| eThen <| gLoop (fun (s16 : (List Bool) × Int) aa ww => Sta (ctx 56 H [(1001, some ((.bool true), .glob 1 (arrR 64 u32R) gtab1))] w) [(1, .val (ptrTo v1 0)), (5, .val (n6 0)), (6, .val v9), (33, .rd (sliceR R_api_Op) a0.Ops), (34, .rd i64R (a0.Ops.length : Int)), (35, .rd i64R s16.2)] [(1, some (v1, .box 25 [.rd R_api_Graph a0])), (3, some ((n6 0), .map (arrR 32 u8R) i64R r5)), (4, some (v9, .list boolR 4 s16.1)), (1001, some ((.bool true), .glob 1 (arrR 64 u32R) gtab1))] aa ww) (fun aa ww h => h.sub [1, 3, 4, 1001] (sS rfl <| sS rfl <| sS rfl <| sS rfl <| sS rfl <| sS rfl <| sN) (rR rfl rfl <| rR rfl rfl <| rR rfl rfl <| rR rfl rfl <| rN)) (fun s16 => ?_)
    refine gSR <| R rfl (I.lss rfl rfl) <| gNil <| eThen <| gSeq <| gIf rfl rfl (fun h17 => ?_) (fun h17 => ?_)
    ·
     refine gSkip <| eThen <| gMid (fun (s18 : (List Bool)) aa ww => Sta (ctx 56 H [(1001, some ((.bool true), .glob 1 (arrR 64 u32R) gtab1))] w) [(1, .val (ptrTo v1 0)), (5, .val (n6 0)), (6, .val v9), (33, .rd (sliceR R_api_Op) a0.Ops), (34, .rd i64R (a0.Ops.length : Int)), (35, .rd i64R s16.2)] [(1, some (v1, .box 25 [.rd R_api_Graph a0])), (3, some ((n6 0), .map (arrR 32 u8R) i64R r5)), (4, some (v9, .list boolR 4 s18)), (1001, some ((.bool true), .glob 1 (arrR 64 u32R) gtab1))] aa ww) ?_ (fun s18 => ?_)
     ·
      refine gBlk <| gSR <| lBind fun x19 h20 => R rfl (ixR rfl rfl h20 Tryz.underlying23 ti65 rfl) <| R rfl (ldR rfl ty65) <| Eb rfl (allc 1002 ti65 (ZrE.rd (R := u32R) (x := 0) (Zr.num rfl) (ZrE.nilS (ZrE.rd (R := u64R) (x := 0) (Zr.num rfl) (ZrE.rd (R := R_api_Act) (x := (⟨0, [], (⟨0, 0, 0, []⟩ : api_Value)⟩ : api_Act)) zr61 (ZrE.rd (R := R_api_Sig) (x := (⟨0, 0⟩ : api_Sig)) zr63 ZrE.nil rfl) rfl) rfl)) rfl)) fun v21 => lPnl (arrR 32 u8R) [.rd u32R 0, .rd (sliceR (arrR 32 u8R)) [], .rd u64R 0, .rd R_api_Act (⟨0, [], (⟨0, 0, 0, []⟩ : api_Value)⟩ : api_Act), .rd R_api_Sig (⟨0, 0⟩ : api_Sig)] 1002 [.rd u32R 0] [.rd u64R 0, .rd R_api_Act (⟨0, [], (⟨0, 0, 0, []⟩ : api_Value)⟩ : api_Act), .rd R_api_Sig (⟨0, 0⟩ : api_Sig)] rfl rfl rfl <| lJoi (R := R_api_Op) (⟨0, [], 0, (⟨0, [], (⟨0, 0, 0, []⟩ : api_Value)⟩ : api_Act), (⟨0, 0⟩ : api_Sig)⟩ : api_Op) 1002 rfl (Sp.via (Sp.prod (Sp.prod (Sp.prod (Sp.prod (Sp.prod Sp.unit)))))) <| Es (sto 1002 rfl rfl Foc.here rfl ti65) <| gNil <| eThen <| gSR <| R rfl (faB 1002 rfl rfl Tryz.underlying65 rfl (by exact ti22)) <| R rfl (ld 1002 rfl rfl ((Foc.here).part (pt_api_Op_Preds _)) ty22 rfl) <| R rfl (len' rfl .rd rfl Tryz.underlying22) <| R rfl (mv rfl) <| gNil <| eThen <| gLoop (fun (s22 : (List Bool) × Int) aa ww => Sta (ctx 56 H [(1001, some ((.bool true), .glob 1 (arrR 64 u32R) gtab1))] w) [(1, .val (ptrTo v1 0)), (5, .val (n6 0)), (6, .val v9), (33, .rd (sliceR R_api_Op) a0.Ops), (34, .rd i64R (a0.Ops.length : Int)), (35, .rd i64R s16.2), (40, .rd (sliceR (arrR 32 u8R)) x19.Preds), (41, .rd i64R (x19.Preds.length : Int)), (42, .rd i64R s22.2)] [(1, some (v1, .box 25 [.rd R_api_Graph a0])), (3, some ((n6 0), .map (arrR 32 u8R) i64R r5)), (4, some (v9, .list boolR 4 s22.1)), (1001, some ((.bool true), .glob 1 (arrR 64 u32R) gtab1))] aa ww) (fun aa ww h => h.sub [1, 3, 4, 1001] (sS rfl <| sS rfl <| sS rfl <| sS rfl <| sS rfl <| sS rfl <| sS rfl <| sS rfl <| sS rfl <| sN) (rR rfl rfl <| rR rfl rfl <| rR rfl rfl <| rR rfl rfl <| rN)) (fun s22 => ?_)
      refine gSR <| R rfl (I.lss rfl rfl) <| gNil <| eThen <| gSeq <| gIf rfl rfl (fun h23 => ?_) (fun h23 => ?_)
      ·
       refine gSkip <| eThen <| gSeq <| gBlk <| gSR <| lBind fun x24 h25 => R rfl (ixR rfl rfl h25 Tryz.underlying22 ti27 rfl) <| R rfl (ldR rfl ty27) <| Eb rfl (allc 1003 ti27 (.zr (R := (arrR 32 u8R)) (x := (Vector.replicate 32 0)) zr26)) fun v26 => Es (sto 1003 rfl rfl Foc.here rfl ti27) <| gNil <| eThen <| gReg <| R rfl (mv rfl) <| R rfl (mv rfl) <| R rfl (ld 1003 rfl rfl Foc.here ty27 rfl) <| R rfl (mlk rfl (.own 3 rfl rfl) rfl ky27 Tryz.underlying74 ti3 (Zr.num rfl) rfl) <| lBind fun x27 h28 => R rfl (ixO 4 rfl rfl rfl h28 Tryz.underlying68 ti4) <| Es (sto 4 rfl rfl (Foc.el h28) rfl ti4) <| gNil <| eBlk <| eThen <| gReg <| R rfl (I.add rfl rfl) <| R rfl (mv rfl) <| gNil <| eNext (fun aa ww h => h.sub [1, 3, 4, 1001] (sS rfl <| sS rfl <| sS rfl <| sS rfl <| sS rfl <| sS rfl <| sS rfl <| sS rfl <| sS rfl <| sN) (rR rfl rfl <| rR rfl rfl <| rR rfl rfl <| rR rfl rfl <| rN))
      ·
       refine gExit <| eTexit <| eLeave <| eBlk <| eMid (fun aa ww h => h.sub [1, 3, 4, 1001] (sS rfl <| sS rfl <| sS rfl <| sS rfl <| sS rfl <| sS rfl <| sN) (rR rfl rfl <| rR rfl rfl <| rR rfl rfl <| rR rfl rfl <| rN))
     ·
      refine gReg <| R rfl (I.add rfl rfl) <| R rfl (mv rfl) <| gNil <| eNext (fun aa ww h => h.sub [1, 3, 4, 1001] (sS rfl <| sS rfl <| sS rfl <| sS rfl <| sS rfl <| sS rfl <| sN) (rR rfl rfl <| rR rfl rfl <| rR rfl rfl <| rR rfl rfl <| rN))
    ·
     refine gExit <| eTexit <| eLeave <| eMid (fun aa ww h => h.sub [1, 4, 1001] (sS rfl <| sS rfl <| sN) (rR rfl rfl <| rR rfl rfl <| rR rfl rfl <| rN))
   ·
    refine gSR <| R rfl (ld 1 rfl rfl Foc.here ty25 rfl) <| R rfl (mv rfl) <| lFrz 4 [6, 54] rfl (fS rfl <| fS rfl <| fN) <| call [] [(100, 1004)] rfl Tryz.func26 rfl rfl (ancestry_marked_ok _ _) (aQ rfl <| aQ rfl <| aN) rN fun r29 n30 => R rfl (asg rfl) <| R rfl (asg rfl) <| gNil <| eThen <| gRet <| eRet [(n30 0)] [1001, 1004] rfl (eE rfl <| eE rfl <| eN) (rR rfl rfl <| rR rfl rfl <| rN)
def braidref10_Top_L0 (a0 : api_Graph) (s3 : (List (Vector UInt8 32)) × Int) : Option (Sum ((List (Vector UInt8 32))) ((List (Vector UInt8 32)) × Int)) :=
 if decide (s3.2 < (a0.Ops.length : Int)) then
  idx a0.Ops s3.2 >>= fun x6 =>
  app 32 s3.1 x6.Preds >>= fun x8 =>
  some (w64 (s3.2 + 1)) >>= fun y11 =>
  some (.inr (x8, y11))
 else
  some (.inl s3.1)
def braidref10_Top_L2 (a0 : api_Graph) (s14 : (List (Vector UInt8 32)) × (List (Vector UInt8 32)) × Int) : Option (Sum ((List (Vector UInt8 32))) ((List (Vector UInt8 32)) × (List (Vector UInt8 32)) × Int)) :=
 if decide (s14.2.2 < (a0.IDs.length : Int)) then
  idx a0.IDs s14.2.2 >>= fun x17 =>
  braidref09_At s14.1 x17 >>= fun r19 =>
  if decide (r19 < 0) then
   idx a0.IDs s14.2.2 >>= fun x22 =>
   app 32 s14.2.1 [x22] >>= fun x25 =>
   some (w64 (s14.2.2 + 1)) >>= fun y28 =>
   some (.inr (s14.1, x25, y28))
  else
   some (w64 (s14.2.2 + 1)) >>= fun y29 =>
   some (.inr (s14.1, s14.2.1, y29))
 else
  some (.inl s14.2.1)
def braidref10_Top (a0 : api_Graph) : Option ((List (Vector UInt8 32))) :=
 (iter (braidref10_Top_L0 a0) ([], 0)) >>= fun s2 =>
 (iter (braidref10_Top_L2 a0) (s2, [], 0)) >>= fun s13 =>
 some s13
theorem braidref10_Top_ok (a0 : api_Graph) : Spec Tryz.prog 34 [.rd R_api_Graph a0] [] (braidref10_Top a0) (fun r nv => ⟨[.val (nv 0)], [(100, some (nv 0, .list (arrR 32 u8R) 27 r))]⟩) := by
 refine spec 46 Tryz.func34 rfl rfl rfl fun H w => ?_
 refine gSR <| Eb rfl (bx 1 rfl) fun v1 => R rfl (asg rfl) <| gNil <| eThen <| gSR <| R rfl (asg rfl) <| R rfl (asg rfl) <| gNil <| eThen <| gMid (fun (s2 : (List (Vector UInt8 32))) aa ww => ∃ nv : Nat → Value, Sta (ctx 46 H [] w) [(1, .val (ptrTo v1 0)), (3, .val (nv 0)), (4, .val (.slice none 0 0))] [(1, some (v1, .box 25 [.rd R_api_Graph a0])), (2, some ((nv 0), .list (arrR 32 u8R) 27 s2))] aa ww) ?_ (fun s2 => ?_)
 ·
  refine gSR <| R rfl (asg rfl) <| gNil <| eThen <| gNew (arrR 32 u8R) 27 4 <| gLoop (fun (s3 : (List (Vector UInt8 32)) × Int) aa ww => ∃ nv : Nat → Value, Sta (ctx 46 H [] w) [(1, .val (ptrTo v1 0)), (3, .val (nv 0)), (4, .val (.slice none 0 0)), (5, .rd i64R s3.2)] [(1, some (v1, .box 25 [.rd R_api_Graph a0])), (3, some ((nv 0), .list (arrR 32 u8R) 27 s3.1))] aa ww) (fun aa ww h => ⟨nvl [(.slice none 0 0)], h.sub [1, 4] (sS rfl <| sS rfl <| sS rfl <| sS rfl <| sN) (rR rfl rfl <| rR rfl rfl <| rN)⟩) (fun s3 => ?_)
  refine gEx fun n4 => gSeq <| gSR <| R rfl (mv rfl) <| R rfl (faB 1 rfl rfl Tryz.underlying25 rfl (by exact ti23)) <| R rfl (ld 1 rfl rfl ((Foc.here).part (pt_api_Graph_Ops _)) ty23 rfl) <| R rfl (len' rfl .rd rfl Tryz.underlying23) <| R rfl (I.lss rfl rfl) <| gNil <| eThen <| gIf rfl rfl (fun h5 => ?_) (fun h5 => ?_)
  ·
   refine gSkip <| eThen <| gSeq <| gBlk <| gReg <| R rfl (mv rfl) <| R rfl (faB 1 rfl rfl Tryz.underlying25 rfl (by exact ti23)) <| R rfl (ld 1 rfl rfl ((Foc.here).part (pt_api_Graph_Ops _)) ty23 rfl) <| R rfl (mv rfl) <| lBind fun x6 h7 => R rfl (ixR rfl rfl h7 Tryz.underlying23 ti65 rfl) <| R rfl (faR rfl (pt_api_Op_Preds _) Tryz.underlying65 rfl rfl (by exact ti22)) <| R rfl (ldR rfl ty22) <| lBind fun x8 h9 => Ef rfl (apn 3 rfl rfl rfl .rd h9 Tryz.underlying22 ti27 rfl rfl rfl) fun v10 => R rfl (asg rfl) <| gNil <| eBlk <| eThen <| gReg <| R rfl (mv rfl) <| R rfl (I.add rfl rfl) <| R rfl (asg rfl) <| lName 5 rfl fun y11 => gNil <| eNext (fun aa ww h => ⟨nvl [v10], h.sub [1, 3] (sS rfl <| sS rfl <| sS rfl <| sS rfl <| sN) (rR rfl rfl <| rR rfl rfl <| rN)⟩)
  ·
   refine gExit <| eTexit <| eLeave <| eMid (fun aa ww h => ⟨nvl [(n4 0)], h.sub [1, 3] (sS rfl <| sS rfl <| sS rfl <| sN) (rR rfl rfl <| rR rfl rfl <| rN)⟩)
 ·
  refine gEx fun n12 => gMid (fun (s13 : (List (Vector UInt8 32))) aa ww => ∃ nv : Nat → Value, Sta (ctx 46 H [] w) [(4, .val (nv 0))] [(6, some ((nv 0), .list (arrR 32 u8R) 27 s13))] aa ww) ?_ (fun s13 => ?_)
  ·
   refine gSR <| R rfl (asg rfl) <| gNil <| eThen <| gFrz 2 [3] rfl (fS rfl <| fN) <| gNew (arrR 32 u8R) 27 9 <| gLoop (fun (s14 : (List (Vector UInt8 32)) × (List (Vector UInt8 32)) × Int) aa ww => ∃ nv : Nat → Value, Sta (ctx 46 H [] w) [(1, .val (ptrTo v1 0)), (3, .rd (sliceR (arrR 32 u8R)) s14.1), (4, .val (nv 0)), (6, .rd i64R s14.2.2)] [(1, some (v1, .box 25 [.rd R_api_Graph a0])), (8, some ((nv 0), .list (arrR 32 u8R) 27 s14.2.1))] aa ww) (fun aa ww h => ⟨nvl [(.slice none 0 0)], h.sub [1, 9] (sS rfl <| sS rfl <| sS rfl <| sS rfl <| sN) (rR rfl rfl <| rR rfl rfl <| rN)⟩) (fun s14 => ?_)
   refine gEx fun n15 => gSeq <| gSR <| R rfl (mv rfl) <| R rfl (faB 1 rfl rfl Tryz.underlying25 rfl (by exact ti22)) <| R rfl (ld 1 rfl rfl ((Foc.here).part (pt_api_Graph_IDs _)) ty22 rfl) <| R rfl (len' rfl .rd rfl Tryz.underlying22) <| R rfl (I.lss rfl rfl) <| gNil <| eThen <| gIf rfl rfl (fun h16 => ?_) (fun h16 => ?_)
   ·
    refine gSkip <| eThen <| gSeq <| gBlk <| gSR <| R rfl (mv rfl) <| R rfl (faB 1 rfl rfl Tryz.underlying25 rfl (by exact ti22)) <| R rfl (ld 1 rfl rfl ((Foc.here).part (pt_api_Graph_IDs _)) ty22 rfl) <| R rfl (mv rfl) <| lBind fun x17 h18 => R rfl (ixR rfl rfl h18 Tryz.underlying22 ti27 rfl) <| R rfl (ldR rfl ty27) <| call [] [] rfl Tryz.func30 rfl rfl (braidref09_At_ok _ _) (aQ rfl <| aQ rfl <| aN) rN fun r19 n20 => R rfl (I.lss rfl rfl) <| gNil <| eThen <| gIf rfl rfl (fun h21 => ?_) (fun h21 => ?_)
    ·
     refine gReg <| R rfl (mv rfl) <| R rfl (faB 1 rfl rfl Tryz.underlying25 rfl (by exact ti22)) <| R rfl (ld 1 rfl rfl ((Foc.here).part (pt_api_Graph_IDs _)) ty22 rfl) <| R rfl (mv rfl) <| lBind fun x22 h23 => R rfl (ixR rfl rfl h23 Tryz.underlying22 ti27 rfl) <| R rfl (ldR rfl ty27) <| Ef rfl (lit (R := (arrR 32 u8R)) ([x22] : List (Vector UInt8 32)) 10 (pP rfl rfl <| pN) rfl Tryz.underlying22 ti27 rfl rfl) fun v24 => lFrz 10 [43] rfl (fS rfl <| fN) <| lBind fun x25 h26 => Ef rfl (apn 8 rfl rfl rfl .rd h26 Tryz.underlying22 ti27 rfl rfl rfl) fun v27 => R rfl (asg rfl) <| gNil <| eBlk <| eThen <| gReg <| R rfl (mv rfl) <| R rfl (I.add rfl rfl) <| R rfl (asg rfl) <| lName 6 rfl fun y28 => gNil <| eNext (fun aa ww h => ⟨nvl [v27], h.sub [1, 8] (sS rfl <| sS rfl <| sS rfl <| sS rfl <| sN) (rR rfl rfl <| rR rfl rfl <| rN)⟩)
    ·
     refine gSkip <| eBlk <| eThen <| gReg <| R rfl (mv rfl) <| R rfl (I.add rfl rfl) <| R rfl (asg rfl) <| lName 6 rfl fun y29 => gNil <| eNext (fun aa ww h => ⟨nvl [(n15 0)], h.sub [1, 8] (sS rfl <| sS rfl <| sS rfl <| sS rfl <| sN) (rR rfl rfl <| rR rfl rfl <| rN)⟩)
   ·
    refine gExit <| eTexit <| eLeave <| eMid (fun aa ww h => ⟨nvl [(n15 0)], h.sub [8] (sS rfl <| sN) (rR rfl rfl <| rN)⟩)
  ·
   refine gEx fun n30 => gSR <| R rfl (mv rfl) <| R rfl (asg rfl) <| gNil <| eThen <| gRet <| eRet [(n30 0)] [6] rfl (eE rfl <| eN) (rR rfl rfl <| rN)
def braidref10_Heads (a0 : api_Graph) : Option ((List (Vector UInt8 32)) × Int) :=
 braidref09_Check a0 >>= fun r2 =>
 if r2 != 0 then
  some ([], r2)
 else
  braidref10_Top a0 >>= fun r5 =>
  some (r5, 0)
theorem braidref10_Heads_ok (a0 : api_Graph) : Spec Tryz.prog 12 [.rd R_api_Graph a0] [] (braidref10_Heads a0) (fun r nv => ⟨[.val (nv 0), .rd i64R r.2], [(100, some (nv 0, .list (arrR 32 u8R) 27 r.1))]⟩) := by
 refine spec 12 Tryz.func12 rfl rfl rfl fun H w => ?_
 refine gSR <| Eb rfl (bx 1 rfl) fun v1 => R rfl (asg rfl) <| R rfl (asg rfl) <| gNil <| eThen <| gSeq <| gSR <| R rfl (ld 1 rfl rfl Foc.here ty25 rfl) <| call [] [] rfl Tryz.func33 rfl rfl (braidref09_Check_ok _) (aQ rfl <| aN) rN fun r2 n3 => R rfl (asg rfl) <| gNil <| eThen <| gSR <| R rfl (mv rfl) <| R rfl (I.neq rfl rfl) <| gNil <| eThen <| gIf rfl rfl (fun h4 => ?_) (fun h4 => ?_)
 ·
  refine gSR <| R rfl (mv rfl) <| R rfl (asg rfl) <| R rfl (asg rfl) <| gNil <| eThen <| gRet <| eTret <| eNew (arrR 32 u8R) 27 2 <| eRet [(.slice none 0 0)] [2] rfl (eE rfl <| eE rfl <| eN) (rR rfl rfl <| rN)
 ·
  refine gSkip <| eThen <| gSR <| R rfl (ld 1 rfl rfl Foc.here ty25 rfl) <| call [] [(100, 3)] rfl Tryz.func34 rfl rfl (braidref10_Top_ok _) (aQ rfl <| aN) rN fun r5 n6 => R rfl (asg rfl) <| R rfl (asg rfl) <| gNil <| eThen <| gRet <| eRet [(n6 0)] [3] rfl (eE rfl <| eE rfl <| eN) (rR rfl rfl <| rN)
def ancestry_Order_1_1 (a0 : Vector UInt8 32) (c1_0 : List Bool) (c2_0 : List ((Vector UInt8 32) × Int)) : Option (Bool) :=
 idx c1_0 ((mget c2_0 a0).getD 0) >>= fun x2 =>
 some (!x2)
theorem ancestry_Order_1_1_ok (a0 : Vector UInt8 32) (p1_0 : Value) (q1_0 : Value) (c1_0 : List Bool) (p2_0 : Value) (q2_0 : Value) (c2_0 : List ((Vector UInt8 32) × Int)) : Spec Tryz.prog 46 [.rd (arrR 32 u8R) a0, .val (ptrTo p1_0 0), .val (ptrTo p2_0 0)] [(1, some (p1_0, .box 68 [.val q1_0])), (2, some (q1_0, .list boolR 4 c1_0)), (3, some (p2_0, .box 74 [.val q2_0])), (4, some (q2_0, .map (arrR 32 u8R) i64R c2_0))] (ancestry_Order_1_1 a0 c1_0 c2_0) (fun r nv => ⟨[.rd boolR r], [(1, some (p1_0, .box 68 [.val q1_0])), (2, some (q1_0, .list boolR 4 c1_0)), (3, some (p2_0, .box 74 [.val q2_0])), (4, some (q2_0, .map (arrR 32 u8R) i64R c2_0))]⟩) := by
 refine spec 12 Tryz.func46 rfl rfl rfl fun H w => ?_
 refine gSR <| Eb rfl (bx 5 rfl) fun v1 => R rfl (asg rfl) <| gNil <| eThen <| gSeq <| gRegQ mixed (by kernel_rfl) <| Rq rfl (ldV 1 rfl rfl .here sc68 rfl) <| Rq rfl (ldV 3 rfl rfl .here sc74 rfl) <| Rq rfl (ld 5 rfl rfl Foc.here ty27 rfl) <| Rq rfl (mlk rfl (.own 4 rfl rfl) rfl ky27 Tryz.underlying74 ti3 (Zr.num rfl) rfl) <| qBind fun x2 h3 => Rq rfl (ixO 2 rfl rfl rfl h3 Tryz.underlying68 ti4) <| Rq rfl (ld 2 rfl rfl (Foc.el h3) ty4 rfl) <| Rq rfl (not' rfl) <| Rq rfl (asg rfl) <| qNil <| eThen <| gRet <| eRet [] [1, 2, 3, 4] rfl (eE rfl <| eN) (rR rfl rfl <| rR rfl rfl <| rR rfl rfl <| rR rfl rfl <| rN)
def slices_IndexFunc_api_ID_api_ID_ancestry_Order_1_1_L0 (a0 : List (Vector UInt8 32)) (c1_0 : List Bool) (c1_1 : List ((Vector UInt8 32) × Int)) (s2 : Int) : Option (Sum (Sum Int Unit) Int) :=
 if decide (s2 < (a0.length : Int)) then
  idx a0 s2 >>= fun x4 =>
  ancestry_Order_1_1 x4 c1_0 c1_1 >>= fun r6 =>
  if r6 then
   some (.inl (.inl s2))
  else
   some (.inr (w64 (s2 + 1)))
 else
  some (.inl (.inr ()))
def slices_IndexFunc_api_ID_api_ID_ancestry_Order_1_1 (a0 : List (Vector UInt8 32)) (c1_0 : List Bool) (c1_1 : List ((Vector UInt8 32) × Int)) : Option (Int) :=
 orRet (iter (slices_IndexFunc_api_ID_api_ID_ancestry_Order_1_1_L0 a0 c1_0 c1_1) 0) fun s1 =>
 some (-1)
theorem slices_IndexFunc_api_ID_api_ID_ancestry_Order_1_1_ok (a0 : List (Vector UInt8 32)) (p1_0 : Value) (q1_0 : Value) (c1_0 : List Bool) (p1_1 : Value) (q1_1 : Value) (c1_1 : List ((Vector UInt8 32) × Int)) : Spec Tryz.prog 60 [.rd (sliceR (arrR 32 u8R)) a0, .val (.func (.func 46) #[] #[ptrTo p1_0 0, ptrTo p1_1 0])] [(1, some (p1_0, .box 68 [.val q1_0])), (2, some (q1_0, .list boolR 4 c1_0)), (3, some (p1_1, .box 74 [.val q1_1])), (4, some (q1_1, .map (arrR 32 u8R) i64R c1_1))] (slices_IndexFunc_api_ID_api_ID_ancestry_Order_1_1 a0 c1_0 c1_1) (fun r nv => ⟨[.rd i64R r], [(1, some (p1_0, .box 68 [.val q1_0])), (2, some (q1_0, .list boolR 4 c1_0)), (3, some (p1_1, .box 74 [.val q1_1])), (4, some (q1_1, .map (arrR 32 u8R) i64R c1_1))]⟩) := by
 refine spec 19 Tryz.func60 rfl rfl rfl fun H w => ?_
 refine gSR <| R rfl (asg rfl) <| gNil <| eThen <| gMidR (fun (s1 : Unit) aa ww => Sta (ctx 19 H [(1, some (p1_0, .box 68 [.val q1_0])), (2, some (q1_0, .list boolR 4 c1_0)), (3, some (p1_1, .box 74 [.val q1_1])), (4, some (q1_1, .map (arrR 32 u8R) i64R c1_1))] w) [] [(2, some (q1_0, .list boolR 4 c1_0)), (1, some (p1_0, .box 68 [.val q1_0])), (4, some (q1_1, .map (arrR 32 u8R) i64R c1_1)), (3, some (p1_1, .box 74 [.val q1_1]))] aa ww) ?_ (fun s1 => ?_)
 ·
  refine gSR <| R rfl (mv rfl) <| R rfl (len' rfl .rd rfl Tryz.underlying22) <| R rfl (mv rfl) <| gNil <| eThen <| gLoop (fun (s2 : Int) aa ww => Sta (ctx 19 H [(1, some (p1_0, .box 68 [.val q1_0])), (2, some (q1_0, .list boolR 4 c1_0)), (3, some (p1_1, .box 74 [.val q1_1])), (4, some (q1_1, .map (arrR 32 u8R) i64R c1_1))] w) [(0, .rd (sliceR (arrR 32 u8R)) a0), (1, .val (.func (.func 46) #[] #[ptrTo p1_0 0, ptrTo p1_1 0])), (7, .rd i64R (a0.length : Int)), (8, .rd i64R s2)] [(2, some (q1_0, .list boolR 4 c1_0)), (1, some (p1_0, .box 68 [.val q1_0])), (4, some (q1_1, .map (arrR 32 u8R) i64R c1_1)), (3, some (p1_1, .box 74 [.val q1_1]))] aa ww) (fun aa ww h => h.sub [2, 1, 4, 3] (sS rfl <| sS rfl <| sS rfl <| sS rfl <| sN) (rR rfl rfl <| rR rfl rfl <| rR rfl rfl <| rR rfl rfl <| rN)) (fun s2 => ?_)
  refine gSR <| R rfl (I.lss rfl rfl) <| gNil <| eThen <| gSeq <| gIf rfl rfl (fun h3 => ?_) (fun h3 => ?_)
  ·
   refine gSkip <| eThen <| gSeq <| gBlk <| gSR <| R rfl (mv rfl) <| R rfl (asg rfl) <| gNil <| eThen <| gSR <| R rfl (mv rfl) <| R rfl (mv rfl) <| R rfl (mv rfl) <| lBind fun x4 h5 => R rfl (ixR rfl rfl h5 Tryz.underlying22 ti27 rfl) <| R rfl (ldR rfl ty27) <| callv [1, 2, 3, 4] [(1, 1), (2, 2), (3, 3), (4, 4)] (gd0 rfl) rfl rfl Tryz.func46 rfl rfl (ancestry_Order_1_1_ok _ _ _ _ _ _ _) (aQ rfl <| aN) (cQ 1 rfl <| cQ 3 rfl <| cN) (rR rfl rfl <| rR rfl rfl <| rR rfl rfl <| rR rfl rfl <| rN) fun r6 n7 => gNil <| eThen <| gIf rfl rfl (fun h8 => ?_) (fun h8 => ?_)
   ·
    refine gSR <| R rfl (mv rfl) <| R rfl (asg rfl) <| gNil <| eThen <| gRet <| eBret <| eTret <| eLret <| eMret <| eRet [] [1, 2, 3, 4] rfl (eE rfl <| eN) (rR rfl rfl <| rR rfl rfl <| rR rfl rfl <| rR rfl rfl <| rN)
   ·
    refine gSkip <| eBlk <| eThen <| gReg <| R rfl (I.add rfl rfl) <| R rfl (mv rfl) <| gNil <| eNext (fun aa ww h => h.sub [2, 1, 4, 3] (sS rfl <| sS rfl <| sS rfl <| sS rfl <| sN) (rR rfl rfl <| rR rfl rfl <| rR rfl rfl <| rR rfl rfl <| rN))
  ·
   refine gExit <| eTexit <| eLeave <| eMidR (fun aa ww h => h.sub [2, 1, 4, 3] (sN) (rR rfl rfl <| rR rfl rfl <| rR rfl rfl <| rR rfl rfl <| rN))
 ·
  refine gSR <| R rfl (asg rfl) <| gNil <| eThen <| gRet <| eRet [] [1, 2, 3, 4] rfl (eE rfl <| eN) (rR rfl rfl <| rR rfl rfl <| rR rfl rfl <| rR rfl rfl <| rN)
def slices_ContainsFunc_api_ID_api_ID_ancestry_Order_1_1 (a0 : List (Vector UInt8 32)) (c1_0 : List Bool) (c1_1 : List ((Vector UInt8 32) × Int)) : Option (Bool) :=
 slices_IndexFunc_api_ID_api_ID_ancestry_Order_1_1 a0 c1_0 c1_1 >>= fun r1 =>
 some (decide (0 ≤ r1)) >>= fun y3 =>
 some y3
theorem slices_ContainsFunc_api_ID_api_ID_ancestry_Order_1_1_ok (a0 : List (Vector UInt8 32)) (p1_0 : Value) (q1_0 : Value) (c1_0 : List Bool) (p1_1 : Value) (q1_1 : Value) (c1_1 : List ((Vector UInt8 32) × Int)) : Spec Tryz.prog 45 [.rd (sliceR (arrR 32 u8R)) a0, .val (.func (.func 46) #[] #[ptrTo p1_0 0, ptrTo p1_1 0])] [(1, some (p1_0, .box 68 [.val q1_0])), (2, some (q1_0, .list boolR 4 c1_0)), (3, some (p1_1, .box 74 [.val q1_1])), (4, some (q1_1, .map (arrR 32 u8R) i64R c1_1))] (slices_ContainsFunc_api_ID_api_ID_ancestry_Order_1_1 a0 c1_0 c1_1) (fun r nv => ⟨[.rd boolR r], [(1, some (p1_0, .box 68 [.val q1_0])), (2, some (q1_0, .list boolR 4 c1_0)), (3, some (p1_1, .box 74 [.val q1_1])), (4, some (q1_1, .map (arrR 32 u8R) i64R c1_1))]⟩) := by
 refine spec 9 Tryz.func45 rfl rfl rfl fun H w => ?_
 refine gSR <| R rfl (asg rfl) <| gNil <| eThen <| gSR <| R rfl (mv rfl) <| R rfl (mv rfl) <| call [1, 2, 3, 4] [(1, 1), (2, 2), (3, 3), (4, 4)] rfl Tryz.func60 rfl rfl (slices_IndexFunc_api_ID_api_ID_ancestry_Order_1_1_ok _ _ _ _ _ _ _) (aQ rfl <| aQ rfl <| aN) (rR rfl rfl <| rR rfl rfl <| rR rfl rfl <| rR rfl rfl <| rN) fun r1 n2 => R rfl (I.geq rfl rfl) <| R rfl (asg rfl) <| lName 4 rfl fun y3 => gNil <| eThen <| gRet <| eRet [] [1, 2, 3, 4] rfl (eE rfl <| eN) (rR rfl rfl <| rR rfl rfl <| rR rfl rfl <| rR rfl rfl <| rN)
def ancestry_Order_1 (a0 : Int) (c1_0 : List Bool) (c2_0 : api_Graph) (c3_0 : List ((Vector UInt8 32) × Int)) : Option (Bool) :=
 idx c1_0 a0 >>= fun x1 =>
 if !x1 then
  idx c2_0.Ops a0 >>= fun x4 =>
  slices_ContainsFunc_api_ID_api_ID_ancestry_Order_1_1 x4.Preds c1_0 c3_0 >>= fun r6 =>
  some (!r6)
 else
  some false
theorem ancestry_Order_1_ok (a0 : Int) (p1_0 : Value) (q1_0 : Value) (c1_0 : List Bool) (p2_0 : Value) (c2_0 : api_Graph) (p3_0 : Value) (q3_0 : Value) (c3_0 : List ((Vector UInt8 32) × Int)) : Spec Tryz.prog 44 [.rd i64R a0, .val (ptrTo p1_0 0), .val (ptrTo p2_0 0), .val (ptrTo p3_0 0)] [(1, some (p1_0, .box 68 [.val q1_0])), (2, some (q1_0, .list boolR 4 c1_0)), (3, some (p2_0, .box 25 [.rd R_api_Graph c2_0])), (4, some (p3_0, .box 74 [.val q3_0])), (5, some (q3_0, .map (arrR 32 u8R) i64R c3_0))] (ancestry_Order_1 a0 c1_0 c2_0 c3_0) (fun r nv => ⟨[.rd boolR r], [(1, some (p1_0, .box 68 [.val q1_0])), (2, some (q1_0, .list boolR 4 c1_0)), (3, some (p2_0, .box 25 [.rd R_api_Graph c2_0])), (4, some (p3_0, .box 74 [.val q3_0])), (5, some (q3_0, .map (arrR 32 u8R) i64R c3_0))]⟩) := by
 refine spec 22 Tryz.func44 rfl rfl rfl fun H w => ?_
 refine gSR <| R rfl (asg rfl) <| gNil <| eThen <| gSR <| R rfl (ldV 1 rfl rfl .here sc68 rfl) <| R rfl (mv rfl) <| lBind fun x1 h2 => R rfl (ixO 2 rfl rfl rfl h2 Tryz.underlying68 ti4) <| R rfl (ld 2 rfl rfl (Foc.el h2) ty4 rfl) <| R rfl (not' rfl) <| R rfl (mv rfl) <| lSplit 11 rfl (fun h3 => ?_) (fun h3 => ?_)
 ·
  refine lKn 10 rfl h3 <| lRun (gd rfl rfl rfl rfl) rfl rfl (faB 3 rfl rfl Tryz.underlying25 rfl (by exact ti23)) <| lRun (gd rfl rfl rfl rfl) rfl rfl (ld 3 rfl rfl ((Foc.here).part (pt_api_Graph_Ops _)) ty23 rfl) <| lRun (gd rfl rfl rfl rfl) rfl rfl (mv rfl) <| lBind fun x4 h5 => lRun (gd rfl rfl rfl rfl) rfl rfl (ixR rfl rfl h5 Tryz.underlying23 ti65 rfl) <| lRun (gd rfl rfl rfl rfl) rfl rfl (faR rfl (pt_api_Op_Preds _) Tryz.underlying65 rfl rfl (by exact ti22)) <| lRun (gd rfl rfl rfl rfl) rfl rfl (ldR rfl ty22) <| lRun (gd rfl rfl rfl rfl) rfl rfl (mkf mp0 (mp2 rfl rfl)) <| callg [1, 2, 4, 5] [(1, 1), (2, 2), (3, 4), (4, 5)] (gd rfl rfl rfl rfl) rfl Tryz.func45 rfl rfl (slices_ContainsFunc_api_ID_api_ID_ancestry_Order_1_1_ok _ _ _ _ _ _ _) (aQ rfl <| aQ rfl <| aN) (rR rfl rfl <| rR rfl rfl <| rR rfl rfl <| rR rfl rfl <| rN) fun r6 n7 => lRun (gd rfl rfl rfl rfl) rfl rfl (not' rfl) <| R rfl (pkT rfl rfl) <| R rfl (asg rfl) <| gNil <| eThen <| gRet <| eRet [] [1, 2, 3, 4, 5] rfl (eE rfl <| eN) (rR rfl rfl <| rR rfl rfl <| rR rfl rfl <| rR rfl rfl <| rR rfl rfl <| rN)
 ·
  refine lKn 10 rfl h3 <| lSkip (gd rfl rfl rfl rfl) rfl rfl <| lSkip (gd rfl rfl rfl rfl) rfl rfl <| lSkip (gd rfl rfl rfl rfl) rfl rfl <| lSkip (gd rfl rfl rfl rfl) rfl rfl <| lSkip (gd rfl rfl rfl rfl) rfl rfl <| lSkip (gd rfl rfl rfl rfl) rfl rfl <| lSkip (gd rfl rfl rfl rfl) rfl rfl <| lSkip (gd rfl rfl rfl rfl) rfl rfl <| lSkip (gd rfl rfl rfl rfl) rfl rfl <| R rfl (pkF rfl rfl) <| R rfl (asg rfl) <| gNil <| eThen <| gRet <| eRet [] [1, 2, 3, 4, 5] rfl (eE rfl <| eN) (rR rfl rfl <| rR rfl rfl <| rR rfl rfl <| rR rfl rfl <| rR rfl rfl <| rN)
def ancestry_Order_L2 (a0 : api_Graph) (r5 : (List ((Vector UInt8 32) × Int))) (s13 : (List Bool) × (List (Vector UInt8 32)) × Int) (s17 : Int) : Option (Sum Int Int) :=
 ancestry_Order_1 s17 s13.1 a0 r5 >>= fun r18 =>
 if !r18 then
  some (w64 (s17 + 1)) >>= fun y21 =>
  some (.inr y21)
 else
  some (.inl s17)
def ancestry_Order_L0 (a0 : api_Graph) (r5 : (List ((Vector UInt8 32) × Int))) (s13 : (List Bool) × (List (Vector UInt8 32)) × Int) : Option (Sum ((List (Vector UInt8 32))) ((List Bool) × (List (Vector UInt8 32)) × Int)) :=
 if decide (s13.2.2 < (a0.IDs.length : Int)) then
  (iter (ancestry_Order_L2 a0 r5 s13) 0) >>= fun s16 =>
  idx s13.1 s16 >>= fun x22 =>
  idx a0.IDs s16 >>= fun x24 =>
  app 32 s13.2.1 [x24] >>= fun x27 =>
  some (.inr (s13.1.set (s16 : Int).toNat true, x27, w64 (s13.2.2 + 1)))
 else
  some (.inl s13.2.1)
def ancestry_Order (a0 : api_Graph) : Option ((List (Vector UInt8 32)) × Int) :=
 dag_Check a0 >>= fun r2 =>
 if r2 != 0 then
  some ([], r2)
 else
  ancestry_places a0 >>= fun r5 =>
  mkn 1 false (a0.IDs.length : Int) >>= fun x8 =>
  (iter (ancestry_Order_L0 a0 r5) (x8, [], 0)) >>= fun s12 =>
  some (s12, 0)
theorem ancestry_Order_ok (a0 : api_Graph) : Spec Tryz.prog 19 [.rd R_api_Graph a0] [(1001, some ((.bool true), .glob 1 (arrR 64 u32R) gtab1))] (ancestry_Order a0) (fun r nv => ⟨[.val (nv 0), .rd i64R r.2], [(1001, some (.bool true, .glob 1 (arrR 64 u32R) gtab1)), (100, some (nv 0, .list (arrR 32 u8R) 27 r.1))]⟩) := by
 refine spec 46 Tryz.func19 rfl rfl rfl fun H w => ?_
 refine gSR <| Eb rfl (bx 1 rfl) fun v1 => R rfl (asg rfl) <| R rfl (asg rfl) <| gNil <| eThen <| gSeq <| gSR <| R rfl (ld 1 rfl rfl Foc.here ty25 rfl) <| call [1001] [] rfl Tryz.func31 rfl rfl (dag_Check_ok _) (aQ rfl <| aN) (rR rfl rfl <| rN) fun r2 n3 => R rfl (asg rfl) <| gNil <| eThen <| gSR <| R rfl (mv rfl) <| R rfl (I.neq rfl rfl) <| gNil <| eThen <| gIf rfl rfl (fun h4 => ?_) (fun h4 => ?_)
 ·
  refine gSR <| R rfl (mv rfl) <| R rfl (asg rfl) <| R rfl (asg rfl) <| gNil <| eThen <| gRet <| eTret <| eNew (arrR 32 u8R) 27 2 <| eRet [(.slice none 0 0)] [1001, 2] rfl (eE rfl <| eE rfl <| eN) (rR rfl rfl <| rR rfl rfl <| rN)
 ·
  refine gSkip <| eThen <| gSR <| R rfl (ld 1 rfl rfl Foc.here ty25 rfl) <| call [] [(100, 3)] rfl Tryz.func32 rfl rfl (ancestry_places_ok _) (aQ rfl <| aN) rN fun r5 n6 => Eb rfl (allc 4 ti74 (.val rfl)) fun v7 => Es (stoE 4 rfl rfl (.here fills_val) rfl ones_val fills_val ti74) <| gNil <| eThen <| gSR <| R rfl (faB 1 rfl rfl Tryz.underlying25 rfl (by exact ti22)) <| R rfl (ld 1 rfl rfl ((Foc.here).part (pt_api_Graph_IDs _)) ty22 rfl) <| R rfl (len' rfl .rd rfl Tryz.underlying22) <| lBind fun x8 h9 => Ef rfl (mks (R := boolR) 5 rfl rfl h9 Tryz.underlying68 ti4 Zr.bool rfl) fun v10 => Eb rfl (allc 6 ti68 (.val rfl)) fun v11 => Es (stoE 6 rfl rfl (.here fills_val) rfl ones_val fills_val ti68) <| gNil <| eThen <| gSR <| R rfl (mkf mp0 (mp3 rfl rfl rfl)) <| R rfl (asg rfl) <| gNil <| eThen <| gSR <| R rfl (asg rfl) <| gNil <| eThen <| gMid (fun (s12 : (List (Vector UInt8 32))) aa ww => ∃ nv : Nat → Value, Sta (ctx 46 H [(1001, some ((.bool true), .glob 1 (arrR 64 u32R) gtab1))] w) [(8, .val (nv 0))] [(1003, some ((nv 0), .list (arrR 32 u8R) 27 s12)), (1001, some ((.bool true), .glob 1 (arrR 64 u32R) gtab1))] aa ww) ?_ (fun s12 => ?_)
  ·
   refine gSR <| R rfl (faB 1 rfl rfl Tryz.underlying25 rfl (by exact ti22)) <| R rfl (ld 1 rfl rfl ((Foc.here).part (pt_api_Graph_IDs _)) ty22 rfl) <| R rfl (len' rfl .rd rfl Tryz.underlying22) <| R rfl (mv rfl) <| gNil <| eThen <| gNew (arrR 32 u8R) 27 1006 <| gLoop (fun (s13 : (List Bool) × (List (Vector UInt8 32)) × Int) aa ww => ∃ nv : Nat → Value, Sta (ctx 46 H [(1001, some ((.bool true), .glob 1 (arrR 64 u32R) gtab1))] w) [(1, .val (ptrTo v1 0)), (6, .val (ptrTo v11 0)), (7, .val (.func (.func 44) #[] #[ptrTo v11 0, ptrTo v1 0, ptrTo v7 0])), (8, .val (nv 0)), (24, .rd i64R (a0.IDs.length : Int)), (25, .rd i64R s13.2.2)] [(1, some (v1, .box 25 [.rd R_api_Graph a0])), (5, some (v10, .list boolR 4 s13.1)), (6, some (v11, .box 68 [.val v10])), (3, some ((n6 0), .map (arrR 32 u8R) i64R r5)), (4, some (v7, .box 74 [.val (n6 0)])), (1005, some ((nv 0), .list (arrR 32 u8R) 27 s13.2.1)), (1001, some ((.bool true), .glob 1 (arrR 64 u32R) gtab1))] aa ww) (fun aa ww h => ⟨nvl [(.slice none 0 0)], h.sub [1, 5, 6, 3, 4, 1006, 1001] (sS rfl <| sS rfl <| sS rfl <| sS rfl <| sS rfl <| sS rfl <| sN) (rR rfl rfl <| rR rfl rfl <| rR rfl rfl <| rR rfl rfl <| rR rfl rfl <| rR rfl rfl <| rR rfl rfl <| rN)⟩) (fun s13 => ?_)
   refine gEx fun n14 => gSR <| R rfl (I.lss rfl rfl) <| gNil <| eThen <| gSeq <| gIf rfl rfl (fun h15 => ?_) (fun h15 => ?_)
   ·
    refine gSkip <| eThen <| gSeq <| gBlk <| gSR <| R rfl (asg rfl) <| gNil <| eThen <| gMid (fun (s16 : Int) aa ww => Sta (ctx 46 H [(1001, some ((.bool true), .glob 1 (arrR 64 u32R) gtab1))] w) [(1, .val (ptrTo v1 0)), (6, .val (ptrTo v11 0)), (7, .val (.func (.func 44) #[] #[ptrTo v11 0, ptrTo v1 0, ptrTo v7 0])), (8, .val (n14 0)), (9, .rd i64R s16), (24, .rd i64R (a0.IDs.length : Int)), (25, .rd i64R s13.2.2)] [(1, some (v1, .box 25 [.rd R_api_Graph a0])), (5, some (v10, .list boolR 4 s13.1)), (6, some (v11, .box 68 [.val v10])), (3, some ((n6 0), .map (arrR 32 u8R) i64R r5)), (4, some (v7, .box 74 [.val (n6 0)])), (1005, some ((n14 0), .list (arrR 32 u8R) 27 s13.2.1)), (1001, some ((.bool true), .glob 1 (arrR 64 u32R) gtab1))] aa ww) ?_ (fun s16 => ?_)
    ·
     refine gLoop (fun (s17 : Int) aa ww => Sta (ctx 46 H [(1001, some ((.bool true), .glob 1 (arrR 64 u32R) gtab1))] w) [(1, .val (ptrTo v1 0)), (6, .val (ptrTo v11 0)), (7, .val (.func (.func 44) #[] #[ptrTo v11 0, ptrTo v1 0, ptrTo v7 0])), (8, .val (n14 0)), (9, .rd i64R s17), (24, .rd i64R (a0.IDs.length : Int)), (25, .rd i64R s13.2.2)] [(1, some (v1, .box 25 [.rd R_api_Graph a0])), (5, some (v10, .list boolR 4 s13.1)), (6, some (v11, .box 68 [.val v10])), (3, some ((n6 0), .map (arrR 32 u8R) i64R r5)), (4, some (v7, .box 74 [.val (n6 0)])), (1005, some ((n14 0), .list (arrR 32 u8R) 27 s13.2.1)), (1001, some ((.bool true), .glob 1 (arrR 64 u32R) gtab1))] aa ww) (fun aa ww h => h.sub [1, 5, 6, 3, 4, 1005, 1001] (sS rfl <| sS rfl <| sS rfl <| sS rfl <| sS rfl <| sS rfl <| sS rfl <| sN) (rR rfl rfl <| rR rfl rfl <| rR rfl rfl <| rR rfl rfl <| rR rfl rfl <| rR rfl rfl <| rR rfl rfl <| rN)) (fun s17 => ?_)
     refine gSeq <| gSR <| R rfl (mv rfl) <| R rfl (mv rfl) <| callv [6, 5, 1, 4, 3] [(1, 6), (2, 5), (3, 1), (4, 4), (5, 3)] (gd0 rfl) rfl rfl Tryz.func44 rfl rfl (ancestry_Order_1_ok _ _ _ _ _ _ _ _ _) (aQ rfl <| aN) (cQ 6 rfl <| cQ 1 rfl <| cQ 4 rfl <| cN) (rR rfl rfl <| rR rfl rfl <| rR rfl rfl <| rR rfl rfl <| rR rfl rfl <| rN) fun r18 n19 => R rfl (not' rfl) <| gNil <| eThen <| gIf rfl rfl (fun h20 => ?_) (fun h20 => ?_)
     ·
      refine gSkip <| eThen <| gBlk <| gReg <| R rfl (mv rfl) <| R rfl (I.add rfl rfl) <| R rfl (asg rfl) <| lName 9 rfl fun y21 => gNil <| eBlk <| eNext (fun aa ww h => h.sub [1, 5, 6, 3, 4, 1005, 1001] (sS rfl <| sS rfl <| sS rfl <| sS rfl <| sS rfl <| sS rfl <| sS rfl <| sN) (rR rfl rfl <| rR rfl rfl <| rR rfl rfl <| rR rfl rfl <| rR rfl rfl <| rR rfl rfl <| rR rfl rfl <| rN))
     ·
      refine gExit <| eTexit <| eLeave <| eMid (fun aa ww h => h.sub [1, 5, 6, 3, 4, 1005, 1001] (sS rfl <| sS rfl <| sS rfl <| sS rfl <| sS rfl <| sS rfl <| sS rfl <| sN) (rR rfl rfl <| rR rfl rfl <| rR rfl rfl <| rR rfl rfl <| rR rfl rfl <| rR rfl rfl <| rR rfl rfl <| rN))
    ·
     refine gSR <| R rfl (ldV 6 rfl rfl .here sc68 rfl) <| R rfl (mv rfl) <| lBind fun x22 h23 => R rfl (ixO 5 rfl rfl rfl h23 Tryz.underlying68 ti4) <| Es (sto 5 rfl rfl (Foc.el h23) rfl ti4) <| gNil <| eThen <| gReg <| R rfl (mv rfl) <| R rfl (faB 1 rfl rfl Tryz.underlying25 rfl (by exact ti22)) <| R rfl (ld 1 rfl rfl ((Foc.here).part (pt_api_Graph_IDs _)) ty22 rfl) <| R rfl (mv rfl) <| lBind fun x24 h25 => R rfl (ixR rfl rfl h25 Tryz.underlying22 ti27 rfl) <| R rfl (ldR rfl ty27) <| Ef rfl (lit (R := (arrR 32 u8R)) ([x24] : List (Vector UInt8 32)) 1007 (pP rfl rfl <| pN) rfl Tryz.underlying22 ti27 rfl rfl) fun v26 => lFrz 1007 [42] rfl (fS rfl <| fN) <| lBind fun x27 h28 => Ef rfl (apn 1005 rfl rfl rfl .rd h28 Tryz.underlying22 ti27 rfl rfl rfl) fun v29 => R rfl (asg rfl) <| gNil <| eBlk <| eThen <| gReg <| R rfl (I.add rfl rfl) <| R rfl (mv rfl) <| gNil <| eNext (fun aa ww h => ⟨nvl [v29], h.sub [1, 5, 6, 3, 4, 1005, 1001] (sS rfl <| sS rfl <| sS rfl <| sS rfl <| sS rfl <| sS rfl <| sN) (rR rfl rfl <| rR rfl rfl <| rR rfl rfl <| rR rfl rfl <| rR rfl rfl <| rR rfl rfl <| rR rfl rfl <| rN)⟩)
   ·
    refine gExit <| eTexit <| eLeave <| eMid (fun aa ww h => ⟨nvl [(n14 0)], h.sub [1005, 1001] (sS rfl <| sN) (rR rfl rfl <| rR rfl rfl <| rN)⟩)
  ·
   refine gEx fun n30 => gSR <| R rfl (mv rfl) <| R rfl (asg rfl) <| R rfl (asg rfl) <| gNil <| eThen <| gRet <| eRet [(n30 0)] [1001, 1003] rfl (eE rfl <| eE rfl <| eN) (rR rfl rfl <| rR rfl rfl <| rN)
def ancestry_Depth_L2 (r6 : (List ((Vector UInt8 32) × Int))) (x18 : Vector UInt8 32) (x21 : api_Op) (s23 : (List Int) × Int) : Option (Sum ((List Int)) ((List Int) × Int)) :=
 if decide (s23.2 < (x21.Preds.length : Int)) then
  idx x21.Preds s23.2 >>= fun x25 =>
  idx s23.1 ((mget r6 x18).getD 0) >>= fun x28 =>
  idx s23.1 ((mget r6 x25).getD 0) >>= fun x30 =>
  idx s23.1 ((mget r6 x18).getD 0) >>= fun x32 =>
  some (.inr (s23.1.set ((mget r6 x18).getD 0 : Int).toNat (max x28 (w64 (x30 + 1))), w64 (s23.2 + 1)))
 else
  some (.inl s23.1)
def ancestry_Depth_L0 (a0 : api_Graph) (r6 : (List ((Vector UInt8 32) × Int))) (r8 : (List (Vector UInt8 32)) × Int) (s15 : (List Int) × Int) : Option (Sum ((List Int)) ((List Int) × Int)) :=
 if decide (s15.2 < (r8.1.length : Int)) then
  (idx r8.1 s15.2 >>= fun x18 =>
  idx a0.Ops ((mget r6 x18).getD 0) >>= fun x21 =>
  iter (ancestry_Depth_L2 r6 x18 x21) (s15.1, 0)) >>= fun s17 =>
  some (.inr (s17, w64 (s15.2 + 1)))
 else
  some (.inl s15.1)
def ancestry_Depth (a0 : api_Graph) (a1 : Vector UInt8 32) : Option (Int × Int) :=
 ancestry_look a0 a1 >>= fun r3 =>
 if r3.2 != 0 then
  some (0, r3.2)
 else
  ancestry_places a0 >>= fun r6 =>
  ancestry_Order a0 >>= fun r8 =>
  if r8.2 != 0 then
   some (0, r8.2)
  else
   mkn 8 0 (a0.IDs.length : Int) >>= fun x11 =>
   (iter (ancestry_Depth_L0 a0 r6 r8) (x11, 0)) >>= fun s14 =>
   idx s14 r3.1 >>= fun x36 =>
   some (x36, 0)
theorem ancestry_Depth_ok (a0 : api_Graph) (a1 : Vector UInt8 32) : Spec Tryz.prog 13 [.rd R_api_Graph a0, .rd (arrR 32 u8R) a1] [(1001, some ((.bool true), .glob 1 (arrR 64 u32R) gtab1))] (ancestry_Depth a0 a1) (fun r nv => ⟨[.rd i64R r.1, .rd i64R r.2], [(1001, some (.bool true, .glob 1 (arrR 64 u32R) gtab1))]⟩) := by
 refine spec 82 Tryz.func13 rfl rfl rfl fun H w => ?_
 refine gSR <| Eb rfl (bx 1 rfl) fun v1 => Eb rfl (bx 2 rfl) fun v2 => R rfl (asg rfl) <| R rfl (asg rfl) <| gNil <| eThen <| gSR <| R rfl (ld 1 rfl rfl Foc.here ty25 rfl) <| R rfl (ld 2 rfl rfl Foc.here ty27 rfl) <| call [1001] [] rfl Tryz.func25 rfl rfl (ancestry_look_ok _ _) (aQ rfl <| aQ rfl <| aN) (rR rfl rfl <| rN) fun r3 n4 => R rfl (mv rfl) <| R rfl (ext rfl rfl) <| R rfl (ext rfl rfl) <| R rfl (asg rfl) <| R rfl (asg rfl) <| gNil <| eThen <| gSeq <| gSR <| R rfl (mv rfl) <| R rfl (I.neq rfl rfl) <| gNil <| eThen <| gIf rfl rfl (fun h5 => ?_) (fun h5 => ?_)
 ·
  refine gSR <| R rfl (mv rfl) <| R rfl (asg rfl) <| R rfl (asg rfl) <| gNil <| eThen <| gRet <| eTret <| eRet [] [1001] rfl (eE rfl <| eE rfl <| eN) (rR rfl rfl <| rN)
 ·
  refine gSkip <| eThen <| gSR <| R rfl (ld 1 rfl rfl Foc.here ty25 rfl) <| call [] [(100, 3)] rfl Tryz.func32 rfl rfl (ancestry_places_ok _) (aQ rfl <| aN) rN fun r6 n7 => R rfl (asg rfl) <| gNil <| eThen <| gSR <| R rfl (ld 1 rfl rfl Foc.here ty25 rfl) <| call [1001] [(100, 4)] rfl Tryz.func19 rfl rfl (ancestry_Order_ok _) (aQ rfl <| aN) (rR rfl rfl <| rN) fun r8 n9 => R rfl (mv rfl) <| R rfl (ext rfl rfl) <| R rfl (ext rfl rfl) <| R rfl (asg rfl) <| R rfl (asg rfl) <| gNil <| eThen <| gSeq <| gSR <| R rfl (mv rfl) <| R rfl (I.neq rfl rfl) <| gNil <| eThen <| gIf rfl rfl (fun h10 => ?_) (fun h10 => ?_)
  ·
   refine gSR <| R rfl (mv rfl) <| R rfl (asg rfl) <| R rfl (asg rfl) <| gNil <| eThen <| gRet <| eTret <| eRet [] [1001] rfl (eE rfl <| eE rfl <| eN) (rR rfl rfl <| rN)
  ·
   refine gSkip <| eThen <| gSR <| R rfl (faB 1 rfl rfl Tryz.underlying25 rfl (by exact ti22)) <| R rfl (ld 1 rfl rfl ((Foc.here).part (pt_api_Graph_IDs _)) ty22 rfl) <| R rfl (len' rfl .rd rfl Tryz.underlying22) <| lBind fun x11 h12 => Ef rfl (mks (R := i64R) 5 rfl rfl h12 Tryz.underlying78 ti3 (Zr.num rfl) rfl) fun v13 => R rfl (asg rfl) <| gNil <| eThen <| gMid (fun (s14 : (List Int)) aa ww => Sta (ctx 82 H [(1001, some ((.bool true), .glob 1 (arrR 64 u32R) gtab1))] w) [(6, .rd i64R r3.1), (10, .val v13)] [(5, some (v13, .list i64R 3 s14)), (1001, some ((.bool true), .glob 1 (arrR 64 u32R) gtab1))] aa ww) ?_ (fun s14 => ?_)
   ·
    refine gSR <| R rfl (mv rfl) <| R rfl (len' rfl (.own 4 rfl) rfl Tryz.underlying22) <| R rfl (mv rfl) <| gNil <| eThen <| gLoop (fun (s15 : (List Int) × Int) aa ww => Sta (ctx 82 H [(1001, some ((.bool true), .glob 1 (arrR 64 u32R) gtab1))] w) [(2, .val (ptrTo v1 0)), (6, .rd i64R r3.1), (8, .val (n7 0)), (10, .val v13), (38, .val (n9 0)), (39, .rd i64R (r8.1.length : Int)), (40, .rd i64R s15.2)] [(1, some (v1, .box 25 [.rd R_api_Graph a0])), (3, some ((n7 0), .map (arrR 32 u8R) i64R r6)), (5, some (v13, .list i64R 3 s15.1)), (4, some ((n9 0), .list (arrR 32 u8R) 27 r8.1)), (1001, some ((.bool true), .glob 1 (arrR 64 u32R) gtab1))] aa ww) (fun aa ww h => h.sub [1, 3, 5, 4, 1001] (sS rfl <| sS rfl <| sS rfl <| sS rfl <| sS rfl <| sS rfl <| sS rfl <| sN) (rR rfl rfl <| rR rfl rfl <| rR rfl rfl <| rR rfl rfl <| rR rfl rfl <| rN)) (fun s15 => ?_)
    refine gSR <| R rfl (I.lss rfl rfl) <| gNil <| eThen <| gSeq <| gIf rfl rfl (fun h16 => ?_) (fun h16 => ?_)
    ·
     refine gSkip <| eThen <| gMid (fun (s17 : (List Int)) aa ww => Sta (ctx 82 H [(1001, some ((.bool true), .glob 1 (arrR 64 u32R) gtab1))] w) [(2, .val (ptrTo v1 0)), (6, .rd i64R r3.1), (8, .val (n7 0)), (10, .val v13), (38, .val (n9 0)), (39, .rd i64R (r8.1.length : Int)), (40, .rd i64R s15.2)] [(1, some (v1, .box 25 [.rd R_api_Graph a0])), (3, some ((n7 0), .map (arrR 32 u8R) i64R r6)), (5, some (v13, .list i64R 3 s17)), (4, some ((n9 0), .list (arrR 32 u8R) 27 r8.1)), (1001, some ((.bool true), .glob 1 (arrR 64 u32R) gtab1))] aa ww) ?_ (fun s17 => ?_)
     ·
      refine gBlk <| gSR <| lBind fun x18 h19 => R rfl (ixO 4 rfl rfl rfl h19 Tryz.underlying22 ti27) <| R rfl (ld 4 rfl rfl (Foc.el h19) ty27 rfl) <| Eb rfl (allc 1002 ti27 (.zr (R := (arrR 32 u8R)) (x := (Vector.replicate 32 0)) zr26)) fun v20 => Es (sto 1002 rfl rfl Foc.here rfl ti27) <| gNil <| eThen <| gSeq <| gRegQ mixed (by kernel_rfl) <| Rq rfl (faB 1 rfl rfl Tryz.underlying25 rfl (by exact ti23)) <| Rq rfl (ld 1 rfl rfl ((Foc.here).part (pt_api_Graph_Ops _)) ty23 rfl) <| Rq rfl (mv rfl) <| Rq rfl (ld 1002 rfl rfl Foc.here ty27 rfl) <| Rq rfl (mlk rfl (.own 3 rfl rfl) rfl ky27 Tryz.underlying74 ti3 (Zr.num rfl) rfl) <| qBind fun x21 h22 => Rq rfl (ixR rfl rfl h22 Tryz.underlying23 ti65 rfl) <| Rq rfl (faR rfl (pt_api_Op_Preds _) Tryz.underlying65 rfl rfl (by exact ti22)) <| Rq rfl (ldR rfl ty22) <| Rq rfl (len' rfl .rd rfl Tryz.underlying22) <| Rq rfl (mv rfl) <| qNil <| eThen <| gLoop (fun (s23 : (List Int) × Int) aa ww => Sta (ctx 82 H [(1001, some ((.bool true), .glob 1 (arrR 64 u32R) gtab1))] w) [(2, .val (ptrTo v1 0)), (6, .rd i64R r3.1), (8, .val (n7 0)), (10, .val v13), (12, .val (ptrTo v20 0)), (38, .val (n9 0)), (39, .rd i64R (r8.1.length : Int)), (40, .rd i64R s15.2), (51, .rd (sliceR (arrR 32 u8R)) x21.Preds), (52, .rd i64R (x21.Preds.length : Int)), (53, .rd i64R s23.2)] [(1, some (v1, .box 25 [.rd R_api_Graph a0])), (3, some ((n7 0), .map (arrR 32 u8R) i64R r6)), (5, some (v13, .list i64R 3 s23.1)), (1002, some (v20, .box 27 [.rd (arrR 32 u8R) x18])), (4, some ((n9 0), .list (arrR 32 u8R) 27 r8.1)), (1001, some ((.bool true), .glob 1 (arrR 64 u32R) gtab1))] aa ww) (fun aa ww h => h.sub [1, 3, 5, 1002, 4, 1001] (sS rfl <| sS rfl <| sS rfl <| sS rfl <| sS rfl <| sS rfl <| sS rfl <| sS rfl <| sS rfl <| sS rfl <| sS rfl <| sN) (rR rfl rfl <| rR rfl rfl <| rR rfl rfl <| rR rfl rfl <| rR rfl rfl <| rR rfl rfl <| rN)) (fun s23 => ?_)
      refine gSR <| R rfl (I.lss rfl rfl) <| gNil <| eThen <| gSeq <| gIf rfl rfl (fun h24 => ?_) (fun h24 => ?_)
      ·
       refine gSkip <| eThen <| gSeq <| gBlk <| gSR <| lBind fun x25 h26 => R rfl (ixR rfl rfl h26 Tryz.underlying22 ti27 rfl) <| R rfl (ldR rfl ty27) <| Eb rfl (allc 1003 ti27 (.zr (R := (arrR 32 u8R)) (x := (Vector.replicate 32 0)) zr26)) fun v27 => Es (sto 1003 rfl rfl Foc.here rfl ti27) <| gNil <| eThen <| gRegH [5] mixed rfl rfl <| hTk 0 rfl rfl (mv rfl) <| hTk 1 rfl rfl (mv rfl) <| hTk 2 rfl rfl (ld 1002 rfl rfl Foc.here ty27 rfl) <| hTk 3 rfl rfl (mlk rfl (.own 3 rfl rfl) rfl ky27 Tryz.underlying74 ti3 (Zr.num rfl) rfl) <| hTk 4 rfl rfl (mv rfl) <| hTk 5 rfl rfl (mv rfl) <| hTk 6 rfl rfl (ld 1002 rfl rfl Foc.here ty27 rfl) <| hTk 7 rfl rfl (mlk rfl (.own 3 rfl rfl) rfl ky27 Tryz.underlying74 ti3 (Zr.num rfl) rfl) <| hBind fun x28 h29 => hTk 8 rfl rfl (ixO 5 rfl rfl rfl h29 Tryz.underlying78 ti3) <| hTk 10 rfl rfl (mv rfl) <| hTk 11 rfl rfl (mv rfl) <| hTk 12 rfl rfl (ld 1003 rfl rfl Foc.here ty27 rfl) <| hTk 13 rfl rfl (mlk rfl (.own 3 rfl rfl) rfl ky27 Tryz.underlying74 ti3 (Zr.num rfl) rfl) <| hBind fun x30 h31 => hTk 14 rfl rfl (ixO 5 rfl rfl rfl h31 Tryz.underlying78 ti3) <| hAlt [9, 15] (by kernel_rfl) rfl ⟨?_, ?_, trivial⟩
       ·
        refine oRun 9 rfl (gd0 rfl) rfl rfl flat_num (ld 5 rfl rfl (Foc.el h29) ty3 rfl) <| hRun 15 rfl (by kernel_rfl) (gd0 rfl) rfl rfl flat_num (ld 5 rfl rfl (Foc.el h31) ty3 rfl) <| hTk 16 rfl rfl (I.add rfl rfl) <| hTk 17 rfl rfl (I.max rfl rfl) <| hBind fun x32 h33 => hTk 18 rfl rfl (ixO 5 rfl rfl rfl h33 Tryz.underlying78 ti3) <| hDoS 19 rfl (by kernel_rfl) (gd0 rfl) rfl rfl rfl rfl (sto 5 rfl rfl (Foc.el h33) rfl ti3) <| hDone (by kernel_rfl) <| eBlk <| eThen <| gReg <| R rfl (I.add rfl rfl) <| R rfl (mv rfl) <| gNil <| eNext (fun aa ww h => h.sub [1, 3, 5, 1002, 4, 1001] (sS rfl <| sS rfl <| sS rfl <| sS rfl <| sS rfl <| sS rfl <| sS rfl <| sS rfl <| sS rfl <| sS rfl <| sS rfl <| sN) (rR rfl rfl <| rR rfl rfl <| rR rfl rfl <| rR rfl rfl <| rR rfl rfl <| rR rfl rfl <| rN))
       ·
        refine oRun 15 rfl (gd0 rfl) rfl rfl flat_num (ld 5 rfl rfl (Foc.el h31) ty3 rfl) <| hTk 16 rfl rfl (I.add rfl rfl) <| hRun 9 rfl (by kernel_rfl) (gd0 rfl) rfl rfl flat_num (ld 5 rfl rfl (Foc.el h29) ty3 rfl) <| hTk 17 rfl rfl (I.max rfl rfl) <| hBind fun x34 h35 => hTk 18 rfl rfl (ixO 5 rfl rfl rfl h35 Tryz.underlying78 ti3) <| hDoS 19 rfl (by kernel_rfl) (gd0 rfl) rfl rfl rfl rfl (sto 5 rfl rfl (Foc.el h35) rfl ti3) <| hDone (by kernel_rfl) <| eBlk <| eThen <| gReg <| R rfl (I.add rfl rfl) <| R rfl (mv rfl) <| gNil <| eNext (fun aa ww h => h.sub [1, 3, 5, 1002, 4, 1001] (sS rfl <| sS rfl <| sS rfl <| sS rfl <| sS rfl <| sS rfl <| sS rfl <| sS rfl <| sS rfl <| sS rfl <| sS rfl <| sN) (rR rfl rfl <| rR rfl rfl <| rR rfl rfl <| rR rfl rfl <| rR rfl rfl <| rR rfl rfl <| rN))
      ·
       refine gExit <| eTexit <| eLeave <| eBlk <| eMid (fun aa ww h => h.sub [1, 3, 5, 4, 1001] (sS rfl <| sS rfl <| sS rfl <| sS rfl <| sS rfl <| sS rfl <| sS rfl <| sN) (rR rfl rfl <| rR rfl rfl <| rR rfl rfl <| rR rfl rfl <| rR rfl rfl <| rN))
     ·
      refine gReg <| R rfl (I.add rfl rfl) <| R rfl (mv rfl) <| gNil <| eNext (fun aa ww h => h.sub [1, 3, 5, 4, 1001] (sS rfl <| sS rfl <| sS rfl <| sS rfl <| sS rfl <| sS rfl <| sS rfl <| sN) (rR rfl rfl <| rR rfl rfl <| rR rfl rfl <| rR rfl rfl <| rR rfl rfl <| rN))
    ·
     refine gExit <| eTexit <| eLeave <| eMid (fun aa ww h => h.sub [5, 1001] (sS rfl <| sS rfl <| sN) (rR rfl rfl <| rR rfl rfl <| rN))
   ·
    refine gSR <| R rfl (mv rfl) <| R rfl (mv rfl) <| lBind fun x36 h37 => R rfl (ixO 5 rfl rfl rfl h37 Tryz.underlying78 ti3) <| R rfl (ld 5 rfl rfl (Foc.el h37) ty3 rfl) <| R rfl (asg rfl) <| R rfl (asg rfl) <| gNil <| eThen <| gRet <| eRet [] [1001] rfl (eE rfl <| eE rfl <| eN) (rR rfl rfl <| rN)
def braidref10_Deep_L2 (a0 : api_Graph) (s4 : (List (Vector UInt8 32)) × Int) (s7 : (List (Vector UInt8 32)) × Int) : Option (Sum ((List (Vector UInt8 32))) ((List (Vector UInt8 32)) × Int)) :=
 if decide (s7.2 < (s4.1.length : Int)) then
  idx s4.1 s7.2 >>= fun x10 =>
  braidref10_preds a0 x10 >>= fun r12 =>
  app 32 s7.1 r12 >>= fun x14 =>
  some (w64 (s7.2 + 1)) >>= fun y17 =>
  some (.inr (x14, y17))
 else
  some (.inl s7.1)
def braidref10_Deep_L0 (a0 : api_Graph) (s4 : (List (Vector UInt8 32)) × Int) : Option (Sum Int ((List (Vector UInt8 32)) × Int)) :=
 (iter (braidref10_Deep_L2 a0 s4) ([], 0)) >>= fun s6 =>
 if (s6.length : Int) == 0 then
  some (.inl s4.2)
 else
  braidref10_Sorted s6 >>= fun r20 =>
  some (w64 (s4.2 + 1)) >>= fun y22 =>
  some (.inr (r20, y22))
def braidref10_Deep (a0 : api_Graph) (a1 : Vector UInt8 32) : Option (Int) :=
 iter (braidref10_Deep_L0 a0) ([a1], 0)
theorem braidref10_Deep_ok (a0 : api_Graph) (a1 : Vector UInt8 32) : Spec Tryz.prog 35 [.rd R_api_Graph a0, .rd (arrR 32 u8R) a1] [] (braidref10_Deep a0 a1) (fun r nv => ⟨[.rd i64R r], []⟩) := by
 refine spec 33 Tryz.func35 rfl rfl rfl fun H w => ?_
 refine gSR <| Eb rfl (bx 1 rfl) fun v1 => Eb rfl (bx 2 rfl) fun v2 => R rfl (asg rfl) <| gNil <| eThen <| gSR <| R rfl (ld 2 rfl rfl Foc.here ty27 rfl) <| Ef rfl (lit (R := (arrR 32 u8R)) ([a1] : List (Vector UInt8 32)) 3 (pP rfl rfl <| pN) rfl Tryz.underlying22 ti27 rfl rfl) fun v3 => R rfl (asg rfl) <| gNil <| eThen <| gSR <| R rfl (asg rfl) <| gNil <| eThen <| gLoop (fun (s4 : (List (Vector UInt8 32)) × Int) aa ww => ∃ nv : Nat → Value, Sta (ctx 33 H [] w) [(2, .val (ptrTo v1 0)), (5, .val (nv 0)), (6, .rd i64R s4.2)] [(1, some (v1, .box 25 [.rd R_api_Graph a0])), (3, some ((nv 0), .list (arrR 32 u8R) 27 s4.1))] aa ww) (fun aa ww h => ⟨nvl [v3], h.sub [1, 3] (sS rfl <| sS rfl <| sS rfl <| sN) (rR rfl rfl <| rR rfl rfl <| rN)⟩) (fun s4 => ?_)
 refine gEx fun n5 => gBlk <| gSR <| R rfl (asg rfl) <| gNil <| eThen <| gMid (fun (s6 : (List (Vector UInt8 32))) aa ww => ∃ nv : Nat → Value, Sta (ctx 33 H [] w) [(2, .val (ptrTo v1 0)), (6, .rd i64R s4.2), (7, .val (nv 0))] [(1, some (v1, .box 25 [.rd R_api_Graph a0])), (25, some ((nv 0), .list (arrR 32 u8R) 27 s6))] aa ww) ?_ (fun s6 => ?_)
 ·
  refine gSR <| R rfl (asg rfl) <| gNil <| eThen <| gNew (arrR 32 u8R) 27 48 <| gLoop (fun (s7 : (List (Vector UInt8 32)) × Int) aa ww => ∃ nv : Nat → Value, Sta (ctx 33 H [] w) [(2, .val (ptrTo v1 0)), (5, .val (n5 0)), (6, .rd i64R s4.2), (7, .val (nv 0)), (8, .rd i64R s7.2)] [(1, some (v1, .box 25 [.rd R_api_Graph a0])), (3, some ((n5 0), .list (arrR 32 u8R) 27 s4.1)), (47, some ((nv 0), .list (arrR 32 u8R) 27 s7.1))] aa ww) (fun aa ww h => ⟨nvl [(.slice none 0 0)], h.sub [1, 3, 48] (sS rfl <| sS rfl <| sS rfl <| sS rfl <| sS rfl <| sN) (rR rfl rfl <| rR rfl rfl <| rR rfl rfl <| rN)⟩) (fun s7 => ?_)
  refine gEx fun n8 => gSeq <| gSR <| R rfl (mv rfl) <| R rfl (mv rfl) <| R rfl (len' rfl (.own 3 rfl) rfl Tryz.underlying22) <| R rfl (I.lss rfl rfl) <| gNil <| eThen <| gIf rfl rfl (fun h9 => ?_) (fun h9 => ?_)
  ·
   refine gSkip <| eThen <| gSeq <| gBlk <| gRegH [47] mixed rfl rfl <| hTk 0 rfl rfl (mv rfl) <| hTk 1 rfl rfl (ld 1 rfl rfl Foc.here ty25 rfl) <| hTk 2 rfl rfl (mv rfl) <| hTk 3 rfl rfl (mv rfl) <| hBind fun x10 h11 => hTk 4 rfl rfl (ixO 3 rfl rfl rfl h11 Tryz.underlying22 ti27) <| hTk 5 rfl rfl (ld 3 rfl rfl (Foc.el h11) ty27 rfl) <| hCallJ 6 [] [] rfl (by kernel_rfl) rfl (gd0 rfl) rfl Tryz.func52 rfl rfl (braidref10_preds_ok _ _) (aQ rfl <| aQ rfl <| aN) rN rfl fun r12 n13 => hBind fun x14 h15 => hDo 7 rfl (by kernel_rfl) (gd0 rfl) rfl rfl rfl (apn 47 rfl rfl rfl .rd h15 Tryz.underlying22 ti27 rfl rfl rfl) (fun _ => rfl) fun v16 => hTakeF 8 rfl (by kernel_rfl) (by kernel_rfl) (by kernel_rfl) (gd0 rfl) rfl rfl flat_val (asg rfl) <| hDone (by kernel_rfl) <| eBlk <| eThen <| gReg <| R rfl (mv rfl) <| R rfl (I.add rfl rfl) <| R rfl (asg rfl) <| lName 8 rfl fun y17 => gNil <| eNext (fun aa ww h => ⟨nvl [v16], h.sub [1, 3, 47] (sS rfl <| sS rfl <| sS rfl <| sS rfl <| sS rfl <| sN) (rR rfl rfl <| rR rfl rfl <| rR rfl rfl <| rN)⟩)
  ·
   refine gExit <| eTexit <| eLeave <| eMid (fun aa ww h => ⟨nvl [(n8 0)], h.sub [1, 47] (sS rfl <| sS rfl <| sS rfl <| sN) (rR rfl rfl <| rR rfl rfl <| rN)⟩)
 ·
  refine gEx fun n18 => gSeq <| gSR <| R rfl (mv rfl) <| R rfl (len' rfl (.own 25 rfl) rfl Tryz.underlying22) <| R rfl (I.eql rfl rfl) <| gNil <| eThen <| gIf rfl rfl (fun h19 => ?_) (fun h19 => ?_)
  ·
   refine gSR <| R rfl (mv rfl) <| R rfl (asg rfl) <| gNil <| eThen <| gRet <| eTret <| eBret <| eLret <| eRet [] [] rfl (eE rfl <| eN) (rN)
  ·
   refine gSkip <| eThen <| gSR <| R rfl (mv rfl) <| lFrz 25 [7, 25, 29] rfl (fS rfl <| fS rfl <| fS rfl <| fN) <| call [] [(100, 79)] rfl Tryz.func53 rfl rfl (braidref10_Sorted_ok _) (aQ rfl <| aN) rN fun r20 n21 => R rfl (asg rfl) <| gNil <| eThen <| gReg <| R rfl (mv rfl) <| R rfl (I.add rfl rfl) <| R rfl (asg rfl) <| lName 6 rfl fun y22 => gNil <| eBlk <| eNext (fun aa ww h => ⟨nvl [(n21 0)], h.sub [1, 79] (sS rfl <| sS rfl <| sS rfl <| sN) (rR rfl rfl <| rR rfl rfl <| rN)⟩)
def braidref10_Depth (a0 : api_Graph) (a1 : Vector UInt8 32) : Option (Int × Int) :=
 braidref10_asked a0 [a1] >>= fun r4 =>
 if r4 != 0 then
  some (0, r4)
 else
  braidref10_Deep a0 a1 >>= fun r7 =>
  some (r7, 0)
theorem braidref10_Depth_ok (a0 : api_Graph) (a1 : Vector UInt8 32) : Spec Tryz.prog 14 [.rd R_api_Graph a0, .rd (arrR 32 u8R) a1] [] (braidref10_Depth a0 a1) (fun r nv => ⟨[.rd i64R r.1, .rd i64R r.2], []⟩) := by
 refine spec 17 Tryz.func14 rfl rfl rfl fun H w => ?_
 refine gSR <| Eb rfl (bx 1 rfl) fun v1 => Eb rfl (bx 2 rfl) fun v2 => R rfl (asg rfl) <| R rfl (asg rfl) <| gNil <| eThen <| gSeq <| gSR <| R rfl (ld 1 rfl rfl Foc.here ty25 rfl) <| R rfl (ld 2 rfl rfl Foc.here ty27 rfl) <| Ef rfl (lit (R := (arrR 32 u8R)) ([a1] : List (Vector UInt8 32)) 3 (pP rfl rfl <| pN) rfl Tryz.underlying22 ti27 rfl rfl) fun v3 => lFrz 3 [9] rfl (fS rfl <| fN) <| call [] [] rfl Tryz.func28 rfl rfl (braidref10_asked_ok _ _) (aQ rfl <| aQ rfl <| aN) rN fun r4 n5 => R rfl (asg rfl) <| gNil <| eThen <| gSR <| R rfl (mv rfl) <| R rfl (I.neq rfl rfl) <| gNil <| eThen <| gIf rfl rfl (fun h6 => ?_) (fun h6 => ?_)
 ·
  refine gSR <| R rfl (mv rfl) <| R rfl (asg rfl) <| R rfl (asg rfl) <| gNil <| eThen <| gRet <| eTret <| eRet [] [] rfl (eE rfl <| eE rfl <| eN) (rN)
 ·
  refine gSkip <| eThen <| gSR <| R rfl (ld 1 rfl rfl Foc.here ty25 rfl) <| R rfl (ld 2 rfl rfl Foc.here ty27 rfl) <| call [] [] rfl Tryz.func35 rfl rfl (braidref10_Deep_ok _ _) (aQ rfl <| aQ rfl <| aN) rN fun r7 n8 => R rfl (asg rfl) <| R rfl (asg rfl) <| gNil <| eThen <| gRet <| eRet [] [] rfl (eE rfl <| eE rfl <| eN) (rN)
def braidref04_SameIDs_L0 (a0 : List (Vector UInt8 32)) (a1 : List (Vector UInt8 32)) (s3 : Int) : Option (Sum (Sum Bool Unit) Int) :=
 if decide (s3 < (a0.length : Int)) then
  idx a0 s3 >>= fun x5 =>
  idx a1 s3 >>= fun x7 =>
  if !decide (x5 = x7) then
   some (.inl (.inl false))
  else
   some (.inr (w64 (s3 + 1)))
 else
  some (.inl (.inr ()))
def braidref04_SameIDs (a0 : List (Vector UInt8 32)) (a1 : List (Vector UInt8 32)) : Option (Bool) :=
 if (a0.length : Int) != (a1.length : Int) then
  some false
 else
  orRet (iter (braidref04_SameIDs_L0 a0 a1) 0) fun s2 =>
  some true
theorem braidref04_SameIDs_ok (a0 : List (Vector UInt8 32)) (a1 : List (Vector UInt8 32)) : Spec Tryz.prog 15 [.rd (sliceR (arrR 32 u8R)) a0, .rd (sliceR (arrR 32 u8R)) a1] [] (braidref04_SameIDs a0 a1) (fun r nv => ⟨[.rd boolR r], []⟩) := by
 refine spec 26 Tryz.func15 rfl rfl rfl fun H w => ?_
 refine gSR <| R rfl (asg rfl) <| gNil <| eThen <| gSeq <| gSR <| R rfl (mv rfl) <| R rfl (len' rfl .rd rfl Tryz.underlying22) <| R rfl (mv rfl) <| R rfl (len' rfl .rd rfl Tryz.underlying22) <| R rfl (I.neq rfl rfl) <| gNil <| eThen <| gIf rfl rfl (fun h1 => ?_) (fun h1 => ?_)
 ·
  refine gSR <| R rfl (asg rfl) <| gNil <| eThen <| gRet <| eTret <| eRet [] [] rfl (eE rfl <| eN) (rN)
 ·
  refine gSkip <| eThen <| gMidR (fun (s2 : Unit) aa ww => Sta (ctx 26 H [] w) [] [] aa ww) ?_ (fun s2 => ?_)
  ·
   refine gSR <| R rfl (asg rfl) <| gNil <| eThen <| gLoop (fun (s3 : Int) aa ww => Sta (ctx 26 H [] w) [(0, .rd (sliceR (arrR 32 u8R)) a0), (1, .rd (sliceR (arrR 32 u8R)) a1), (5, .rd i64R s3)] [] aa ww) (fun aa ww h => h.sub [] (sS rfl <| sS rfl <| sS rfl <| sN) (rN)) (fun s3 => ?_)
   refine gSeq <| gSR <| R rfl (mv rfl) <| R rfl (mv rfl) <| R rfl (len' rfl .rd rfl Tryz.underlying22) <| R rfl (I.lss rfl rfl) <| gNil <| eThen <| gIf rfl rfl (fun h4 => ?_) (fun h4 => ?_)
   ·
    refine gSkip <| eThen <| gSeq <| gBlk <| gSeq <| gRegQ mixed (by kernel_rfl) <| Rq rfl (mv rfl) <| Rq rfl (mv rfl) <| qBind fun x5 h6 => Rq rfl (ixR rfl rfl h6 Tryz.underlying22 ti27 rfl) <| Rq rfl (ldR rfl ty27) <| Rq rfl (mv rfl) <| Rq rfl (mv rfl) <| qBind fun x7 h8 => Rq rfl (ixR rfl rfl h8 Tryz.underlying22 ti27 rfl) <| Rq rfl (ldR rfl ty27) <| Rq rfl (neA rfl rfl eq27 rfl rfl gq27) <| qNil <| eThen <| gIf rfl rfl (fun h9 => ?_) (fun h9 => ?_)
    ·
     refine gSR <| R rfl (asg rfl) <| gNil <| eThen <| gRet <| eBret <| eTret <| eLret <| eMret <| eRet [] [] rfl (eE rfl <| eN) (rN)
    ·
     refine gSkip <| eBlk <| eThen <| gReg <| R rfl (mv rfl) <| R rfl (I.add rfl rfl) <| R rfl (asg rfl) <| gNil <| eNext (fun aa ww h => h.sub [] (sS rfl <| sS rfl <| sS rfl <| sN) (rN))
   ·
    refine gExit <| eTexit <| eLeave <| eMidR (fun aa ww h => h.sub [] (sN) (rN))
  ·
   refine gSR <| R rfl (asg rfl) <| gNil <| eThen <| gRet <| eRet [] [] rfl (eE rfl <| eN) (rN)
def braidref06_Same (a0 : api_Op) (a1 : api_Op) : Option (Bool) :=
 if a0.Author == a1.Author then
  braidref04_SameIDs a0.Preds a1.Preds >>= fun r4 =>
  if r4 then
   if a0.Stamp == a1.Stamp then
    if decide (a0.Act = a1.Act) then
     some (decide (a0.Sig = a1.Sig)) >>= fun y9 =>
     some y9
    else
     some false
   else
    some false
  else
   some false
 else
  some false
theorem braidref06_Same_ok (a0 : api_Op) (a1 : api_Op) : Spec Tryz.prog 36 [.rd R_api_Op a0, .rd R_api_Op a1] [] (braidref06_Same a0 a1) (fun r nv => ⟨[.rd boolR r], []⟩) := by
 refine spec 38 Tryz.func36 rfl rfl rfl fun H w => ?_
 refine gSR <| Eb rfl (bx 1 rfl) fun v1 => Eb rfl (bx 2 rfl) fun v2 => R rfl (asg rfl) <| gNil <| eThen <| gSR <| R rfl (faB 1 rfl rfl Tryz.underlying65 rfl (by exact ti56)) <| R rfl (ld 1 rfl rfl ((Foc.here).part (pt_api_Op_Author _)) ty56 rfl) <| R rfl (faB 2 rfl rfl Tryz.underlying65 rfl (by exact ti56)) <| R rfl (ld 2 rfl rfl ((Foc.here).part (pt_api_Op_Author _)) ty56 rfl) <| R rfl (W.eql rfl rfl) <| R rfl (mv rfl) <| lSplit 10 rfl (fun h3 => ?_) (fun h3 => ?_)
 ·
  refine lKn 9 rfl h3 <| lRun (gd rfl rfl rfl rfl) rfl rfl (faB 1 rfl rfl Tryz.underlying65 rfl (by exact ti22)) <| lRun (gd rfl rfl rfl rfl) rfl rfl (ld 1 rfl rfl ((Foc.here).part (pt_api_Op_Preds _)) ty22 rfl) <| lRun (gd rfl rfl rfl rfl) rfl rfl (faB 2 rfl rfl Tryz.underlying65 rfl (by exact ti22)) <| lRun (gd rfl rfl rfl rfl) rfl rfl (ld 2 rfl rfl ((Foc.here).part (pt_api_Op_Preds _)) ty22 rfl) <| callg [] [] (gd rfl rfl rfl rfl) rfl Tryz.func15 rfl rfl (braidref04_SameIDs_ok _ _) (aQ rfl <| aQ rfl <| aN) rN fun r4 n5 => R rfl (pkT rfl rfl) <| R rfl (mv rfl) <| lSplit 17 rfl (fun h6 => ?_) (fun h6 => ?_)
  ·
   refine lKn 15 rfl h6 <| lKn 16 rfl h6 <| lRun (gd rfl rfl rfl rfl) rfl rfl (faB 1 rfl rfl Tryz.underlying65 rfl (by exact ti57)) <| lRun (gd rfl rfl rfl rfl) rfl rfl (ld 1 rfl rfl ((Foc.here).part (pt_api_Op_Stamp _)) ty57 rfl) <| lRun (gd rfl rfl rfl rfl) rfl rfl (faB 2 rfl rfl Tryz.underlying65 rfl (by exact ti57)) <| lRun (gd rfl rfl rfl rfl) rfl rfl (ld 2 rfl rfl ((Foc.here).part (pt_api_Op_Stamp _)) ty57 rfl) <| lRun (gd rfl rfl rfl rfl) rfl rfl (U.eql rfl rfl) <| R rfl (pkT rfl rfl) <| R rfl (mv rfl) <| lSplit 24 rfl (fun h7 => ?_) (fun h7 => ?_)
   ·
    refine lKn 22 rfl h7 <| lKn 23 rfl h7 <| lRun (gd rfl rfl rfl rfl) rfl rfl (faB 1 rfl rfl Tryz.underlying65 rfl (by exact ti61)) <| lRun (gd rfl rfl rfl rfl) rfl rfl (ld 1 rfl rfl ((Foc.here).part (pt_api_Op_Act _)) ty61 rfl) <| lRun (gd rfl rfl rfl rfl) rfl rfl (faB 2 rfl rfl Tryz.underlying65 rfl (by exact ti61)) <| lRun (gd rfl rfl rfl rfl) rfl rfl (ld 2 rfl rfl ((Foc.here).part (pt_api_Op_Act _)) ty61 rfl) <| lRun (gd rfl rfl rfl rfl) rfl rfl (eqA rfl rfl eq61 rfl rfl gq61) <| R rfl (pkT rfl rfl) <| R rfl (mv rfl) <| lSplit 31 rfl (fun h8 => ?_) (fun h8 => ?_)
    ·
     refine lKn 29 rfl h8 <| lKn 30 rfl h8 <| lRun (gd rfl rfl rfl rfl) rfl rfl (faB 1 rfl rfl Tryz.underlying65 rfl (by exact ti63)) <| lRun (gd rfl rfl rfl rfl) rfl rfl (ld 1 rfl rfl ((Foc.here).part (pt_api_Op_Sig _)) ty63 rfl) <| lRun (gd rfl rfl rfl rfl) rfl rfl (faB 2 rfl rfl Tryz.underlying65 rfl (by exact ti63)) <| lRun (gd rfl rfl rfl rfl) rfl rfl (ld 2 rfl rfl ((Foc.here).part (pt_api_Op_Sig _)) ty63 rfl) <| lRun (gd rfl rfl rfl rfl) rfl rfl (eqA rfl rfl eq63 rfl rfl gq63) <| R rfl (pkT rfl rfl) <| R rfl (asg rfl) <| lName 4 rfl fun y9 => gNil <| eThen <| gRet <| eRet [] [] rfl (eE rfl <| eN) (rN)
    ·
     refine lKn 29 rfl h8 <| lKn 30 rfl h8 <| lSkip (gd rfl rfl rfl rfl) rfl rfl <| lSkip (gd rfl rfl rfl rfl) rfl rfl <| lSkip (gd rfl rfl rfl rfl) rfl rfl <| lSkip (gd rfl rfl rfl rfl) rfl rfl <| lSkip (gd rfl rfl rfl rfl) rfl rfl <| R rfl (pkF rfl rfl) <| R rfl (asg rfl) <| gNil <| eThen <| gRet <| eRet [] [] rfl (eE rfl <| eN) (rN)
   ·
    refine lKn 22 rfl h7 <| lKn 23 rfl h7 <| lSkip (gd rfl rfl rfl rfl) rfl rfl <| lSkip (gd rfl rfl rfl rfl) rfl rfl <| lSkip (gd rfl rfl rfl rfl) rfl rfl <| lSkip (gd rfl rfl rfl rfl) rfl rfl <| lSkip (gd rfl rfl rfl rfl) rfl rfl <| R rfl (pkF rfl rfl) <| R rfl (mv rfl) <| lSkip (gd rfl rfl rfl rfl) rfl rfl <| lSkip (gd rfl rfl rfl rfl) rfl rfl <| lSkip (gd rfl rfl rfl rfl) rfl rfl <| lSkip (gd rfl rfl rfl rfl) rfl rfl <| lSkip (gd rfl rfl rfl rfl) rfl rfl <| R rfl (pkF rfl rfl) <| R rfl (asg rfl) <| gNil <| eThen <| gRet <| eRet [] [] rfl (eE rfl <| eN) (rN)
  ·
   refine lKn 15 rfl h6 <| lKn 16 rfl h6 <| lSkip (gd rfl rfl rfl rfl) rfl rfl <| lSkip (gd rfl rfl rfl rfl) rfl rfl <| lSkip (gd rfl rfl rfl rfl) rfl rfl <| lSkip (gd rfl rfl rfl rfl) rfl rfl <| lSkip (gd rfl rfl rfl rfl) rfl rfl <| R rfl (pkF rfl rfl) <| R rfl (mv rfl) <| lSkip (gd rfl rfl rfl rfl) rfl rfl <| lSkip (gd rfl rfl rfl rfl) rfl rfl <| lSkip (gd rfl rfl rfl rfl) rfl rfl <| lSkip (gd rfl rfl rfl rfl) rfl rfl <| lSkip (gd rfl rfl rfl rfl) rfl rfl <| R rfl (pkF rfl rfl) <| R rfl (mv rfl) <| lSkip (gd rfl rfl rfl rfl) rfl rfl <| lSkip (gd rfl rfl rfl rfl) rfl rfl <| lSkip (gd rfl rfl rfl rfl) rfl rfl <| lSkip (gd rfl rfl rfl rfl) rfl rfl <| lSkip (gd rfl rfl rfl rfl) rfl rfl <| R rfl (pkF rfl rfl) <| R rfl (asg rfl) <| gNil <| eThen <| gRet <| eRet [] [] rfl (eE rfl <| eN) (rN)
 ·
  refine lKn 9 rfl h3 <| lSkip (gd rfl rfl rfl rfl) rfl rfl <| lSkip (gd rfl rfl rfl rfl) rfl rfl <| lSkip (gd rfl rfl rfl rfl) rfl rfl <| lSkip (gd rfl rfl rfl rfl) rfl rfl <| lSkip (gd rfl rfl rfl rfl) rfl rfl <| R rfl (pkF rfl rfl) <| R rfl (mv rfl) <| lSkip (gd rfl rfl rfl rfl) rfl rfl <| lSkip (gd rfl rfl rfl rfl) rfl rfl <| lSkip (gd rfl rfl rfl rfl) rfl rfl <| lSkip (gd rfl rfl rfl rfl) rfl rfl <| lSkip (gd rfl rfl rfl rfl) rfl rfl <| R rfl (pkF rfl rfl) <| R rfl (mv rfl) <| lSkip (gd rfl rfl rfl rfl) rfl rfl <| lSkip (gd rfl rfl rfl rfl) rfl rfl <| lSkip (gd rfl rfl rfl rfl) rfl rfl <| lSkip (gd rfl rfl rfl rfl) rfl rfl <| lSkip (gd rfl rfl rfl rfl) rfl rfl <| R rfl (pkF rfl rfl) <| R rfl (mv rfl) <| lSkip (gd rfl rfl rfl rfl) rfl rfl <| lSkip (gd rfl rfl rfl rfl) rfl rfl <| lSkip (gd rfl rfl rfl rfl) rfl rfl <| lSkip (gd rfl rfl rfl rfl) rfl rfl <| lSkip (gd rfl rfl rfl rfl) rfl rfl <| R rfl (pkF rfl rfl) <| R rfl (asg rfl) <| gNil <| eThen <| gRet <| eRet [] [] rfl (eE rfl <| eN) (rN)
def braidref09_Same_L0 (a0 : api_Graph) (a1 : api_Graph) (s8 : Int) : Option (Sum (Sum Bool Unit) Int) :=
 if decide (s8 < (a0.Ops.length : Int)) then
  idx a0.Ops s8 >>= fun x10 =>
  idx a1.Ops s8 >>= fun x12 =>
  braidref06_Same x10 x12 >>= fun r14 =>
  if !r14 then
   some (.inl (.inl false))
  else
   some (.inr (w64 (s8 + 1)))
 else
  some (.inl (.inr ()))
def braidref09_Same (a0 : api_Graph) (a1 : api_Graph) : Option (Bool) :=
 braidref04_SameIDs a0.IDs a1.IDs >>= fun r3 =>
 if !r3 then
  some false
 else
  if (a0.Ops.length : Int) != (a1.Ops.length : Int) then
   some false
  else
   orRet (iter (braidref09_Same_L0 a0 a1) 0) fun s7 =>
   some true
theorem braidref09_Same_ok (a0 : api_Graph) (a1 : api_Graph) : Spec Tryz.prog 16 [.rd R_api_Graph a0, .rd R_api_Graph a1] [] (braidref09_Same a0 a1) (fun r nv => ⟨[.rd boolR r], []⟩) := by
 refine spec 40 Tryz.func16 rfl rfl rfl fun H w => ?_
 refine gSR <| Eb rfl (bx 1 rfl) fun v1 => Eb rfl (bx 2 rfl) fun v2 => R rfl (asg rfl) <| gNil <| eThen <| gSeq <| gSR <| R rfl (faB 1 rfl rfl Tryz.underlying25 rfl (by exact ti22)) <| R rfl (ld 1 rfl rfl ((Foc.here).part (pt_api_Graph_IDs _)) ty22 rfl) <| R rfl (faB 2 rfl rfl Tryz.underlying25 rfl (by exact ti22)) <| R rfl (ld 2 rfl rfl ((Foc.here).part (pt_api_Graph_IDs _)) ty22 rfl) <| call [] [] rfl Tryz.func15 rfl rfl (braidref04_SameIDs_ok _ _) (aQ rfl <| aQ rfl <| aN) rN fun r3 n4 => R rfl (not' rfl) <| R rfl (mv rfl) <| lSplit 12 rfl (fun h5 => ?_) (fun h5 => ?_)
 ·
  refine lKn 11 rfl h5 <| lSkip (gd rfl rfl rfl rfl) rfl rfl <| lSkip (gd rfl rfl rfl rfl) rfl rfl <| lSkip (gd rfl rfl rfl rfl) rfl rfl <| lSkip (gd rfl rfl rfl rfl) rfl rfl <| lSkip (gd rfl rfl rfl rfl) rfl rfl <| lSkip (gd rfl rfl rfl rfl) rfl rfl <| lSkip (gd rfl rfl rfl rfl) rfl rfl <| R rfl (pkT rfl rfl) <| gNil <| eThen <| gTrue rfl <| gSR <| R rfl (asg rfl) <| gNil <| eThen <| gRet <| eTret <| eRet [] [] rfl (eE rfl <| eN) (rN)
 ·
  refine lKn 11 rfl h5 <| lRun (gd rfl rfl rfl rfl) rfl rfl (faB 1 rfl rfl Tryz.underlying25 rfl (by exact ti23)) <| lRun (gd rfl rfl rfl rfl) rfl rfl (ld 1 rfl rfl ((Foc.here).part (pt_api_Graph_Ops _)) ty23 rfl) <| lRun (gd rfl rfl rfl rfl) rfl rfl (len' rfl .rd rfl Tryz.underlying23) <| lRun (gd rfl rfl rfl rfl) rfl rfl (faB 2 rfl rfl Tryz.underlying25 rfl (by exact ti23)) <| lRun (gd rfl rfl rfl rfl) rfl rfl (ld 2 rfl rfl ((Foc.here).part (pt_api_Graph_Ops _)) ty23 rfl) <| lRun (gd rfl rfl rfl rfl) rfl rfl (len' rfl .rd rfl Tryz.underlying23) <| lRun (gd rfl rfl rfl rfl) rfl rfl (I.neq rfl rfl) <| R rfl (pkF rfl rfl) <| gNil <| eThen <| gIf rfl rfl (fun h6 => ?_) (fun h6 => ?_)
  ·
   refine gKn 19 rfl h6 <| gSR <| R rfl (asg rfl) <| gNil <| eThen <| gRet <| eTret <| eRet [] [] rfl (eE rfl <| eN) (rN)
  ·
   refine gKn 19 rfl h6 <| gSkip <| eThen <| gMidR (fun (s7 : Unit) aa ww => Sta (ctx 40 H [] w) [] [] aa ww) ?_ (fun s7 => ?_)
   ·
    refine gSR <| R rfl (asg rfl) <| gNil <| eThen <| gLoop (fun (s8 : Int) aa ww => Sta (ctx 40 H [] w) [(2, .val (ptrTo v1 0)), (3, .val (ptrTo v2 0)), (5, .rd i64R s8)] [(1, some (v1, .box 25 [.rd R_api_Graph a0])), (2, some (v2, .box 25 [.rd R_api_Graph a1]))] aa ww) (fun aa ww h => h.sub [1, 2] (sS rfl <| sS rfl <| sS rfl <| sN) (rR rfl rfl <| rR rfl rfl <| rN)) (fun s8 => ?_)
    refine gSeq <| gSR <| R rfl (mv rfl) <| R rfl (faB 1 rfl rfl Tryz.underlying25 rfl (by exact ti23)) <| R rfl (ld 1 rfl rfl ((Foc.here).part (pt_api_Graph_Ops _)) ty23 rfl) <| R rfl (len' rfl .rd rfl Tryz.underlying23) <| R rfl (I.lss rfl rfl) <| gNil <| eThen <| gIf rfl rfl (fun h9 => ?_) (fun h9 => ?_)
    ·
     refine gSkip <| eThen <| gSeq <| gBlk <| gSeq <| gRegH [] mixed rfl rfl <| hTk 0 rfl rfl (faB 1 rfl rfl Tryz.underlying25 rfl (by exact ti23)) <| hTk 1 rfl rfl (ld 1 rfl rfl ((Foc.here).part (pt_api_Graph_Ops _)) ty23 rfl) <| hTk 2 rfl rfl (mv rfl) <| hBind fun x10 h11 => hTk 3 rfl rfl (ixR rfl rfl h11 Tryz.underlying23 ti65 rfl) <| hTk 4 rfl rfl (ldR rfl ty65) <| hTk 5 rfl rfl (faB 2 rfl rfl Tryz.underlying25 rfl (by exact ti23)) <| hTk 6 rfl rfl (ld 2 rfl rfl ((Foc.here).part (pt_api_Graph_Ops _)) ty23 rfl) <| hTk 7 rfl rfl (mv rfl) <| hBind fun x12 h13 => hTk 8 rfl rfl (ixR rfl rfl h13 Tryz.underlying23 ti65 rfl) <| hTk 9 rfl rfl (ldR rfl ty65) <| hCallF 10 [] [] rfl (by kernel_rfl) rfl (gd0 rfl) rfl Tryz.func36 rfl rfl (braidref06_Same_ok _ _) (aQ rfl <| aQ rfl <| aN) rN rfl (fun _ _ => flat_bool) fun r14 n15 => hTk 11 rfl rfl (not' rfl) <| hDone (by kernel_rfl) <| eThen <| gIf rfl rfl (fun h16 => ?_) (fun h16 => ?_)
     ·
      refine gSR <| R rfl (asg rfl) <| gNil <| eThen <| gRet <| eBret <| eTret <| eLret <| eMret <| eRet [] [] rfl (eE rfl <| eN) (rN)
     ·
      refine gSkip <| eBlk <| eThen <| gReg <| R rfl (mv rfl) <| R rfl (I.add rfl rfl) <| R rfl (asg rfl) <| gNil <| eNext (fun aa ww h => h.sub [1, 2] (sS rfl <| sS rfl <| sS rfl <| sN) (rR rfl rfl <| rR rfl rfl <| rN))
    ·
     refine gExit <| eTexit <| eLeave <| eMidR (fun aa ww h => h.sub [] (sN) (rN))
   ·
    refine gSR <| R rfl (asg rfl) <| gNil <| eThen <| gRet <| eRet [] [] rfl (eE rfl <| eN) (rN)
def braidlaw10_AncestryFinds (a0 : api_Graph) (a1 : Vector UInt8 32) (a2 : Vector UInt8 32) : Option (Bool) :=
 braidref09_Great a0 >>= fun r4 =>
 if r4 then
  some true
 else
  braidref09_Twin a0 >>= fun r7 =>
  ancestry_Ancestors r7 a2 >>= fun r10 =>
  braidref10_Ancestors a0 a2 >>= fun r12 =>
  ancestry_Is r7 a1 a2 >>= fun r14 =>
  braidref10_Is a0 a1 a2 >>= fun r16 =>
  ancestry_Heads r7 >>= fun r18 =>
  braidref10_Heads a0 >>= fun r20 =>
  ancestry_Depth r7 a2 >>= fun r22 =>
  braidref10_Depth a0 a2 >>= fun r24 =>
  braidref04_SameIDs r10.1 r12.1 >>= fun r26 =>
  if r26 then
   if r10.2 == r12.2 then
    if r14.1 == r16.1 then
     if r14.2 == r16.2 then
      braidref04_SameIDs r18.1 r20.1 >>= fun r32 =>
      if r32 then
       if r18.2 == r20.2 then
        if r22.1 == r24.1 then
         if r22.2 == r24.2 then
          braidref09_Same r7 a0 >>= fun r38 =>
          some r38
         else
          some false
        else
         some false
       else
        some false
      else
       some false
     else
      some false
    else
     some false
   else
    some false
  else
   some false
end Go.Proofs.YtjnheeekdadcpaaGreatDoor
namespace Go.Proofs.YtjnheeekdadcpaaGreatDoor
open Go Go.RowKit
set_option maxRecDepth 100000
set_option linter.unusedSimpArgs false
set_option linter.unusedVariables false
theorem braidlaw10_AncestryFinds_ok (a0 : api_Graph) (a1 : Vector UInt8 32) (a2 : Vector UInt8 32) : Spec Tryz.prog 3 [.rd R_api_Graph a0, .rd (arrR 32 u8R) a1, .rd (arrR 32 u8R) a2] [(1001, some ((.bool true), .glob 1 (arrR 64 u32R) gtab1))] (braidlaw10_AncestryFinds a0 a1 a2) (fun r nv => ⟨[.rd boolR r], [(1001, some (.bool true, .glob 1 (arrR 64 u32R) gtab1))]⟩) := by
 refine spec 119 Tryz.func3 rfl rfl rfl fun H w => ?_
 refine gSR <| Eb rfl (bx 1 rfl) fun v1 => Eb rfl (bx 2 rfl) fun v2 => Eb rfl (bx 3 rfl) fun v3 => R rfl (asg rfl) <| gNil <| eThen <| gSeq <| gSR <| R rfl (ld 1 rfl rfl Foc.here ty25 rfl) <| call [] [] rfl Tryz.func5 rfl rfl (braidref09_Great_ok _) (aQ rfl <| aN) rN fun r4 n5 => gNil <| eThen <| gIf rfl rfl (fun h6 => ?_) (fun h6 => ?_)
 ·
  refine gSR <| R rfl (asg rfl) <| gNil <| eThen <| gRet <| eTret <| eRet [] [1001] rfl (eE rfl <| eN) (rR rfl rfl <| rN)
 ·
  refine gSkip <| eThen <| gSR <| R rfl (ld 1 rfl rfl Foc.here ty25 rfl) <| call [] [] rfl Tryz.func6 rfl rfl (braidref09_Twin_ok _) (aQ rfl <| aN) rN fun r7 n8 => Eb rfl (allc 4 ti25 (ZrE.nilS (ZrE.nilS ZrE.nil))) fun v9 => lPnl (arrR 32 u8R) [.rd (sliceR (arrR 32 u8R)) [], .val (.slice none 0 0)] 4 [] [.val (.slice none 0 0)] rfl rfl rfl <| lPnl R_api_Op [.rd (sliceR (arrR 32 u8R)) [], .rd (sliceR R_api_Op) []] 4 [.rd (sliceR (arrR 32 u8R)) []] [] rfl rfl rfl <| lJoi (R := R_api_Graph) (⟨[], []⟩ : api_Graph) 4 rfl (Sp.via (Sp.prod (Sp.prod Sp.unit))) <| Es (sto 4 rfl rfl Foc.here rfl ti25) <| gNil <| eThen <| gSR <| R rfl (ld 4 rfl rfl Foc.here ty25 rfl) <| R rfl (ld 3 rfl rfl Foc.here ty27 rfl) <| call [1001] [(100, 5)] rfl Tryz.func7 rfl rfl (ancestry_Ancestors_ok _ _) (aQ rfl <| aQ rfl <| aN) (rR rfl rfl <| rN) fun r10 n11 => R rfl (mv rfl) <| R rfl (ext rfl rfl) <| R rfl (ext rfl rfl) <| R rfl (asg rfl) <| R rfl (asg rfl) <| gNil <| eThen <| gSR <| R rfl (ld 1 rfl rfl Foc.here ty25 rfl) <| R rfl (ld 3 rfl rfl Foc.here ty27 rfl) <| call [] [(100, 6)] rfl Tryz.func8 rfl rfl (braidref10_Ancestors_ok _ _) (aQ rfl <| aQ rfl <| aN) rN fun r12 n13 => R rfl (mv rfl) <| R rfl (ext rfl rfl) <| R rfl (ext rfl rfl) <| R rfl (asg rfl) <| R rfl (asg rfl) <| gNil <| eThen <| gSR <| R rfl (ld 4 rfl rfl Foc.here ty25 rfl) <| R rfl (ld 2 rfl rfl Foc.here ty27 rfl) <| R rfl (ld 3 rfl rfl Foc.here ty27 rfl) <| call [1001] [] rfl Tryz.func9 rfl rfl (ancestry_Is_ok _ _ _) (aQ rfl <| aQ rfl <| aQ rfl <| aN) (rR rfl rfl <| rN) fun r14 n15 => R rfl (mv rfl) <| R rfl (ext rfl rfl) <| R rfl (ext rfl rfl) <| R rfl (asg rfl) <| R rfl (asg rfl) <| gNil <| eThen <| gSR <| R rfl (ld 1 rfl rfl Foc.here ty25 rfl) <| R rfl (ld 2 rfl rfl Foc.here ty27 rfl) <| R rfl (ld 3 rfl rfl Foc.here ty27 rfl) <| call [] [] rfl Tryz.func10 rfl rfl (braidref10_Is_ok _ _ _) (aQ rfl <| aQ rfl <| aQ rfl <| aN) rN fun r16 n17 => R rfl (mv rfl) <| R rfl (ext rfl rfl) <| R rfl (ext rfl rfl) <| R rfl (asg rfl) <| R rfl (asg rfl) <| gNil <| eThen <| gSR <| R rfl (ld 4 rfl rfl Foc.here ty25 rfl) <| call [1001] [(100, 7)] rfl Tryz.func11 rfl rfl (ancestry_Heads_ok _) (aQ rfl <| aN) (rR rfl rfl <| rN) fun r18 n19 => R rfl (mv rfl) <| R rfl (ext rfl rfl) <| R rfl (ext rfl rfl) <| R rfl (asg rfl) <| R rfl (asg rfl) <| gNil <| eThen <| gSR <| R rfl (ld 1 rfl rfl Foc.here ty25 rfl) <| call [] [(100, 8)] rfl Tryz.func12 rfl rfl (braidref10_Heads_ok _) (aQ rfl <| aN) rN fun r20 n21 => R rfl (mv rfl) <| R rfl (ext rfl rfl) <| R rfl (ext rfl rfl) <| R rfl (asg rfl) <| R rfl (asg rfl) <| gNil <| eThen <| gSR <| R rfl (ld 4 rfl rfl Foc.here ty25 rfl) <| R rfl (ld 3 rfl rfl Foc.here ty27 rfl) <| call [1001] [] rfl Tryz.func13 rfl rfl (ancestry_Depth_ok _ _) (aQ rfl <| aQ rfl <| aN) (rR rfl rfl <| rN) fun r22 n23 => R rfl (mv rfl) <| R rfl (ext rfl rfl) <| R rfl (ext rfl rfl) <| R rfl (asg rfl) <| R rfl (asg rfl) <| gNil <| eThen <| gSR <| R rfl (ld 1 rfl rfl Foc.here ty25 rfl) <| R rfl (ld 3 rfl rfl Foc.here ty27 rfl) <| call [] [] rfl Tryz.func14 rfl rfl (braidref10_Depth_ok _ _) (aQ rfl <| aQ rfl <| aN) rN fun r24 n25 => R rfl (mv rfl) <| R rfl (ext rfl rfl) <| R rfl (ext rfl rfl) <| R rfl (asg rfl) <| R rfl (asg rfl) <| gNil <| eThen <| gSR <| R rfl (mv rfl) <| R rfl (mv rfl) <| lFrz 5 [32, 8, 76] rfl (fS rfl <| fS rfl <| fS rfl <| fN) <| lFrz 6 [38, 10, 77] rfl (fS rfl <| fS rfl <| fS rfl <| fN) <| call [] [] rfl Tryz.func15 rfl rfl (braidref04_SameIDs_ok _ _) (aQ rfl <| aQ rfl <| aN) rN fun r26 n27 => R rfl (mv rfl) <| lSplit 79 rfl (fun h28 => ?_) (fun h28 => ?_)
  ·
   refine lKn 78 rfl h28 <| lRun (gd rfl rfl rfl rfl) rfl rfl (mv rfl) <| lRun (gd rfl rfl rfl rfl) rfl rfl (mv rfl) <| lRun (gd rfl rfl rfl rfl) rfl rfl (I.eql rfl rfl) <| R rfl (pkT rfl rfl) <| R rfl (mv rfl) <| lSplit 84 rfl (fun h29 => ?_) (fun h29 => ?_)
   ·
    refine lKn 82 rfl h29 <| lKn 83 rfl h29 <| lRun (gd rfl rfl rfl rfl) rfl rfl (mv rfl) <| lRun (gd rfl rfl rfl rfl) rfl rfl (mv rfl) <| lRun (gd rfl rfl rfl rfl) rfl rfl (eqB Tryz.underlying4 rfl rfl) <| R rfl (pkT rfl rfl) <| R rfl (mv rfl) <| lSplit 89 rfl (fun h30 => ?_) (fun h30 => ?_)
    ·
     refine lKn 87 rfl h30 <| lKn 88 rfl h30 <| lRun (gd rfl rfl rfl rfl) rfl rfl (mv rfl) <| lRun (gd rfl rfl rfl rfl) rfl rfl (mv rfl) <| lRun (gd rfl rfl rfl rfl) rfl rfl (I.eql rfl rfl) <| R rfl (pkT rfl rfl) <| R rfl (mv rfl) <| lSplit 94 rfl (fun h31 => ?_) (fun h31 => ?_)
     ·
      refine lKn 92 rfl h31 <| lKn 93 rfl h31 <| lRun (gd rfl rfl rfl rfl) rfl rfl (mv rfl) <| lRun (gd rfl rfl rfl rfl) rfl rfl (mv rfl) <| lFrz 7 [57, 16, 95] rfl (fS rfl <| fS rfl <| fS rfl <| fN) <| lFrz 8 [62, 18, 96] rfl (fS rfl <| fS rfl <| fS rfl <| fN) <| callg [] [] (gd rfl rfl rfl rfl) rfl Tryz.func15 rfl rfl (braidref04_SameIDs_ok _ _) (aQ rfl <| aQ rfl <| aN) rN fun r32 n33 => R rfl (pkT rfl rfl) <| R rfl (mv rfl) <| lSplit 99 rfl (fun h34 => ?_) (fun h34 => ?_)
      ·
       refine lKn 97 rfl h34 <| lKn 98 rfl h34 <| lRun (gd rfl rfl rfl rfl) rfl rfl (mv rfl) <| lRun (gd rfl rfl rfl rfl) rfl rfl (mv rfl) <| lRun (gd rfl rfl rfl rfl) rfl rfl (I.eql rfl rfl) <| R rfl (pkT rfl rfl) <| R rfl (mv rfl) <| lSplit 104 rfl (fun h35 => ?_) (fun h35 => ?_)
       ·
        refine lKn 102 rfl h35 <| lKn 103 rfl h35 <| lRun (gd rfl rfl rfl rfl) rfl rfl (mv rfl) <| lRun (gd rfl rfl rfl rfl) rfl rfl (mv rfl) <| lRun (gd rfl rfl rfl rfl) rfl rfl (I.eql rfl rfl) <| R rfl (pkT rfl rfl) <| R rfl (mv rfl) <| lSplit 109 rfl (fun h36 => ?_) (fun h36 => ?_)
        ·
         refine lKn 107 rfl h36 <| lKn 108 rfl h36 <| lRun (gd rfl rfl rfl rfl) rfl rfl (mv rfl) <| lRun (gd rfl rfl rfl rfl) rfl rfl (mv rfl) <| lRun (gd rfl rfl rfl rfl) rfl rfl (I.eql rfl rfl) <| R rfl (pkT rfl rfl) <| R rfl (mv rfl) <| lSplit 114 rfl (fun h37 => ?_) (fun h37 => ?_)
         ·
          refine lKn 112 rfl h37 <| lKn 113 rfl h37 <| lRun (gd rfl rfl rfl rfl) rfl rfl (ld 4 rfl rfl Foc.here ty25 rfl) <| lRun (gd rfl rfl rfl rfl) rfl rfl (ld 1 rfl rfl Foc.here ty25 rfl) <| callg [] [] (gd rfl rfl rfl rfl) rfl Tryz.func16 rfl rfl (braidref09_Same_ok _ _) (aQ rfl <| aQ rfl <| aN) rN fun r38 n39 => R rfl (pkT rfl rfl) <| R rfl (asg rfl) <| gNil <| eThen <| gRet <| eRet [] [1001] rfl (eE rfl <| eN) (rR rfl rfl <| rN)
         ·
          refine lKn 112 rfl h37 <| lKn 113 rfl h37 <| lSkip (gd rfl rfl rfl rfl) rfl rfl <| lSkip (gd rfl rfl rfl rfl) rfl rfl <| lSkip (gd rfl rfl rfl rfl) rfl rfl <| R rfl (pkF rfl rfl) <| R rfl (asg rfl) <| gNil <| eThen <| gRet <| eRet [] [1001] rfl (eE rfl <| eN) (rR rfl rfl <| rN)
        ·
         refine lKn 107 rfl h36 <| lKn 108 rfl h36 <| lSkip (gd rfl rfl rfl rfl) rfl rfl <| lSkip (gd rfl rfl rfl rfl) rfl rfl <| lSkip (gd rfl rfl rfl rfl) rfl rfl <| R rfl (pkF rfl rfl) <| R rfl (mv rfl) <| lSkip (gd rfl rfl rfl rfl) rfl rfl <| lSkip (gd rfl rfl rfl rfl) rfl rfl <| lSkip (gd rfl rfl rfl rfl) rfl rfl <| R rfl (pkF rfl rfl) <| R rfl (asg rfl) <| gNil <| eThen <| gRet <| eRet [] [1001] rfl (eE rfl <| eN) (rR rfl rfl <| rN)
       ·
        refine lKn 102 rfl h35 <| lKn 103 rfl h35 <| lSkip (gd rfl rfl rfl rfl) rfl rfl <| lSkip (gd rfl rfl rfl rfl) rfl rfl <| lSkip (gd rfl rfl rfl rfl) rfl rfl <| R rfl (pkF rfl rfl) <| R rfl (mv rfl) <| lSkip (gd rfl rfl rfl rfl) rfl rfl <| lSkip (gd rfl rfl rfl rfl) rfl rfl <| lSkip (gd rfl rfl rfl rfl) rfl rfl <| R rfl (pkF rfl rfl) <| R rfl (mv rfl) <| lSkip (gd rfl rfl rfl rfl) rfl rfl <| lSkip (gd rfl rfl rfl rfl) rfl rfl <| lSkip (gd rfl rfl rfl rfl) rfl rfl <| R rfl (pkF rfl rfl) <| R rfl (asg rfl) <| gNil <| eThen <| gRet <| eRet [] [1001] rfl (eE rfl <| eN) (rR rfl rfl <| rN)
      ·
       refine lKn 97 rfl h34 <| lKn 98 rfl h34 <| lSkip (gd rfl rfl rfl rfl) rfl rfl <| lSkip (gd rfl rfl rfl rfl) rfl rfl <| lSkip (gd rfl rfl rfl rfl) rfl rfl <| R rfl (pkF rfl rfl) <| R rfl (mv rfl) <| lSkip (gd rfl rfl rfl rfl) rfl rfl <| lSkip (gd rfl rfl rfl rfl) rfl rfl <| lSkip (gd rfl rfl rfl rfl) rfl rfl <| R rfl (pkF rfl rfl) <| R rfl (mv rfl) <| lSkip (gd rfl rfl rfl rfl) rfl rfl <| lSkip (gd rfl rfl rfl rfl) rfl rfl <| lSkip (gd rfl rfl rfl rfl) rfl rfl <| R rfl (pkF rfl rfl) <| R rfl (mv rfl) <| lSkip (gd rfl rfl rfl rfl) rfl rfl <| lSkip (gd rfl rfl rfl rfl) rfl rfl <| lSkip (gd rfl rfl rfl rfl) rfl rfl <| R rfl (pkF rfl rfl) <| R rfl (asg rfl) <| gNil <| eThen <| gRet <| eRet [] [1001] rfl (eE rfl <| eN) (rR rfl rfl <| rN)
     ·
      refine lKn 92 rfl h31 <| lKn 93 rfl h31 <| lSkip (gd rfl rfl rfl rfl) rfl rfl <| lSkip (gd rfl rfl rfl rfl) rfl rfl <| lSkip (gd rfl rfl rfl rfl) rfl rfl <| R rfl (pkF rfl rfl) <| R rfl (mv rfl) <| lSkip (gd rfl rfl rfl rfl) rfl rfl <| lSkip (gd rfl rfl rfl rfl) rfl rfl <| lSkip (gd rfl rfl rfl rfl) rfl rfl <| R rfl (pkF rfl rfl) <| R rfl (mv rfl) <| lSkip (gd rfl rfl rfl rfl) rfl rfl <| lSkip (gd rfl rfl rfl rfl) rfl rfl <| lSkip (gd rfl rfl rfl rfl) rfl rfl <| R rfl (pkF rfl rfl) <| R rfl (mv rfl) <| lSkip (gd rfl rfl rfl rfl) rfl rfl <| lSkip (gd rfl rfl rfl rfl) rfl rfl <| lSkip (gd rfl rfl rfl rfl) rfl rfl <| R rfl (pkF rfl rfl) <| R rfl (mv rfl) <| lSkip (gd rfl rfl rfl rfl) rfl rfl <| lSkip (gd rfl rfl rfl rfl) rfl rfl <| lSkip (gd rfl rfl rfl rfl) rfl rfl <| R rfl (pkF rfl rfl) <| R rfl (asg rfl) <| gNil <| eThen <| gRet <| eRet [] [1001] rfl (eE rfl <| eN) (rR rfl rfl <| rN)
    ·
     refine lKn 87 rfl h30 <| lKn 88 rfl h30 <| lSkip (gd rfl rfl rfl rfl) rfl rfl <| lSkip (gd rfl rfl rfl rfl) rfl rfl <| lSkip (gd rfl rfl rfl rfl) rfl rfl <| R rfl (pkF rfl rfl) <| R rfl (mv rfl) <| lSkip (gd rfl rfl rfl rfl) rfl rfl <| lSkip (gd rfl rfl rfl rfl) rfl rfl <| lSkip (gd rfl rfl rfl rfl) rfl rfl <| R rfl (pkF rfl rfl) <| R rfl (mv rfl) <| lSkip (gd rfl rfl rfl rfl) rfl rfl <| lSkip (gd rfl rfl rfl rfl) rfl rfl <| lSkip (gd rfl rfl rfl rfl) rfl rfl <| R rfl (pkF rfl rfl) <| R rfl (mv rfl) <| lSkip (gd rfl rfl rfl rfl) rfl rfl <| lSkip (gd rfl rfl rfl rfl) rfl rfl <| lSkip (gd rfl rfl rfl rfl) rfl rfl <| R rfl (pkF rfl rfl) <| R rfl (mv rfl) <| lSkip (gd rfl rfl rfl rfl) rfl rfl <| lSkip (gd rfl rfl rfl rfl) rfl rfl <| lSkip (gd rfl rfl rfl rfl) rfl rfl <| R rfl (pkF rfl rfl) <| R rfl (mv rfl) <| lSkip (gd rfl rfl rfl rfl) rfl rfl <| lSkip (gd rfl rfl rfl rfl) rfl rfl <| lSkip (gd rfl rfl rfl rfl) rfl rfl <| R rfl (pkF rfl rfl) <| R rfl (asg rfl) <| gNil <| eThen <| gRet <| eRet [] [1001] rfl (eE rfl <| eN) (rR rfl rfl <| rN)
   ·
    refine lKn 82 rfl h29 <| lKn 83 rfl h29 <| lSkip (gd rfl rfl rfl rfl) rfl rfl <| lSkip (gd rfl rfl rfl rfl) rfl rfl <| lSkip (gd rfl rfl rfl rfl) rfl rfl <| R rfl (pkF rfl rfl) <| R rfl (mv rfl) <| lSkip (gd rfl rfl rfl rfl) rfl rfl <| lSkip (gd rfl rfl rfl rfl) rfl rfl <| lSkip (gd rfl rfl rfl rfl) rfl rfl <| R rfl (pkF rfl rfl) <| R rfl (mv rfl) <| lSkip (gd rfl rfl rfl rfl) rfl rfl <| lSkip (gd rfl rfl rfl rfl) rfl rfl <| lSkip (gd rfl rfl rfl rfl) rfl rfl <| R rfl (pkF rfl rfl) <| R rfl (mv rfl) <| lSkip (gd rfl rfl rfl rfl) rfl rfl <| lSkip (gd rfl rfl rfl rfl) rfl rfl <| lSkip (gd rfl rfl rfl rfl) rfl rfl <| R rfl (pkF rfl rfl) <| R rfl (mv rfl) <| lSkip (gd rfl rfl rfl rfl) rfl rfl <| lSkip (gd rfl rfl rfl rfl) rfl rfl <| lSkip (gd rfl rfl rfl rfl) rfl rfl <| R rfl (pkF rfl rfl) <| R rfl (mv rfl) <| lSkip (gd rfl rfl rfl rfl) rfl rfl <| lSkip (gd rfl rfl rfl rfl) rfl rfl <| lSkip (gd rfl rfl rfl rfl) rfl rfl <| R rfl (pkF rfl rfl) <| R rfl (mv rfl) <| lSkip (gd rfl rfl rfl rfl) rfl rfl <| lSkip (gd rfl rfl rfl rfl) rfl rfl <| lSkip (gd rfl rfl rfl rfl) rfl rfl <| R rfl (pkF rfl rfl) <| R rfl (asg rfl) <| gNil <| eThen <| gRet <| eRet [] [1001] rfl (eE rfl <| eN) (rR rfl rfl <| rN)
  ·
   refine lKn 78 rfl h28 <| lSkip (gd rfl rfl rfl rfl) rfl rfl <| lSkip (gd rfl rfl rfl rfl) rfl rfl <| lSkip (gd rfl rfl rfl rfl) rfl rfl <| R rfl (pkF rfl rfl) <| R rfl (mv rfl) <| lSkip (gd rfl rfl rfl rfl) rfl rfl <| lSkip (gd rfl rfl rfl rfl) rfl rfl <| lSkip (gd rfl rfl rfl rfl) rfl rfl <| R rfl (pkF rfl rfl) <| R rfl (mv rfl) <| lSkip (gd rfl rfl rfl rfl) rfl rfl <| lSkip (gd rfl rfl rfl rfl) rfl rfl <| lSkip (gd rfl rfl rfl rfl) rfl rfl <| R rfl (pkF rfl rfl) <| R rfl (mv rfl) <| lSkip (gd rfl rfl rfl rfl) rfl rfl <| lSkip (gd rfl rfl rfl rfl) rfl rfl <| lSkip (gd rfl rfl rfl rfl) rfl rfl <| R rfl (pkF rfl rfl) <| R rfl (mv rfl) <| lSkip (gd rfl rfl rfl rfl) rfl rfl <| lSkip (gd rfl rfl rfl rfl) rfl rfl <| lSkip (gd rfl rfl rfl rfl) rfl rfl <| R rfl (pkF rfl rfl) <| R rfl (mv rfl) <| lSkip (gd rfl rfl rfl rfl) rfl rfl <| lSkip (gd rfl rfl rfl rfl) rfl rfl <| lSkip (gd rfl rfl rfl rfl) rfl rfl <| R rfl (pkF rfl rfl) <| R rfl (mv rfl) <| lSkip (gd rfl rfl rfl rfl) rfl rfl <| lSkip (gd rfl rfl rfl rfl) rfl rfl <| lSkip (gd rfl rfl rfl rfl) rfl rfl <| R rfl (pkF rfl rfl) <| R rfl (mv rfl) <| lSkip (gd rfl rfl rfl rfl) rfl rfl <| lSkip (gd rfl rfl rfl rfl) rfl rfl <| lSkip (gd rfl rfl rfl rfl) rfl rfl <| R rfl (pkF rfl rfl) <| R rfl (asg rfl) <| gNil <| eThen <| gRet <| eRet [] [1001] rfl (eE rfl <| eN) (rR rfl rfl <| rN)
end Go.Proofs.YtjnheeekdadcpaaGreatDoor
namespace Go.Proofs.YtjnheeekdadcpaaGreatDoor
open Go
set_option linter.unusedSimpArgs false
set_option linter.unusedVariables false
section
variable {σ β α ρ τ : Type}
theorem bs (x : α) (f : α → Option β) : (some x >>= f) = f x := rfl
theorem bS (x : α) (f : α → Option β) : (some x >>= f) = f x := Eq.trans (rfl : (some x >>= f) = f x) rfl
theorem or_l (r : ρ) (k : τ → Option ρ) : orRet (some (.inl r)) k = some r := rfl
theorem or_r (t : τ) (k : τ → Option ρ) : orRet (some (.inr t)) k = k t := rfl
theorem iter_l {F : σ → Option (Sum β σ)} {s : σ} {b : β} (h : F s = some (.inl b)) : iter F s = some b := by rw [iter, h]; rfl
theorem iter_r {F : σ → Option (Sum β σ)} {s s' : σ} (h : F s = some (.inr s')) : iter F s = iter F s' := by rw [iter, h]; rfl
theorem iter_inv {F : σ → Option (Sum β σ)} (I : σ → Prop) (μ : σ → Nat) (Q : β → Prop) (h : ∀ s, I s → (∃ b, F s = some (.inl b) ∧ Q b) ∨ ∃ s', F s = some (.inr s') ∧ I s' ∧ μ s' < μ s) (s : σ) (hs : I s) : ∃ b, iter F s = some b ∧ Q b := by
  have key : ∀ n s, μ s = n → I s → ∃ b, iter F s = some b ∧ Q b := by
    intro n
    induction n using Nat.strongRecOn with
    | _ n ih =>
      intro s hn hs
      rcases h s hs with ⟨b, h1, h2⟩ | ⟨s', h1, h2, h3⟩
      · exact ⟨b, iter_l h1, h2⟩
      · rw [iter_r h1]; exact ih (μ s') (hn ▸ h3) s' rfl h2
  exact key _ s rfl hs
theorem iter_up {F : σ → Option (Sum β σ)} (n : Nat) (I : Nat → σ → Prop) (Q : β → Prop) (h1 : ∀ i s, i < n → I i s → ∃ s', F s = some (.inr s') ∧ I (i + 1) s') (h2 : ∀ s, I n s → ∃ b, F s = some (.inl b) ∧ Q b) (s : σ) (i : Nat) (hi : i ≤ n) (hs : I i s) : ∃ b, iter F s = some b ∧ Q b := by
  have key : ∀ k i s, n - i = k → i ≤ n → I i s → ∃ b, iter F s = some b ∧ Q b := by
    intro k
    induction k with
    | zero =>
      intro i s hk hi hs
      have : i = n := by omega
      subst this
      obtain ⟨b, h3, h4⟩ := h2 s hs
      exact ⟨b, iter_l h3, h4⟩
    | succ k ih =>
      intro i s hk hi hs
      obtain ⟨s', h3, h4⟩ := h1 i s (by omega) hs
      rw [iter_r h3]; exact ih (i + 1) s' (by omega) (by omega) h4
  exact key _ i s rfl hi hs
theorem iter_run {F : σ → Option (Sum β σ)} (n : Nat) (g : Nat → σ) {b : β} (h1 : ∀ i, i < n → F (g i) = some (.inr (g (i + 1)))) (h2 : F (g n) = some (.inl b)) : iter F (g 0) = some b := by
  obtain ⟨b', h3, rfl⟩ := iter_up n (fun i s => s = g i) (fun x => x = b) (fun i s hi hs => ⟨_, by rw [hs]; exact h1 i hi, rfl⟩) (fun s hs => ⟨_, by rw [hs]; exact h2, rfl⟩) (g 0) 0 (Nat.zero_le _) rfl
  exact h3
theorem idx_nat {l : List α} {i : Nat} (h : i < l.length) : idx l (i : Int) = some l[i] := by simp [idx, h]
theorem idx_int {l : List α} {i : Int} (h0 : 0 ≤ i) (h : i.toNat < l.length) : idx l i = some l[i.toNat] := by simp [idx, h0, h]
theorem vidx_nat {n : Nat} {v : Vector α n} {i : Nat} (h : i < n) : vidx v (i : Int) = some v[i] := by unfold vidx; rw [idx_nat (by simpa using h)]; simp
theorem vset_get {n : Nat} {v : Vector α n} {i : Int} {x : α} {j : Nat} (hj : j < n) : (vset v i x)[j] = if i.toNat = j then x else v[j] := by
  unfold vset; rw [Vector.getElem_setIfInBounds hj]
theorem chk_true {p : Prop} [Decidable p] (h : p) : chk p = some () := by simp [chk, h]
theorem app_eq {by_ : Nat} {b c : List α} (h : (b.length + c.length) * by_ ≤ 140737488355328) : app by_ b c = some (b ++ c) := by simp [app, h]
theorem mkn_eq {by_ : Nat} {x : α} {n : Nat} (h : by_ * n ≤ 281474976710656) (h2 : n ≤ 9223372036854775807) : mkn by_ x (n : Int) = some (List.replicate n x) := by
  unfold mkn; rw [if_pos ⟨by omega, by simpa using h, by omega⟩]; simp
theorem cut_eq {b : List α} {i j : Nat} (h : i ≤ j) (hj : j ≤ b.length) : cut b (i : Int) (j : Int) = some ((b.drop i).take (j - i)) := by
  unfold cut; rw [if_pos ⟨by omega, by omega, by omega⟩]; simp
end
theorem w64_eq {x : Int} (h1 : -9223372036854775808 ≤ x) (h2 : x ≤ 9223372036854775807) : w64 x = x := wrap_i64' h1 h2
theorem w64_nat {n : Nat} (h : n < 9223372036854775807) : w64 ((n : Int) + 1) = ((n + 1 : Nat) : Int) := by rw [w64_eq (by omega) (by omega)]; omega
theorem shr64_toNat (a : UInt64) (n : Nat) : (shr64 a n).toNat = a.toNat / 2 ^ (min n 64) := by
  unfold shr64
  have h1 := UInt64.toNat_lt a
  have h2 : a.toNat / 2 ^ (min n 64) ≤ a.toNat := Nat.div_le_self _ _
  simp; omega
theorem shl64_toNat (a : UInt64) (n : Nat) : (shl64 a n).toNat = a.toNat * 2 ^ (min n 64) % 18446744073709551616 := by
  unfold shl64; simp
theorem bit64 (a : UInt64) (k : Nat) (hk : k < 64) : ((shr64 a k &&& 1) == 1) = a.toNat.testBit k := by
  rw [Bool.eq_iff_iff, beq_iff_eq, ← UInt64.toNat_inj, UInt64.toNat_and, shr64_toNat, Nat.min_eq_left (by omega)]
  have : (1 : UInt64).toNat = 1 := rfl
  rw [this, Nat.and_one_is_mod, Nat.testBit_eq_decide_div_mod_eq]
  simp
end Go.Proofs.YtjnheeekdadcpaaGreatDoor
namespace Go.Proofs.YtjnheeekdadcpaaGreatDoor
open Go
set_option linter.unusedSimpArgs false
set_option linter.unusedVariables false
def bitLen (n : Nat) : Nat := if n = 0 then 0 else n.log2 + 1
theorem bitLen_shift (n k : Nat) (h : 2 ^ k ≤ n) : bitLen n = k + bitLen (n / 2 ^ k) := by
  have hp : 0 < 2 ^ k := Nat.pow_pos (by decide)
  have h1 : n / 2 ^ k ≠ 0 := by
    have : 1 ≤ n / 2 ^ k := (Nat.le_div_iff_mul_le hp).2 (by rw [Nat.one_mul]; exact h)
    omega
  have h2 : n ≠ 0 := by omega
  unfold bitLen
  rw [if_neg h1, if_neg h2]
  have h3 : n.log2 = k + (n / 2 ^ k).log2 := by
    rw [Nat.log2_eq_iff h2]
    have h4 := (Nat.log2_eq_iff h1).1 rfl
    refine ⟨?_, ?_⟩
    · rw [Nat.pow_add, Nat.mul_comm]; exact (Nat.le_div_iff_mul_le hp).1 h4.1
    · rw [Nat.add_assoc, Nat.pow_add, Nat.mul_comm]; exact (Nat.div_lt_iff_lt_mul hp).1 h4.2
  omega
theorem bitLen_le (n k : Nat) (h : n < 2 ^ k) : bitLen n ≤ k := by
  unfold bitLen; split
  · omega
  · rename_i h0; have := (Nat.log2_lt h0).2 h; omega
def len8tab : ByteArray := ⟨#[0, 1, 2, 2, 3, 3, 3, 3, 4, 4, 4, 4, 4, 4, 4, 4, 5, 5, 5, 5, 5, 5, 5, 5, 5, 5, 5, 5, 5, 5, 5, 5, 6, 6, 6, 6, 6, 6, 6, 6, 6, 6, 6, 6, 6, 6, 6, 6, 6, 6, 6, 6, 6, 6, 6, 6, 6, 6, 6, 6, 6, 6, 6, 6, 7, 7, 7, 7, 7, 7, 7, 7, 7, 7, 7, 7, 7, 7, 7, 7, 7, 7, 7, 7, 7, 7, 7, 7, 7, 7, 7, 7, 7, 7, 7, 7, 7, 7, 7, 7, 7, 7, 7, 7, 7, 7, 7, 7, 7, 7, 7, 7, 7, 7, 7, 7, 7, 7, 7, 7, 7, 7, 7, 7, 7, 7, 7, 7, 8, 8, 8, 8, 8, 8, 8, 8, 8, 8, 8, 8, 8, 8, 8, 8, 8, 8, 8, 8, 8, 8, 8, 8, 8, 8, 8, 8, 8, 8, 8, 8, 8, 8, 8, 8, 8, 8, 8, 8, 8, 8, 8, 8, 8, 8, 8, 8, 8, 8, 8, 8, 8, 8, 8, 8, 8, 8, 8, 8, 8, 8, 8, 8, 8, 8, 8, 8, 8, 8, 8, 8, 8, 8, 8, 8, 8, 8, 8, 8, 8, 8, 8, 8, 8, 8, 8, 8, 8, 8, 8, 8, 8, 8, 8, 8, 8, 8, 8, 8, 8, 8, 8, 8, 8, 8, 8, 8, 8, 8, 8, 8, 8, 8, 8, 8, 8, 8, 8, 8, 8, 8, 8, 8, 8, 8, 8, 8]⟩
set_option maxRecDepth 100000 in
theorem len8_all : ∀ x : Fin 256, len8tab.data[x.val]? = some (UInt8.ofNat (bitLen x.val)) := by decide +kernel
def digits (n : Nat) : List UInt8 := if h : n = 0 then [] else UInt8.ofNat n :: digits (n / 256)
termination_by n
theorem digits_zero : digits 0 = [] := by rw [digits]; simp
theorem digits_pos (n : Nat) (h : n ≠ 0) : digits n = UInt8.ofNat n :: digits (n / 256) := by rw [digits]; simp [h]
def numBytes (n : Nat) : List UInt8 := if n ≤ 247 then [UInt8.ofNat n] else UInt8.ofNat (247 + (digits n).length) :: (digits n).reverse
theorem digits_len (n : Nat) : (digits n).length = (bitLen n + 7) / 8 := by
  induction n using Nat.strongRecOn with
  | _ n ih =>
    by_cases h : n = 0
    · subst h; rw [digits_zero]; simp [bitLen]
    · rw [digits_pos n h, List.length_cons, ih (n / 256) (by omega)]
      by_cases h2 : n < 256
      · have : n / 256 = 0 := by omega
        rw [this]
        have h3 : bitLen n ≤ 8 := bitLen_le n 8 h2
        have h4 : 1 ≤ bitLen n := by unfold bitLen; rw [if_neg h]; omega
        simp [bitLen] at h3 h4 ⊢
        rw [if_neg h] at h3 h4 ⊢; omega
      · have := bitLen_shift n 8 (by omega)
        rw [show (2 : Nat) ^ 8 = 256 from rfl] at this
        omega
theorem digits_get (n : Nat) : ∀ (i : Nat), i < (digits n).length → (digits n)[i]? = some (UInt8.ofNat (n / 256 ^ i)) := by
  induction n using Nat.strongRecOn with
  | _ n ih =>
    intro i hi
    by_cases h : n = 0
    · subst h; rw [digits_zero] at hi; simp at hi
    · rw [digits_pos n h] at hi ⊢
      cases i with
      | zero => simp
      | succ i =>
        simp only [List.length_cons] at hi
        rw [List.getElem?_cons_succ, ih (n / 256) (by omega) i (by omega), Nat.div_div_eq_div_mul]
        congr 3
        rw [Nat.pow_succ, Nat.mul_comm]
theorem digits_le (n : Nat) (h : n < 18446744073709551616) : (digits n).length ≤ 8 := by
  rw [digits_len]; have := bitLen_le n 64 (by simpa using h); omega
theorem numBytes_len (n : Nat) (h : n < 18446744073709551616) : 1 ≤ (numBytes n).length ∧ (numBytes n).length ≤ 9 := by
  unfold numBytes; have := digits_le n h; split <;> simp <;> omega
def fillNum (n i : Nat) : List UInt8 := UInt8.ofNat (247 + (digits n).length) :: (List.replicate ((digits n).length - i) 0 ++ ((digits n).take i).reverse)
theorem fillNum_len (n i : Nat) (h : i ≤ (digits n).length) : (fillNum n i).length = (digits n).length + 1 := by simp [fillNum]; omega
theorem fillNum_zero (n : Nat) : (List.replicate ((digits n).length + 1) (0 : UInt8)).set 0 (UInt8.ofNat (247 + (digits n).length)) = fillNum n 0 := by
  simp [fillNum, List.replicate_succ]
theorem fillNum_step (n i : Nat) (h : i < (digits n).length) : (fillNum n i).set ((digits n).length - i) (UInt8.ofNat (n / 2 ^ (8 * i))) = fillNum n (i + 1) := by
  have hg := digits_get n i h
  have he : n / 2 ^ (8 * i) = n / 256 ^ i := by rw [Nat.pow_mul]
  rw [he]
  unfold fillNum
  obtain ⟨m, hm⟩ : ∃ m, (digits n).length - i = m + 1 := ⟨(digits n).length - i - 1, by omega⟩
  have hm2 : (digits n).length - (i + 1) = m := by omega
  rw [hm, hm2, List.set_cons_succ, List.take_succ_eq_append_getElem h, List.reverse_append, List.reverse_singleton, List.replicate_succ']
  rw [List.getElem?_eq_getElem h, Option.some.injEq] at hg
  rw [hg, List.append_assoc, List.set_append_right _ _ (by simp)]
  simp
theorem fillNum_last (n : Nat) (h : 247 < n) : fillNum n (digits n).length = numBytes n := by
  unfold fillNum numBytes; rw [if_neg (by omega)]; simp
theorem digits_split (n m : Nat) (ds : List UInt8) (hm : m ≠ 0) (h : digits n = ds ++ digits m) : digits n = (ds ++ [UInt8.ofNat (m % 256)]) ++ digits (m / 256) := by
  rw [h, digits_pos m hm, List.append_assoc]
  have : UInt8.ofNat (m % 256) = UInt8.ofNat m := by
    apply UInt8.toNat_inj.1; simp
  rw [this]; rfl
theorem append_left_le {α} {l a b : List α} (h : l = a ++ b) : a.length ≤ l.length := by rw [h]; simp
def zig (n : Int) : Nat := if 0 ≤ n then (2 * n).toNat else (-2 * n - 1).toNat
theorem zig_lt {n : Int} (h1 : -9223372036854775808 ≤ n) (h2 : n ≤ 9223372036854775807) : zig n < 18446744073709551616 := by unfold zig; split <;> omega
def bytesOf (s : List UInt8) : List UInt8 × Nat := if 10000 < s.length then ([], 4) else (numBytes s.length ++ s, 0)
end Go.Proofs.YtjnheeekdadcpaaGreatDoor
namespace Go.Proofs.YtjnheeekdadcpaaGreatDoor
open Go Go.RowKit
set_option linter.unusedSimpArgs false
set_option linter.unusedVariables false
def wf_api_Value (x : api_Value) : Prop := (fun _ => True) x.Kind ∧ inI x.Num ∧ (fun _ => True) x.Bits ∧ (fun s : List UInt8 => s.length ≤ 9223372036854775807) x.Text ∧ True
def wf_api_Act (x : api_Act) : Prop := (fun _ => True) x.Kind ∧ (fun s : List UInt8 => s.length ≤ 9223372036854775807) x.Key ∧ wf_api_Value x.Value ∧ True
def wf_api_Sig (x : api_Sig) : Prop := (fun _ => True) x.E ∧ (fun _ => True) x.S ∧ True
def wf_api_Op (x : api_Op) : Prop := (fun _ => True) x.Author ∧ (fun l : List (Vector UInt8 32) => (∀ x ∈ l, (fun v : Vector UInt8 32 => ∀ x ∈ v.toList, (fun _ => True) x) x) ∧ l.length ≤ 9223372036854775807) x.Preds ∧ (fun _ => True) x.Stamp ∧ wf_api_Act x.Act ∧ wf_api_Sig x.Sig ∧ True
def wf_api_Graph (x : api_Graph) : Prop := (fun l : List (Vector UInt8 32) => (∀ x ∈ l, (fun v : Vector UInt8 32 => ∀ x ∈ v.toList, (fun _ => True) x) x) ∧ l.length ≤ 9223372036854775807) x.IDs ∧ (fun l : List api_Op => (∀ x ∈ l, wf_api_Op x) ∧ l.length ≤ 9223372036854775807) x.Ops ∧ True
end Go.Proofs.YtjnheeekdadcpaaGreatDoor
namespace Go.Proofs.YtjnheeekdadcpaaGreatDoor
open Go
set_option linter.unusedSimpArgs false
set_option linter.unusedVariables false
theorem andI_nat {n k : Nat} (hn : n < 9223372036854775808) (hk : k < 9223372036854775808) : andI (n : Int) (k : Int) = ((n &&& k : Nat) : Int) := by
  show IntKind.i64.wrap (BitVec.toNat (BitVec.ofInt 64 (n : Int) &&& BitVec.ofInt 64 (k : Int)) : Int) = _
  rw [BitVec.ofInt_natCast, BitVec.ofInt_natCast, BitVec.toNat_and, BitVec.toNat_ofNat, BitVec.toNat_ofNat, Nat.mod_eq_of_lt (by omega), Nat.mod_eq_of_lt (by omega)]
  have := Nat.and_le_left (n := n) (m := k)
  exact wrap_i64' (by omega) (by omega)
def okb (c : UInt8) : Bool := decide (32 ≤ c.toNat) && decide (c.toNat ≤ 126)
theorem rune_lo {b : List UInt8} {q : Nat} (h : q < b.length) (ha : (b[q]).toNat < 128) : runeAt b q = ((b[q]).toNat, 1) := by
  unfold runeAt
  exact decode_ascii ⟨b.toArray⟩ q (by show q < b.toArray.size; simpa using h) ha
theorem rune_hi {b : List UInt8} {q : Nat} (h : q < b.length) (ha : 128 ≤ (b[q]).toNat) : 128 ≤ (runeAt b q).1 := by
  unfold runeAt
  have e : ((ByteArray.mk b.toArray).get! (q + 0)).toNat = (b[q]).toNat := by
    show ((ByteArray.mk b.toArray).get! q).toNat = _
    simp [ByteArray.get!, h]
  simp only [Utf8.decode, e]
  rw [if_neg (by omega)]
  repeat' split
  all_goals (first | (simp only [Utf8.runeError]; omega) | (rename_i h1; simp at h1; omega) | omega)
theorem text1_eq (x : Int) : value_Text_1 x = some (decide (x < 32) || decide (126 < x)) := by
  unfold value_Text_1
  cases decide (x < 32) <;> rfl
theorem find_eq5 (b : List UInt8) : ∀ (rest pre : List UInt8), b = pre ++ rest →
    (rest.all okb = true → iter (strings_indexFunc_value_Text_1_L0 b true) pre.length = some (.inr ())) ∧ (rest.all okb = false → ∃ i : Nat, iter (strings_indexFunc_value_Text_1_L0 b true) pre.length = some (.inl (i : Int)))
  | [], pre, e => by
    refine ⟨fun _ => iter_l ?_, fun h => by simp at h⟩
    subst e
    unfold strings_indexFunc_value_Text_1_L0
    simp
  | c :: rest, pre, e => by
    have hlen : pre.length < b.length := by rw [e]; simp
    have hget : b[pre.length]'hlen = c := by subst e; simp
    have hF : strings_indexFunc_value_Text_1_L0 b true pre.length = if ((decide (((runeAt b pre.length).1 : Int) < 32) || decide (126 < ((runeAt b pre.length).1 : Int))) == true) then some (.inl (.inl (pre.length : Int))) else some (.inr (pre.length + (runeAt b pre.length).2)) := by
      unfold strings_indexFunc_value_Text_1_L0
      rw [if_pos hlen]
      simp only [bs, text1_eq]
    cases hc : okb c with
    | false =>
      refine ⟨fun h => by simp [hc] at h, fun _ => ⟨pre.length, iter_l ?_⟩⟩
      rw [hF, if_pos]
      by_cases h8 : c.toNat < 128
      · rw [rune_lo hlen (by rw [hget]; exact h8), hget]
        simp only [okb, Bool.and_eq_false_iff, decide_eq_false_iff_not] at hc
        simp; omega
      · have := rune_hi hlen (by rw [hget]; omega)
        simp; omega
    | true =>
      simp only [okb, Bool.and_eq_true, decide_eq_true_eq] at hc
      rw [rune_lo hlen (by rw [hget]; omega), hget, if_neg (by simp; omega)] at hF
      have ih := find_eq5 b rest (pre ++ [c]) (by simp [e])
      simp only [List.length_append, List.length_cons, List.length_nil, Nat.zero_add] at ih
      rw [iter_r hF]
      have hc' : okb c = true := by simp [okb, hc]
      simpa [hc'] using ih
theorem printable_eq (b : List UInt8) (hb : b.length ≤ 9223372036854775807) : ∀ (rest pre : List UInt8), b = pre ++ rest → iter (braidref05_Printable_L0 b) (pre.length : Int) = some (if rest.all okb then .inr () else .inl false)
  | [], pre, e => by
    refine iter_l ?_
    subst e
    unfold braidref05_Printable_L0
    simp
  | c :: rest, pre, e => by
    have hlen : pre.length < b.length := by rw [e]; simp
    have hget : b[pre.length]'hlen = c := by subst e; simp
    have hF : braidref05_Printable_L0 b (pre.length : Int) = if okb c then some (.inr ((pre.length + 1 : Nat) : Int)) else some (.inl (.inl false)) := by
      unfold braidref05_Printable_L0
      rw [if_pos (by simp <;> omega)]
      simp only [idx_nat hlen, hget, bs, w64_nat (show pre.length < 9223372036854775807 by omega)]
      simp only [okb, UInt8.lt_iff_toNat_lt, UInt8.reduceToNat]
      by_cases h1 : c.toNat < 32
      · have : ¬ 32 ≤ c.toNat := by omega
        simp [h1, this]
      · by_cases h2 : 126 < c.toNat
        · have : ¬ c.toNat ≤ 126 := by omega
          simp [h1, h2, this]
        · have h3 : 32 ≤ c.toNat := by omega
          have h4 : c.toNat ≤ 126 := by omega
          simp [h1, h2, h3, h4]
    cases hc : okb c with
    | false => rw [hc] at hF; rw [iter_l hF]; simp [hc]
    | true =>
      rw [hc] at hF
      rw [iter_r hF]
      have ih := printable_eq b hb rest (pre ++ [c]) (by simp [e])
      simp only [List.length_append, List.length_cons, List.length_nil, Nat.zero_add] at ih
      rw [ih]; simp [hc]
theorem Printable_eq (b : List UInt8) (hb : b.length ≤ 9223372036854775807) : braidref05_Printable b = some (b.all okb) := by
  have h := printable_eq b hb b [] rfl
  unfold braidref05_Printable
  rw [show (0 : Int) = (([] : List UInt8).length : Int) from rfl, h]
  cases b.all okb <;> rfl
theorem vText_eq (b : List UInt8) (hb : b.length ≤ 9223372036854775807) : value_Text b = some (if decide (30 < (b.length : Int)) then (⟨0, 0, 0, []⟩, 4) else if b.all okb then (⟨3, 0, 0, b⟩, 0) else (⟨0, 0, 0, []⟩, 8)) := by
  unfold value_Text strings_IndexFunc_value_Text_1 strings_indexFunc_value_Text_1
  cases decide (30 < (b.length : Int))
  · simp only [Bool.false_eq_true, if_false]
    obtain ⟨h1, h2⟩ := find_eq5 b b [] rfl
    simp only [List.length_nil] at h1 h2
    cases h : b.all okb
    · obtain ⟨i, hi⟩ := h2 h
      rw [hi]
      simp only [or_l, bs]
      rw [if_pos (by simp)]; rfl
    · rw [h1 h]; rfl
  · rfl
theorem split_eq (a : UInt64) : value_split a = some (((a.toNat / 4503599627370496 % 2048 : Nat) : Int), a % 4503599627370496) := by
  unfold value_split
  simp only [bs]
  have h0 := UInt64.toNat_lt a
  rw [shr64_toNat]
  have e1 : (2 : Nat) ^ (min 52 64) = 4503599627370496 := by decide
  rw [e1, w64_eq (by omega) (by omega), show (2047 : Int) = ((2047 : Nat) : Int) from rfl, andI_nat (by omega) (by omega)]
  congr 2
  · congr 1
    exact Nat.and_two_pow_sub_one_eq_mod _ 11
  · apply UInt64.toNat_inj.1
    rw [UInt64.toNat_and, UInt64.toNat_mod]
    exact Nat.and_two_pow_sub_one_eq_mod _ 52
theorem exp_eq (a : UInt64) : braidref05_Exponent a = some ((a.toNat / 4503599627370496 % 2048 : Nat) : Int) := by
  unfold braidref05_Exponent
  have h0 := UInt64.toNat_lt a
  simp only [bs, UInt64.toNat_div, UInt64.toNat_mod, UInt64.reduceToNat]
  rw [w64_eq (by omega) (by omega)]
  congr 2
  omega
def expo (a : UInt64) : Nat := a.toNat / 4503599627370496 % 2048
def mant (a : UInt64) : Nat := a.toNat % 4503599627370496
theorem expo_lt (a : UInt64) : expo a < 2048 := Nat.mod_lt _ (by omega)
def clsF (a : UInt64) : UInt8 := if expo a = 2047 then (if mant a = 0 then 4 else 5) else if expo a = 0 then (if mant a = 0 then 1 else 2) else 3
theorem mant_z (a : UInt64) : (a % 4503599627370496 == 0) = decide (mant a = 0) := by
  rw [Bool.eq_iff_iff]
  simp only [beq_iff_eq, decide_eq_true_eq, ← UInt64.toNat_inj, UInt64.toNat_mod]
  rfl
theorem vClass_eq (a : UInt64) : value_Class a = some (clsF a) := by
  unfold value_Class clsF
  rw [split_eq]
  simp only [bs]
  have hm := mant_z a
  have hne : (a % 4503599627370496 != 0) = !decide (mant a = 0) := by rw [← hm]; rfl
  have he : ((a.toNat / 4503599627370496 % 2048 : Nat) : Int) = (expo a : Int) := rfl
  rw [hne, he]
  by_cases h1 : expo a = 2047
  · rw [h1]
    by_cases h2 : mant a = 0
    · rw [decide_eq_true h2, if_pos h2]; rfl
    · rw [decide_eq_false h2, if_neg h2]; rfl
  · have e1 : ((expo a : Int) == 2047) = false := by simp; omega
    rw [if_neg h1, e1]
    simp only [Bool.false_eq_true, if_false, bs]
    by_cases h0 : expo a = 0
    · rw [h0]
      by_cases h2 : mant a = 0
      · rw [decide_eq_true h2, if_pos h2]; rfl
      · rw [decide_eq_false h2, if_neg h2]; rfl
    · have e0 : ((expo a : Int) != 0) = true := by simp; omega
      rw [e0, if_neg h0]; rfl
theorem rClass_eq (a : UInt64) : braidref05_Class a = some (clsF a) := by
  unfold braidref05_Class braidref05_Fraction clsF
  rw [exp_eq]
  simp only [bs]
  rw [mant_z a]
  have hx := expo_lt a
  show orRet (if ((expo a : Int) == 0) = true then if decide (mant a = 0) = true then some (.inl 1) else some (.inr ()) else some (.inr ())) (fun s5 => if ((expo a : Int) == 0) = true then some 2 else if decide ((expo a : Int) < 2047) = true then some 3 else if decide (mant a = 0) = true then some 4 else some 5) = _
  by_cases h1 : expo a = 2047
  · rw [h1]
    by_cases h2 : mant a = 0 <;> simp [h2, or_r, or_l]
  · by_cases h0 : expo a = 0
    · rw [h0]
      by_cases h2 : mant a = 0 <;> simp [h2, or_r, or_l]
    · have e0 : ((expo a : Int) == 0) = false := by simp; omega
      have e2 : decide ((expo a : Int) < 2047) = true := by simp; omega
      rw [e0, e2, if_neg h1, if_neg h0]; rfl
def canonF (a : UInt64) : UInt64 := if clsF a = 5 then 9221120237041090560 else a
theorem vCanon_eq (a : UInt64) : value_Canon a = some (canonF a) := by
  unfold value_Canon canonF
  rw [vClass_eq]
  simp only [bs]
  by_cases h : clsF a = 5 <;> simp [h]
theorem rCanon_eq (a : UInt64) : braidref05_Canon a = some (canonF a) := by
  unfold braidref05_Canon canonF
  rw [rClass_eq]
  simp only [bs]
  by_cases h : clsF a = 5 <;> simp [h]
theorem vFloat_eq (a : UInt64) : value_Float a = some ⟨2, 0, canonF a, []⟩ := by
  unfold value_Float; rw [vCanon_eq]; rfl
def okV (v : api_Value) : Bool :=
  if v.Kind = 1 then decide (v.Bits = 0) && decide (v.Text = [])
  else if v.Kind = 2 then decide (v.Num = 0) && decide (v.Text = []) && decide (canonF v.Bits = v.Bits)
  else if v.Kind = 3 then decide (v.Num = 0) && decide (v.Bits = 0) && decide (v.Text.length ≤ 30) && v.Text.all okb
  else false
theorem rCheck_eq (v : api_Value) (hb : v.Text.length ≤ 9223372036854775807) : braidref05_Check v = some (if okV v then 0 else 8) := by
  obtain ⟨K, n, f, t⟩ := v
  unfold braidref05_Check okV
  simp only at hb ⊢
  rw [rCanon_eq, Printable_eq t hb]
  by_cases h1 : K = 1
  · subst h1
    by_cases hf : f = 0 <;> by_cases ht : t = [] <;> simp [hf, ht]
  by_cases h2 : K = 2
  · subst h2
    by_cases hn : n = 0 <;> by_cases ht : t = [] <;> by_cases hc : canonF f = f <;> simp [hn, ht, hc, bs]
  by_cases h3 : K = 3
  · subst h3
    by_cases hl : t.length ≤ 30
    · have hl' : (t.length : Int) ≤ 30 := by omega
      by_cases hn : n = 0 <;> by_cases hf : f = 0 <;> cases t.all okb <;> simp [hn, hf, hl, hl', bs]
    · have hl' : ¬ (t.length : Int) ≤ 30 := by omega
      by_cases hn : n = 0 <;> by_cases hf : f = 0 <;> simp [hn, hf, hl, hl', bs]
  · simp [h1, h2, h3]
theorem vCheck_eq (v : api_Value) (hb : v.Text.length ≤ 9223372036854775807) : value_Check v = some (if okV v then 0 else 8) := by
  obtain ⟨K, n, f, t⟩ := v
  unfold value_Check value_Number okV
  simp only at hb ⊢
  rw [vFloat_eq, vText_eq t hb]
  by_cases h1 : K = 1
  · subst h1
    by_cases hf : f = 0 <;> by_cases ht : t = [] <;> simp [hf, ht, bs]
  by_cases h2 : K = 2
  · subst h2
    by_cases hc : canonF f = f
    · by_cases hn : n = 0 <;> by_cases ht : t = [] <;> simp [hn, ht, hc, bs]
    · have hc' : ¬ f = canonF f := fun e => hc e.symm
      by_cases hn : n = 0 <;> by_cases ht : t = [] <;> simp [hn, ht, hc, hc', bs]
  by_cases h3 : K = 3
  · subst h3
    by_cases hl : 30 < (t.length : Int)
    · have h4 : ¬ t.length ≤ 30 := by omega
      rw [decide_eq_true hl, decide_eq_false h4]
      simp [bs]
    · have h4 : t.length ≤ 30 := by omega
      rw [decide_eq_false hl, decide_eq_true h4]
      cases t.all okb <;> by_cases hn : n = 0 <;> by_cases hf : f = 0 <;> simp [hn, hf, bs]
  · have e1 : (K == 1) = false := by simpa using h1
    have e2 : (K == 2) = false := by simpa using h2
    have e3 : (K == 3) = false := by simpa using h3
    simp only [e1, e2, e3, Bool.false_eq_true, if_false, bs, h1, h2, h3]
    by_cases h0 : K = 0
    · subst h0
      split <;> rfl
    · simp [h0]
end Go.Proofs.YtjnheeekdadcpaaGreatDoor
namespace Go.Proofs.YtjnheeekdadcpaaGreatDoor
open Go
set_option linter.unusedSimpArgs false
set_option linter.unusedVariables false
theorem refNum_L0 : ∀ (n : Nat) (a : UInt64) (ds : List UInt8) (N : Nat), a.toNat = n → digits N = ds ++ digits n → (digits N).length ≤ 8 → iter braidref04_Number_L0 (a, ds) = some (digits N) := by
  intro n
  induction n using Nat.strongRecOn with
  | _ n ih =>
    intro a ds N ha hd hl
    by_cases h0 : n = 0
    · subst h0
      refine iter_l ?_
      unfold braidref04_Number_L0
      rw [if_neg (by simp [UInt64.lt_iff_toNat_lt, ha])]
      rw [digits_zero, List.append_nil] at hd
      rw [hd]
    · have hF : braidref04_Number_L0 (a, ds) = some (.inr (a / 256, ds ++ [(a % 256).toUInt8])) := by
        unfold braidref04_Number_L0
        rw [if_pos (by simp [UInt64.lt_iff_toNat_lt, ha]; omega)]
        have : ds.length ≤ 8 := Nat.le_trans (append_left_le hd) hl
        simp only [app_eq (show (ds.length + [(a % 256).toUInt8].length) * 1 ≤ 140737488355328 by simp; omega), bs]
      rw [iter_r hF]
      have hd2 := digits_split N n ds h0 hd
      refine ih (n / 256) (Nat.div_lt_self (by omega) (by omega)) _ _ N ?_ ?_ hl
      · simp [ha]
      · rw [hd2]
        congr 2
        congr 1
        apply UInt8.toNat_inj.1
        simp [ha]
theorem refNum_L2 (s : List UInt8) (hl : s.length ≤ 8) : ∀ (i : Nat) (acc : List UInt8), i ≤ s.length → acc.length + i ≤ 100 → iter (braidref04_Number_L2 s) (acc, (i : Int) - 1) = some (acc ++ (s.take i).reverse)
  | 0, acc, _, _ => by
    refine iter_l ?_
    unfold braidref04_Number_L2
    rw [if_neg (by simp)]; simp
  | i + 1, acc, hi, ha => by
    have hlt : i < s.length := by omega
    have e : ((i + 1 : Nat) : Int) - 1 = (i : Int) := by omega
    have hF : braidref04_Number_L2 s (acc, ((i + 1 : Nat) : Int) - 1) = some (.inr (acc ++ [s[i]], (i : Int) - 1)) := by
      unfold braidref04_Number_L2
      rw [e, if_pos (by simp)]
      simp only [idx_nat hlt, bs]
      rw [app_eq (by simp; omega)]
      simp only [bs, w64_eq (show -9223372036854775808 ≤ (i : Int) - 1 by omega) (by omega)]
    rw [iter_r hF, refNum_L2 s hl i _ (by omega) (by simp; omega)]
    have : List.take (i + 1) s = List.take i s ++ [s[i]] := by rw [List.take_add_one, List.getElem?_eq_getElem hlt]; rfl
    rw [this]; simp only [List.reverse_append, List.reverse_cons, List.reverse_nil, List.nil_append, List.append_assoc]
theorem refNumber_eq (a : UInt64) : braidref04_Number a = some (numBytes a.toNat) := by
  unfold braidref04_Number numBytes
  have h0 := UInt64.toNat_lt a
  by_cases h : a.toNat ≤ 247
  · have h' : decide (a ≤ 247) = true := by simpa [UInt64.le_iff_toNat_le] using h
    rw [if_pos h', if_pos h]
    congr 2
  · have h' : ¬ decide (a ≤ 247) = true := by simpa [UInt64.le_iff_toNat_le] using h
    rw [if_neg h', if_neg h]
    have hd := digits_le a.toNat h0
    rw [refNum_L0 a.toNat a [] a.toNat rfl rfl hd]
    simp only [bs]
    rw [w64_eq (show -9223372036854775808 ≤ ((digits a.toNat).length : Int) - 1 by omega) (by omega), w64_eq (show -9223372036854775808 ≤ 247 + ((digits a.toNat).length : Int) by omega) (by omega)]
    rw [refNum_L2 _ hd _ _ (Nat.le_refl _) (by simp; omega)]
    simp only [bs, List.take_length]
    rw [show (247 + ((digits a.toNat).length : Int)) = ((247 + (digits a.toNat).length : Nat) : Int) by omega]
    congr 1
    show _ :: _ = _
    congr 1
    apply UInt8.toNat_inj.1
    simp [UInt8.ofInt]
    omega
theorem wireNum_L0 (a : UInt64) (k : Nat) (hk : k = (digits a.toNat).length) (hk8 : k ≤ 8) : iter (wire_Number_L0 a (k : Int)) (fillNum a.toNat 0, 0) = some (fillNum a.toNat k) := by
  refine iter_run k (fun i => (fillNum a.toNat i, (i : Int))) (fun i hi => ?_) ?_
  · have hf := fillNum_len a.toNat i (by omega)
    unfold wire_Number_L0
    rw [if_pos (by simp; omega)]
    simp only [w64_eq (show -9223372036854775808 ≤ 8 * (i : Int) by omega) (by omega), chk_true (show (0 : Int) ≤ 8 * (i : Int) by omega), bs, w64_eq (show -9223372036854775808 ≤ (k : Int) - (i : Int) by omega) (by omega), w64_nat (show i < 9223372036854775807 by omega)]
    rw [idx_int (by omega) (by omega)]
    simp only [bs]
    have := fillNum_step a.toNat i (by omega)
    rw [← this]
    have e1 : ((k : Int) - (i : Int)).toNat = (digits a.toNat).length - i := by omega
    have e2 : (shr64 a (8 * (i : Int)).toNat).toUInt8 = UInt8.ofNat (a.toNat / 2 ^ (8 * i)) := by
      apply UInt8.toNat_inj.1
      have e3 : (8 * (i : Int)).toNat = 8 * i := by omega
      rw [e3]
      simp only [UInt64.toNat_toUInt8, shr64_toNat, Nat.min_eq_left (show 8 * i ≤ 64 by omega)]
      simp
    rw [e1, e2]
  · unfold wire_Number_L0
    rw [if_neg (by simp)]
theorem shr_step (a : UInt64) (k : Nat) (hk : k < 64) : (shr64 a k).toNat = a.toNat / 2 ^ k := by rw [shr64_toNat, Nat.min_eq_left (by omega)]
set_option maxRecDepth 100000 in
theorem len64_eq (a : UInt64) : math_bits_Len64 a = some (bitLen a.toNat : Int) := by
  unfold math_bits_Len64
  have h0 := UInt64.toNat_lt a
  have s1 : ∃ (y : UInt64) (n : Nat), (if decide (4294967296 ≤ a) then some (shr64 a 32, (32 : Int)) else some (a, 0)) = some (y, (n : Int)) ∧ y.toNat < 2 ^ 32 ∧ n ≤ 32 ∧ bitLen a.toNat = n + bitLen y.toNat := by
    by_cases h : 4294967296 ≤ a.toNat
    · refine ⟨shr64 a 32, 32, by rw [if_pos (by simpa [UInt64.le_iff_toNat_le] using h)]; rfl, ?_, by omega, ?_⟩
      · rw [shr_step a 32 (by omega)]; omega
      · rw [shr_step a 32 (by omega)]; exact bitLen_shift _ 32 (by omega)
    · exact ⟨a, 0, by rw [if_neg (by simpa [UInt64.le_iff_toNat_le] using h)]; rfl, by omega, by omega, by omega⟩
  obtain ⟨y, n, e1, hy, hn, hb⟩ := s1
  rw [e1]; simp only [bs]
  have s2 : ∃ (z : UInt64) (k : Nat), (if decide (65536 ≤ y) then some (shr64 y 16) >>= fun y5 => some (w64 ((n : Int) + 16)) >>= fun y6 => some (y5, y6) else some (y, (n : Int))) = some (z, (k : Int)) ∧ z.toNat < 2 ^ 16 ∧ k ≤ 48 ∧ bitLen a.toNat = k + bitLen z.toNat := by
    by_cases h : 65536 ≤ y.toNat
    · refine ⟨shr64 y 16, n + 16, by rw [if_pos (by simpa [UInt64.le_iff_toNat_le] using h)]; simp only [bs, w64_eq (show -9223372036854775808 ≤ (n : Int) + 16 by omega) (by omega)]; rfl, ?_, by omega, ?_⟩
      · rw [shr_step y 16 (by omega)]; omega
      · rw [shr_step y 16 (by omega), hb, bitLen_shift y.toNat 16 (by omega)]; omega
    · exact ⟨y, n, by rw [if_neg (by simpa [UInt64.le_iff_toNat_le] using h)], by omega, by omega, hb⟩
  obtain ⟨z, k, e2, hz, hk, hb2⟩ := s2
  simp only [bs] at e2
  rw [e2]; simp only [bs]
  have s3 : ∃ (x : UInt64) (j : Nat), (if decide (256 ≤ z) then some (w64 ((k : Int) + 8)) >>= fun y9 => some (shr64 z 8, y9) else some (z, (k : Int))) = some (x, (j : Int)) ∧ x.toNat < 256 ∧ j ≤ 56 ∧ bitLen a.toNat = j + bitLen x.toNat := by
    by_cases h : 256 ≤ z.toNat
    · refine ⟨shr64 z 8, k + 8, by rw [if_pos (by simpa [UInt64.le_iff_toNat_le] using h)]; simp only [bs, w64_eq (show -9223372036854775808 ≤ (k : Int) + 8 by omega) (by omega)]; rfl, ?_, by omega, ?_⟩
      · rw [shr_step z 8 (by omega)]; omega
      · rw [shr_step z 8 (by omega), hb2, bitLen_shift z.toNat 8 (by omega)]; omega
    · exact ⟨z, k, by rw [if_neg (by simpa [UInt64.le_iff_toNat_le] using h)], by omega, by omega, hb2⟩
  obtain ⟨x, j, e3, hx, hj, hb3⟩ := s3
  simp only [bs] at e3
  rw [e3]; simp only [bs]
  have ht := len8_all ⟨x.toNat, hx⟩
  have hx8 : (x.toUInt8.toNat : Int) = ((x.toNat : Nat) : Int) := by simp; omega
  have hle : bitLen x.toNat ≤ 8 := bitLen_le _ 8 (by omega)
  rw [hx8]
  have hlist : ∀ (l : List UInt8), l = len8tab.data.toList → idx l ((x.toNat : Nat) : Int) = some (UInt8.ofNat (bitLen x.toNat)) := fun l hl => by
    subst hl
    unfold idx
    rw [if_pos (by omega)]
    simpa using ht
  refine Eq.trans (congrArg (fun o : Option UInt8 => o >>= fun x10 => some (w64 ((j : Int) + (x10.toNat : Int)))) (hlist _ ?hh)) ?_
  case hh => rfl
  simp only [bs]
  have e4 : ((UInt8.ofNat (bitLen x.toNat)).toNat : Int) = (bitLen x.toNat : Int) := by simp; omega
  rw [e4, w64_eq (by omega) (by omega), hb3]
  simp
theorem wireNumber_eq (a : UInt64) : wire_Number a = some (numBytes a.toNat) := by
  unfold wire_Number
  have h0 := UInt64.toNat_lt a
  by_cases h : a.toNat ≤ 247
  · have h' : decide (a ≤ 247) = true := by simpa [UInt64.le_iff_toNat_le] using h
    unfold numBytes
    rw [if_pos h', if_pos h]
    congr 2
  · have h' : ¬ decide (a ≤ 247) = true := by simpa [UInt64.le_iff_toNat_le] using h
    rw [if_neg h', len64_eq]
    have hd := digits_le a.toNat h0
    have hl := digits_len a.toNat
    have hb : bitLen a.toNat ≤ 64 := bitLen_le _ 64 h0
    simp only [bs]
    rw [w64_eq (show -9223372036854775808 ≤ (bitLen a.toNat : Int) + 7 by omega) (by omega)]
    have e1 : Int.tdiv ((bitLen a.toNat : Int) + 7) 8 = ((digits a.toNat).length : Int) := by
      rw [hl, show ((bitLen a.toNat : Int) + 7) = ((bitLen a.toNat + 7 : Nat) : Int) by omega]
      rfl
    rw [e1, w64_eq (show -9223372036854775808 ≤ ((digits a.toNat).length : Int) by omega) (by omega), w64_nat (by omega), mkn_eq (by omega) (by omega)]
    simp only [bs]
    rw [show (0 : Int) = ((0 : Nat) : Int) from rfl, idx_nat (by simp)]
    simp only [bs, Int.toNat_natCast]
    rw [w64_eq (show -9223372036854775808 ≤ 247 + ((digits a.toNat).length : Int) by omega) (by omega)]
    have e2 : UInt8.ofInt (247 + ((digits a.toNat).length : Int)) = UInt8.ofNat (247 + (digits a.toNat).length) := by
      apply UInt8.toNat_inj.1
      rw [show (247 + ((digits a.toNat).length : Int)) = ((247 + (digits a.toNat).length : Nat) : Int) by omega]
      simp [UInt8.ofInt]
      omega
    have := fillNum_zero a.toNat
    rw [e2, this]
    have := wireNum_L0 a (digits a.toNat).length rfl hd
    rw [show (0 : Int) = ((0 : Nat) : Int) from rfl] at this
    rw [this]
    simp only [bs]
    rw [fillNum_last a.toNat (by omega)]
end Go.Proofs.YtjnheeekdadcpaaGreatDoor
namespace Go.Proofs.YtjnheeekdadcpaaGreatDoor
open Go
set_option linter.unusedSimpArgs false
set_option linter.unusedVariables false
theorem okV3 {v : api_Value} (h : okV v = true) (k : v.Kind = 3) : v.Num = 0 ∧ v.Bits = 0 ∧ v.Text.length ≤ 30 ∧ v.Text.all okb = true := by
  unfold okV at h; rw [if_neg (by rw [k]; decide), if_neg (by rw [k]; decide), if_pos k] at h
  simp only [Bool.and_eq_true, decide_eq_true_eq] at h
  exact ⟨h.1.1.1, h.1.1.2, h.1.2, h.2⟩
theorem okV_kind {v : api_Value} (h : okV v = true) : v.Kind = 1 ∨ v.Kind = 2 ∨ v.Kind = 3 := by
  by_cases h1 : v.Kind = 1
  · exact .inl h1
  by_cases h2 : v.Kind = 2
  · exact .inr (.inl h2)
  by_cases h3 : v.Kind = 3
  · exact .inr (.inr h3)
  · unfold okV at h; simp [h1, h2, h3] at h
theorem xor_ones (x : UInt64) : (x ^^^ 18446744073709551615).toNat = 18446744073709551615 - x.toNat := by
  have e : x ^^^ 18446744073709551615 = ~~~x := by
    apply UInt64.eq_of_toBitVec_eq
    rw [UInt64.toBitVec_xor, UInt64.toBitVec_not]
    exact BitVec.xor_allOnes
  rw [e, UInt64.toNat_not]; rfl
theorem ofInt_toNat (n : Int) : (UInt64.ofInt n).toNat = (n % 18446744073709551616).toNat := by
  simp [UInt64.ofInt]; omega
theorem zig_u (n : Int) (h : inI n) : ((shl64 (UInt64.ofInt n) 1) ^^^ (UInt64.ofInt (shrI n 63))).toNat = zig n := by
  obtain ⟨h1, h2⟩ := h
  have es : (shl64 (UInt64.ofInt n) 1).toNat = (n % 18446744073709551616).toNat * 2 % 18446744073709551616 := by
    rw [shl64_toNat, ofInt_toNat]; rfl
  by_cases h0 : 0 ≤ n
  · have e : shrI n 63 = 0 := by
      unfold shrI
      rw [show (2 : Int) ^ (min 63 64) = 9223372036854775808 from rfl, Int.fdiv_eq_ediv_of_nonneg _ (by omega)]; omega
    rw [e, show UInt64.ofInt 0 = 0 from rfl, UInt64.xor_zero, es]
    unfold zig; rw [if_pos h0]; omega
  · have e : shrI n 63 = -1 := by
      unfold shrI
      rw [show (2 : Int) ^ (min 63 64) = 9223372036854775808 from rfl, Int.fdiv_eq_ediv_of_nonneg _ (by omega)]; omega
    rw [e, show UInt64.ofInt (-1) = 18446744073709551615 from rfl, xor_ones, es]
    unfold zig; rw [if_neg h0]; omega
theorem signed_eq (n : Int) (h : inI n) : wire_Signed n = some (numBytes (zig n)) := by
  unfold wire_Signed
  rw [wireNumber_eq, zig_u n h]; rfl
theorem wbytes_eq (s : List UInt8) (h : s.length ≤ 10000) : wire_Bytes s = some (numBytes s.length ++ s, 0) := by
  unfold wire_Bytes
  rw [if_neg (by simp; omega), wireNumber_eq]
  have e : (UInt64.ofInt (s.length : Int)).toNat = s.length := by rw [ofInt_toNat]; omega
  have := numBytes_len s.length (by omega)
  simp only [bs, e]
  rw [app_eq (by omega)]; rfl
def be8 (b : UInt64) : List UInt8 := [(shr64 b 56).toUInt8, (shr64 b 48).toUInt8, (shr64 b 40).toUInt8, (shr64 b 32).toUInt8, (shr64 b 24).toUInt8, (shr64 b 16).toUInt8, (shr64 b 8).toUInt8, (shr64 b 0).toUInt8]
theorem encF_step (v : api_Value) (l : List UInt8) (k : Nat) (hl : l.length ≤ 100) (hk : k ≤ 56) : value_Encode_L1 v (l, (k : Int)) = some (.inr (l ++ [(shr64 v.Bits k).toUInt8], (k : Int) - 8)) := by
  unfold value_Encode_L1
  rw [if_pos (by simp)]
  simp only
  rw [chk_true (by omega)]
  simp only [bs, Int.toNat_natCast]
  rw [app_eq (by simp; omega)]
  simp only [bs]
  rw [w64_eq (by omega) (by omega)]
theorem encF_run (v : api_Value) : iter (value_Encode_L1 v) ([v.Kind], 56) = some (v.Kind :: be8 v.Bits) := by
  have hs := fun l k h1 h2 => encF_step v l k h1 h2
  rw [show (56 : Int) = ((56 : Nat) : Int) from rfl, iter_r (hs [v.Kind] 56 (by simp) (by omega))]
  simp only [List.cons_append, List.nil_append, show ((56 : Nat) : Int) - 8 = ((48 : Nat) : Int) from rfl]
  rw [iter_r (hs _ 48 (by simp) (by omega))]
  simp only [List.cons_append, List.nil_append, show ((48 : Nat) : Int) - 8 = ((40 : Nat) : Int) from rfl]
  rw [iter_r (hs _ 40 (by simp) (by omega))]
  simp only [List.cons_append, List.nil_append, show ((40 : Nat) : Int) - 8 = ((32 : Nat) : Int) from rfl]
  rw [iter_r (hs _ 32 (by simp) (by omega))]
  simp only [List.cons_append, List.nil_append, show ((32 : Nat) : Int) - 8 = ((24 : Nat) : Int) from rfl]
  rw [iter_r (hs _ 24 (by simp) (by omega))]
  simp only [List.cons_append, List.nil_append, show ((24 : Nat) : Int) - 8 = ((16 : Nat) : Int) from rfl]
  rw [iter_r (hs _ 16 (by simp) (by omega))]
  simp only [List.cons_append, List.nil_append, show ((16 : Nat) : Int) - 8 = ((8 : Nat) : Int) from rfl]
  rw [iter_r (hs _ 8 (by simp) (by omega))]
  simp only [List.cons_append, List.nil_append, show ((8 : Nat) : Int) - 8 = ((0 : Nat) : Int) from rfl]
  rw [iter_r (hs _ 0 (by simp) (by omega))]
  simp only [List.cons_append, List.nil_append]
  refine iter_l ?_
  unfold value_Encode_L1
  rw [if_neg (by simp)]; rfl
def encV (v : api_Value) : List UInt8 := v.Kind :: (if v.Kind = 1 then numBytes (zig v.Num) else if v.Kind = 2 then be8 v.Bits else numBytes v.Text.length ++ v.Text)
theorem zig_in {n : Int} (h : inI n) : zig n < 18446744073709551616 := zig_lt h.1 h.2
theorem enc_eq (v : api_Value) (hI : inI v.Num) (hl : v.Text.length ≤ 9223372036854775807) : value_Encode v = some (if okV v then (encV v, 0) else ([], 8)) := by
  unfold value_Encode
  rw [vCheck_eq v hl]
  cases hv : okV v
  · rfl
  simp only [bs, if_true]
  rw [if_neg (by simp)]
  unfold encV
  rcases okV_kind hv with k | k | k
  · have h1 := numBytes_len (zig v.Num) (zig_in hI)
    rw [k, signed_eq v.Num hI]
    simp only [bs]
    rw [if_pos (by decide), app_eq (by simp; omega)]; simp [bs]
  · rw [k, if_neg (by decide), if_pos (by decide), if_neg (by decide), if_pos rfl, ← k, encF_run]; rfl
  · have h3 := (okV3 hv k).2.2.1
    have h1 := numBytes_len v.Text.length (by omega)
    rw [k, wbytes_eq v.Text (by omega)]
    rw [if_neg (by decide), if_neg (by decide), if_pos (by decide), if_neg (by decide), if_neg (by decide), chk_true (by omega)]
    simp only [bs]
    rw [app_eq (by simp; omega)]; rfl
theorem refSigned_eq (n : Int) (h : inI n) : braidref04_Signed n = some (numBytes (zig n)) := by
  obtain ⟨h1, h2⟩ := h
  unfold braidref04_Signed
  by_cases h0 : 0 ≤ n
  · rw [if_pos (by simpa using h0), refNumber_eq]
    have e : (2 * UInt64.ofInt n).toNat = zig n := by
      rw [UInt64.toNat_mul, ofInt_toNat, show (2 : UInt64).toNat = 2 from rfl]
      unfold zig; rw [if_pos h0]; omega
    rw [e]; rfl
  · rw [if_neg (by simpa using h0), refNumber_eq]
    have e : ((2 * UInt64.ofInt (w64 (0 - (w64 (n + 1))))) + 1).toNat = zig n := by
      rw [w64_eq (x := n + 1) (by omega) (by omega), w64_eq (by omega) (by omega), UInt64.toNat_add, UInt64.toNat_mul, ofInt_toNat, show (2 : UInt64).toNat = 2 from rfl, show (1 : UInt64).toNat = 1 from rfl]
      unfold zig; rw [if_neg h0]; omega
    rw [e]; rfl
theorem refText_eq (s : List UInt8) (h : s.length ≤ 100000) : braidref04_Text s = some (numBytes s.length ++ s) := by
  unfold braidref04_Text
  rw [refNumber_eq]
  have e : (UInt64.ofInt (s.length : Int)).toNat = s.length := by rw [ofInt_toNat]; omega
  have := numBytes_len s.length (by omega)
  rw [e]
  simp only [bs]
  rw [app_eq (by omega)]; rfl
theorem rByt_step (v : api_Value) (l : List UInt8) (k : Nat) (hl : l.length ≤ 100) (hk : k ≤ 7) : braidref05_Bytes_L1 v (l, (k : Int)) = some (.inr (l ++ [(shr64 v.Bits (8 * k)).toUInt8], (k : Int) - 1)) := by
  unfold braidref05_Bytes_L1
  rw [if_pos (by simp)]
  simp only
  have e : w64 (8 * (k : Int)) = ((8 * k : Nat) : Int) := by rw [w64_eq (by omega) (by omega)]; omega
  rw [e, chk_true (by omega)]
  simp only [bs, Int.toNat_natCast]
  rw [app_eq (by simp; omega)]
  simp only [bs]
  rw [w64_eq (by omega) (by omega)]
theorem rByt_run (v : api_Value) : iter (braidref05_Bytes_L1 v) ([v.Kind], 7) = some (v.Kind :: be8 v.Bits) := by
  have hs := fun l k h1 h2 => rByt_step v l k h1 h2
  rw [show (7 : Int) = ((7 : Nat) : Int) from rfl, iter_r (hs [v.Kind] 7 (by simp) (by omega))]
  simp only [List.cons_append, List.nil_append, show ((7 : Nat) : Int) - 1 = ((6 : Nat) : Int) from rfl]
  rw [iter_r (hs _ 6 (by simp) (by omega))]
  simp only [List.cons_append, List.nil_append, show ((6 : Nat) : Int) - 1 = ((5 : Nat) : Int) from rfl]
  rw [iter_r (hs _ 5 (by simp) (by omega))]
  simp only [List.cons_append, List.nil_append, show ((5 : Nat) : Int) - 1 = ((4 : Nat) : Int) from rfl]
  rw [iter_r (hs _ 4 (by simp) (by omega))]
  simp only [List.cons_append, List.nil_append, show ((4 : Nat) : Int) - 1 = ((3 : Nat) : Int) from rfl]
  rw [iter_r (hs _ 3 (by simp) (by omega))]
  simp only [List.cons_append, List.nil_append, show ((3 : Nat) : Int) - 1 = ((2 : Nat) : Int) from rfl]
  rw [iter_r (hs _ 2 (by simp) (by omega))]
  simp only [List.cons_append, List.nil_append, show ((2 : Nat) : Int) - 1 = ((1 : Nat) : Int) from rfl]
  rw [iter_r (hs _ 1 (by simp) (by omega))]
  simp only [List.cons_append, List.nil_append, show ((1 : Nat) : Int) - 1 = ((0 : Nat) : Int) from rfl]
  rw [iter_r (hs _ 0 (by simp) (by omega))]
  simp only [List.cons_append, List.nil_append]
  refine iter_l ?_
  unfold braidref05_Bytes_L1
  rw [if_neg (by simp)]; rfl
theorem rBytes_eq (v : api_Value) (hI : inI v.Num) (hv : okV v = true) : braidref05_Bytes v = some (encV v) := by
  unfold encV braidref05_Bytes
  rcases okV_kind hv with k | k | k
  · have h1 := numBytes_len (zig v.Num) (zig_in hI)
    rw [k, refSigned_eq v.Num hI]
    simp only [bs]
    rw [if_pos (by decide), app_eq (by simp; omega)]; simp [bs]
  · rw [k, if_neg (by decide), if_pos (by decide), if_neg (by decide), if_pos rfl, ← k, rByt_run]; rfl
  · have h3 := (okV3 hv k).2.2.1
    have h1 := numBytes_len v.Text.length (by omega)
    rw [k, refText_eq v.Text (by omega)]
    rw [if_neg (by decide), if_neg (by decide), if_neg (by decide), if_neg (by decide), chk_true (by omega)]
    simp only [bs]
    rw [app_eq (by simp; omega)]; rfl
end Go.Proofs.YtjnheeekdadcpaaGreatDoor
namespace Go.Proofs.YtjnheeekdadcpaaGreatDoor
open Go
set_option linter.unusedSimpArgs false
set_option linter.unusedVariables false
theorem cmp_from (a b : Vector UInt8 32) : ∀ (n i : Nat), 32 - i = n → i ≤ 32 → ∃ r : Sum Int Unit, iter (braidref01_Cmp_L0 a b) (i : Int) = some r ∧ (orRet (some r) (fun _ => some 0) = some (Lib.compareBytes (a.toList.drop i) (b.toList.drop i))) := by
  intro n
  induction n with
  | zero =>
    intro i hn hi
    have : i = 32 := by omega
    subst this
    refine ⟨.inr (), iter_l ?_, ?_⟩
    · unfold braidref01_Cmp_L0; rw [if_neg (by simp)]
    · rw [List.drop_eq_nil_of_le (by simp), List.drop_eq_nil_of_le (by simp)]; rfl
  | succ n ih =>
    intro i hn hi
    have hlt : i < 32 := by omega
    have da : a.toList.drop i = a[i] :: a.toList.drop (i + 1) := by rw [List.drop_eq_getElem_cons (by simpa using hlt)]; simp
    have db : b.toList.drop i = b[i] :: b.toList.drop (i + 1) := by rw [List.drop_eq_getElem_cons (by simpa using hlt)]; simp
    have hF : braidref01_Cmp_L0 a b (i : Int) = if decide (a[i] < b[i]) then some (.inl (.inl (-1))) else if decide (b[i] < a[i]) then some (.inl (.inl 1)) else some (.inr ((i + 1 : Nat) : Int)) := by
      unfold braidref01_Cmp_L0
      rw [if_pos (by simp; omega)]
      simp only [vidx_nat hlt, bs, w64_nat (show i < 9223372036854775807 by omega)]
    rw [da, db, Lib.compareBytes]
    by_cases h1 : a[i] < b[i]
    · rw [decide_eq_true h1] at hF
      exact ⟨_, iter_l hF, by rw [if_pos h1]; rfl⟩
    · rw [decide_eq_false h1] at hF
      by_cases h2 : b[i] < a[i]
      · rw [decide_eq_true h2] at hF
        exact ⟨_, iter_l hF, by rw [if_neg h1, if_pos h2]; rfl⟩
      · rw [decide_eq_false h2] at hF
        obtain ⟨r, k1, k2⟩ := ih (i + 1) (by omega) (by omega)
        exact ⟨r, by rw [iter_r hF]; exact k1, by rw [if_neg h1, if_neg h2]; exact k2⟩
theorem refCmp_eq (a b : Vector UInt8 32) : braidref01_Cmp a b = some (Lib.compareBytes a.toList b.toList) := by
  obtain ⟨r, h1, h2⟩ := cmp_from a b 32 0 rfl (by omega)
  unfold braidref01_Cmp
  rw [show (0 : Int) = ((0 : Nat) : Int) from rfl, h1]
  simpa using h2
theorem cmp_eq7 (a b : Vector UInt8 32) : digest_Cmp a b = some (Lib.compareBytes a.toList b.toList) := by
  unfold digest_Cmp bytes_Compare; rfl
def incr : List (Vector UInt8 32) → Bool
  | a :: b :: l => !decide (0 ≤ Lib.compareBytes a.toList b.toList) && incr (b :: l)
  | _ => true
theorem rising_from (l : List (Vector UInt8 32)) (hl : l.length ≤ 9223372036854775807) : ∀ (n i : Nat), l.length - i = n → 1 ≤ i → i ≤ l.length → iter (braidref04_Rising_L0 l) (i : Int) = some (if incr (l.drop (i - 1)) then .inr () else .inl false) := by
  intro n
  induction n with
  | zero =>
    intro i hn h1 hi
    have : i = l.length := by omega
    refine iter_l ?_
    have e : l.drop (i - 1) = [l[i - 1]'(by omega)] := by
      rw [List.drop_eq_getElem_cons (by omega), List.drop_eq_nil_of_le (by omega)]
    rw [e]
    unfold braidref04_Rising_L0
    rw [if_neg (by simp; omega)]
    simp [incr]
  | succ n ih =>
    intro i hn h1 hi
    have hlt : i < l.length := by omega
    have e : l.drop (i - 1) = l[i - 1] :: l[i] :: l.drop (i + 1) := by
      rw [List.drop_eq_getElem_cons (by omega), show i - 1 + 1 = i by omega, List.drop_eq_getElem_cons hlt]
    have e' : l.drop (i + 1 - 1) = l[i] :: l.drop (i + 1) := by rw [Nat.add_sub_cancel, List.drop_eq_getElem_cons hlt]
    have hF : braidref04_Rising_L0 l (i : Int) = if decide (0 ≤ Lib.compareBytes (l[i - 1]).toList (l[i]).toList) then some (.inl (.inl false)) else some (.inr ((i + 1 : Nat) : Int)) := by
      unfold braidref04_Rising_L0
      rw [if_pos (by simp; omega), w64_eq (by omega) (by omega), show ((i : Int) - 1) = ((i - 1 : Nat) : Int) by omega]
      simp only [idx_nat hlt, idx_nat (show i - 1 < l.length by omega), bs, refCmp_eq, w64_nat (show i < 9223372036854775807 by omega)]
    rw [e, incr]
    cases hc : decide (0 ≤ Lib.compareBytes (l[i - 1]).toList (l[i]).toList) with
    | true => rw [hc] at hF; rw [iter_l hF]; rfl
    | false =>
      rw [hc] at hF
      rw [iter_r hF, ih (i + 1) (by omega) (by omega) (by omega), e']; simp
theorem Rising_eq (l : List (Vector UInt8 32)) (hl : l.length ≤ 9223372036854775807) : braidref04_Rising l = some (incr l) := by
  unfold braidref04_Rising
  cases l with
  | nil =>
    rw [iter_l (b := .inr ()) (by unfold braidref04_Rising_L0; rw [if_neg (by simp)])]; rfl
  | cons x l =>
    have := rising_from (x :: l) hl _ 1 rfl (by omega) (by simp)
    rw [show (1 : Int) = ((1 : Nat) : Int) from rfl, this]
    simp only [Nat.sub_self, List.drop_zero]
    cases incr (x :: l) <;> rfl
theorem wrising_from (l : List (Vector UInt8 32)) (hl : l.length ≤ 9223372036854775806) : ∀ (n i : Nat), l.length - i = n → i ≤ l.length → ∃ r, iter (slices_IndexFunc_api_ID_api_ID_wire_rising_1_L0 l l) ((i : Int), (i : Int)) = some r ∧ (incr (l.drop i) = true → ∃ c, r = .inr c) ∧ (incr (l.drop i) = false → ∃ (k : Nat) (c : Int), r = .inl ((k : Int), c)) := by
  intro n
  induction n with
  | zero =>
    intro i hn hi
    have : i = l.length := by omega
    refine ⟨.inr (i : Int), iter_l ?_, fun _ => ⟨_, rfl⟩, fun h => ?_⟩
    · unfold slices_IndexFunc_api_ID_api_ID_wire_rising_1_L0
      rw [if_neg (by simp; omega)]
    · rw [List.drop_eq_nil_of_le (by omega)] at h; simp [incr] at h
  | succ n ih =>
    intro i hn hi
    have hlt : i < l.length := by omega
    by_cases h2 : i + 1 < l.length
    · have e : l.drop i = l[i] :: l[i + 1] :: l.drop (i + 2) := by rw [List.drop_eq_getElem_cons hlt, List.drop_eq_getElem_cons h2]
      have e' : l.drop (i + 1) = l[i + 1] :: l.drop (i + 2) := by rw [List.drop_eq_getElem_cons h2]
      have hF : slices_IndexFunc_api_ID_api_ID_wire_rising_1_L0 l l ((i : Int), (i : Int)) = if decide (0 ≤ Lib.compareBytes (l[i]).toList (l[i + 1]).toList) then some (.inl (.inl ((i : Int), ((i + 1 : Nat) : Int)))) else some (.inr (((i + 1 : Nat) : Int), ((i + 1 : Nat) : Int))) := by
        unfold slices_IndexFunc_api_ID_api_ID_wire_rising_1_L0 wire_rising_1
        rw [if_pos (by simp; omega)]
        simp only [idx_nat hlt, bs, w64_nat (show i < 9223372036854775807 by omega)]
        rw [if_pos (by simp; omega), w64_eq (by omega) (by omega), show ((i + 1 : Nat) : Int) - 1 = (i : Int) by omega]
        simp only [idx_nat hlt, idx_nat h2, bs, cmp_eq7]
      rw [e, incr]
      cases hc : decide (0 ≤ Lib.compareBytes (l[i]).toList (l[i + 1]).toList) with
      | true =>
        rw [hc] at hF
        exact ⟨_, iter_l hF, fun h => by simp at h, fun _ => ⟨i, _, rfl⟩⟩
      | false =>
        rw [hc] at hF
        obtain ⟨r, k1, k2, k3⟩ := ih (i + 1) (by omega) (by omega)
        rw [e'] at k2 k3
        exact ⟨r, by rw [iter_r hF]; exact k1, fun h => k2 (by simpa using h), fun h => k3 (by simpa using h)⟩
    · have e : l.drop i = [l[i]] := by rw [List.drop_eq_getElem_cons hlt, List.drop_eq_nil_of_le (by omega)]
      have hF : slices_IndexFunc_api_ID_api_ID_wire_rising_1_L0 l l ((i : Int), (i : Int)) = some (.inr (((i + 1 : Nat) : Int), ((i + 1 : Nat) : Int))) := by
        unfold slices_IndexFunc_api_ID_api_ID_wire_rising_1_L0 wire_rising_1
        rw [if_pos (by simp; omega)]
        simp only [idx_nat hlt, bs, w64_nat (show i < 9223372036854775807 by omega)]
        rw [if_neg (by simp; omega)]
        simp only [bs]; rfl
      obtain ⟨r, k1, k2, k3⟩ := ih (i + 1) (by omega) (by omega)
      rw [List.drop_eq_nil_of_le (by omega)] at k2 k3
      exact ⟨r, by rw [iter_r hF]; exact k1, fun _ => k2 rfl, fun h => by rw [e] at h; simp [incr] at h⟩
theorem wrising_eq (l : List (Vector UInt8 32)) (hl : l.length ≤ 9223372036854775806) : wire_rising l = some (incr l) := by
  obtain ⟨r, k1, k2, k3⟩ := wrising_from l hl _ 0 rfl (by omega)
  unfold wire_rising slices_ContainsFunc_api_ID_api_ID_wire_rising_1 slices_IndexFunc_api_ID_api_ID_wire_rising_1
  rw [show ((0 : Int), (0 : Int)) = (((0 : Nat) : Int), ((0 : Nat) : Int)) from rfl, k1]
  simp only [List.drop_zero] at k2 k3
  cases h : incr l with
  | true => obtain ⟨c, rfl⟩ := k2 h; rfl
  | false =>
    obtain ⟨k, c, rfl⟩ := k3 h
    simp only [or_l, bs]
    rw [decide_eq_true (by omega)]; rfl
def idsL (l : List (Vector UInt8 32)) : List UInt8 := l.flatMap Vector.toList
theorem idsL_len (l : List (Vector UInt8 32)) : (idsL l).length = 32 * l.length := by
  induction l with
  | nil => rfl
  | cons x l ih => unfold idsL at ih ⊢; rw [List.flatMap_cons, List.length_append, ih]; simp; omega
theorem idsL_take (l : List (Vector UInt8 32)) (i : Nat) (hi : i < l.length) : idsL (l.take (i + 1)) = idsL (l.take i) ++ (l[i]).toList := by
  rw [List.take_add_one, List.getElem?_eq_getElem hi]; unfold idsL; rw [List.flatMap_append, Option.toList_some, List.flatMap_cons, List.flatMap_nil, List.append_nil]
theorem list_L0 (l : List (Vector UInt8 32)) (h : l.length ≤ 1000) (s : List UInt8) (hs : s.length ≤ 9) : iter (braidref04_List_L0 l) (s, 0) = some (s ++ idsL l) := by
  have := iter_run (F := braidref04_List_L0 l) (b := s ++ idsL l) l.length (fun i => (s ++ idsL (l.take i), (i : Int))) (fun i hi => ?_) ?_
  · simpa [idsL] using this
  · unfold braidref04_List_L0
    have hf := idsL_len (l.take i)
    rw [if_pos (by simp; omega)]
    simp only [idx_nat hi, bs]
    rw [app_eq (by simp at hf ⊢; omega)]
    simp only [bs, w64_nat (show i < 9223372036854775807 by omega), idsL_take l i hi, List.append_assoc]
  · unfold braidref04_List_L0
    rw [if_neg (by simp)]
    simp
theorem ids_L0 (l : List (Vector UInt8 32)) (h : l.length ≤ 1000) (s : List UInt8) (hs : s.length ≤ 9) : iter (wire_IDs_L0 l) (s, 0) = some (s ++ idsL l) := by
  have := iter_run (F := wire_IDs_L0 l) (b := s ++ idsL l) l.length (fun i => (s ++ idsL (l.take i), (i : Int))) (fun i hi => ?_) ?_
  · simpa [idsL] using this
  · unfold wire_IDs_L0
    have hf := idsL_len (l.take i)
    rw [if_pos (by simp; omega)]
    simp only [idx_nat hi, bs]
    rw [app_eq (by simp at hf ⊢; omega)]
    simp only [bs, w64_nat (show i < 9223372036854775807 by omega), idsL_take l i hi, List.append_assoc]
  · unfold wire_IDs_L0
    rw [if_neg (by simp)]
    simp
theorem ofInt_len {n : Nat} (h : n < 18446744073709551616) : (UInt64.ofInt (n : Int)).toNat = n := by
  simp [UInt64.ofInt]; omega
theorem list_eq7 (l : List (Vector UInt8 32)) (h : l.length ≤ 1000) : braidref04_List l = some (numBytes l.length ++ idsL l) := by
  unfold braidref04_List
  have hn := numBytes_len l.length (by omega)
  rw [refNumber_eq, ofInt_len (by omega)]
  simp only [bs]
  rw [list_L0 l h _ (by omega)]; rfl
theorem ids_eq7 (l : List (Vector UInt8 32)) (h : l.length ≤ 60) (hi : incr l = true) : wire_IDs l = some (numBytes l.length ++ idsL l, 0) := by
  unfold wire_IDs
  have hn := numBytes_len l.length (by omega)
  rw [if_neg (by simp; omega), wrising_eq l (by omega), hi, wireNumber_eq, ofInt_len (by omega)]
  simp only [bs, Bool.not_true, Bool.false_eq_true, if_false]
  rw [ids_L0 l (by omega) _ (by omega)]; rfl
end Go.Proofs.YtjnheeekdadcpaaGreatDoor
namespace Go.Proofs.YtjnheeekdadcpaaGreatDoor
open Go
set_option linter.unusedSimpArgs false
set_option linter.unusedVariables false
def nk : List UInt8 → Nat
  | [] => 0
  | a :: l => a.toNat * 256 ^ l.length + nk l
theorem nk_lt : ∀ l : List UInt8, nk l < 256 ^ l.length
  | [] => by simp [nk]
  | a :: l => by
    have ih := nk_lt l
    have ha := UInt8.toNat_lt a
    simp only [nk, List.length_cons, Nat.pow_succ]
    have h1 : (a.toNat + 1) * 256 ^ l.length ≤ 256 * 256 ^ l.length := Nat.mul_le_mul_right _ (by omega)
    rw [Nat.add_mul, Nat.one_mul] at h1
    omega
theorem cmp_nk : ∀ a b : List UInt8, a.length = b.length → Lib.compareBytes a b = (if nk a < nk b then -1 else if nk b < nk a then 1 else 0) ∧ (nk a = nk b → a = b)
  | [], [], _ => by simp [Lib.compareBytes, nk]
  | [], _ :: _, h => by simp at h
  | _ :: _, [], h => by simp at h
  | a :: x, b :: y, h => by
    have hl : x.length = y.length := by simpa using h
    obtain ⟨i1, i2⟩ := cmp_nk x y hl
    have lx := nk_lt x
    have ly := nk_lt y
    simp only [Lib.compareBytes, nk, hl] at *
    have e : ∀ u v : UInt8, u.toNat < v.toNat → u.toNat * 256 ^ y.length + 256 ^ y.length ≤ v.toNat * 256 ^ y.length := fun u v huv => by
      have := Nat.mul_le_mul_right (256 ^ y.length) (show u.toNat + 1 ≤ v.toNat from huv)
      rwa [Nat.add_mul, Nat.one_mul] at this
    by_cases h1 : a < b
    · have h1' : a.toNat < b.toNat := UInt8.lt_iff_toNat_lt.1 h1
      have := e a b h1'
      rw [if_pos h1, if_pos (by omega)]
      exact ⟨rfl, fun h => by omega⟩
    · by_cases h2 : b < a
      · have h2' : b.toNat < a.toNat := UInt8.lt_iff_toNat_lt.1 h2
        have := e b a h2'
        rw [if_neg h1, if_pos h2, if_neg (by omega), if_pos (by omega)]
        exact ⟨rfl, fun h => by omega⟩
      · have h3 : a = b := UInt8.toNat_inj.1 (by rw [UInt8.lt_iff_toNat_lt] at h1 h2; omega)
        subst h3
        rw [if_neg h1, if_neg h1, i1]
        refine ⟨?_, fun h => by rw [i2 (by omega)]⟩
        by_cases c1 : nk x < nk y
        · rw [if_pos c1, if_pos (by omega)]
        · by_cases c2 : nk y < nk x
          · rw [if_neg c1, if_pos c2, if_neg (by omega), if_pos (by omega)]
          · rw [if_neg c1, if_neg c2, if_neg (by omega), if_neg (by omega)]
def kd (d : Vector UInt8 32) : Nat := nk d.toList
theorem cb_eq (a b : Vector UInt8 32) : Lib.compareBytes a.toList b.toList = if kd a < kd b then -1 else if kd b < kd a then 1 else 0 := (cmp_nk a.toList b.toList (by simp)).1
theorem kd_inj {a b : Vector UInt8 32} (h : kd a = kd b) : a = b := by
  have := (cmp_nk a.toList b.toList (by simp)).2 h
  exact Vector.toList_inj.1 this
theorem cmp_kd (a b : Vector UInt8 32) : digest_Cmp a b = some (if kd a < kd b then -1 else if kd b < kd a then 1 else 0) := by rw [cmp_eq7, cb_eq]
theorem rcmp_kd (a b : Vector UInt8 32) : braidref01_Cmp a b = some (if kd a < kd b then -1 else if kd b < kd a then 1 else 0) := by rw [refCmp_eq, cb_eq]
theorem cmp_lt (a b : Vector UInt8 32) : decide ((if kd a < kd b then (-1 : Int) else if kd b < kd a then 1 else 0) < 0) = decide (kd a < kd b) := by
  by_cases h : kd a < kd b
  · simp [h]
  · by_cases h2 : kd b < kd a <;> simp [h, h2]
theorem cmp_ge (a b : Vector UInt8 32) : decide (0 ≤ (if kd a < kd b then (-1 : Int) else if kd b < kd a then 1 else 0)) = decide (kd b ≤ kd a) := by
  by_cases h : kd a < kd b
  · have : ¬ kd b ≤ kd a := by omega
    simp [h, this]
  · have h3 : kd b ≤ kd a := by omega
    by_cases h2 : kd b < kd a <;> simp [h, h2, h3]
theorem cmp_z (a b : Vector UInt8 32) : ((if kd a < kd b then (-1 : Int) else if kd b < kd a then 1 else 0) == 0) = decide (a = b) := by
  by_cases h : kd a < kd b
  · have : a ≠ b := fun e => by rw [e] at h; omega
    simp [h, this]
  · by_cases h2 : kd b < kd a
    · have : a ≠ b := fun e => by rw [e] at h2; omega
      simp [h, h2, this]
    · have : a = b := kd_inj (by omega)
      simp [h, h2, this]
theorem incr_adj : ∀ l : List (Vector UInt8 32), incr l = true ↔ ∀ i (h : i + 1 < l.length), kd (l[i]'(by omega)) < kd l[i + 1]
  | [] => by simp [incr]
  | [a] => by simp [incr]
  | a :: b :: l => by
    have ih := incr_adj (b :: l)
    rw [incr, Bool.and_eq_true, ih, cb_eq, cmp_ge]
    constructor
    · rintro ⟨h1, h2⟩ i hi
      cases i with
      | zero => simpa using h1
      | succ i => exact h2 i (by simpa using hi)
    · intro h
      refine ⟨?_, fun i hi => h (i + 1) (by simpa using hi)⟩
      have := h 0 (by simp)
      simpa using this
theorem incr_pw : ∀ l : List (Vector UInt8 32), incr l = true ↔ l.Pairwise (fun a b => kd a < kd b)
  | [] => by simp [incr]
  | [a] => by simp [incr]
  | a :: b :: l => by
    have ih := incr_pw (b :: l)
    rw [incr, Bool.and_eq_true, ih, cb_eq, cmp_ge]
    constructor
    · rintro ⟨h1, h2⟩
      have h1' : kd a < kd b := by simpa using h1
      refine List.pairwise_cons.2 ⟨fun c hc => ?_, h2⟩
      rcases List.mem_cons.1 hc with rfl | hc
      · exact h1'
      · have := (List.pairwise_cons.1 h2).1 c hc; omega
    · intro h
      obtain ⟨h1, h2⟩ := List.pairwise_cons.1 h
      have := h1 b (by simp)
      exact ⟨by simp; omega, h2⟩
theorem sorted_eq (l : List (Vector UInt8 32)) (hl : l.length ≤ 9223372036854775807) : ∃ b, slices_IsSortedFunc_api_ID_api_ID_digest_Cmp l = some b ∧ (b = true ↔ ∀ i (h : i + 1 < l.length), kd (l[i]'(by omega)) ≤ kd l[i + 1]) := by
  have key : ∀ n, n < l.length → ∃ r : Sum Bool Unit, iter (slices_IsSortedFunc_api_ID_api_ID_digest_Cmp_L0 l) (n : Int) = some r ∧ ((r = .inr () ∧ ∀ i (h : i + 1 < l.length), i + 1 ≤ n → kd (l[i]'(by omega)) ≤ kd l[i + 1]) ∨ (r = .inl false ∧ ∃ i, ∃ h : i + 1 < l.length, ¬ kd (l[i]'(by omega)) ≤ kd l[i + 1])) := by
    intro n
    induction n with
    | zero =>
      intro h
      refine ⟨_, iter_l ?_, .inl ⟨rfl, fun i _ h => by omega⟩⟩
      unfold slices_IsSortedFunc_api_ID_api_ID_digest_Cmp_L0
      rw [if_neg (by simp)]
    | succ n ih =>
      intro h
      have hF : slices_IsSortedFunc_api_ID_api_ID_digest_Cmp_L0 l ((n + 1 : Nat) : Int) = if decide (kd l[n + 1] < kd l[n]) then some (.inl (.inl false)) else some (.inr (n : Int)) := by
        unfold slices_IsSortedFunc_api_ID_api_ID_digest_Cmp_L0
        rw [if_pos (by simp <;> omega), idx_nat h, w64_eq (by omega) (by omega), show (((n + 1 : Nat) : Int) - 1) = (n : Int) by omega, idx_nat (by omega)]
        simp only [bS]
        rw [cmp_kd]
        simp only [bS]
        rw [cmp_lt]
      by_cases hc : kd l[n + 1] < kd l[n]
      · rw [decide_eq_true hc, if_pos rfl] at hF
        exact ⟨_, iter_l hF, .inr ⟨rfl, n, h, by omega⟩⟩
      · rw [decide_eq_false hc, if_neg (by simp)] at hF
        obtain ⟨r, h1, h2⟩ := ih (by omega)
        refine ⟨r, by rw [iter_r hF]; exact h1, ?_⟩
        rcases h2 with ⟨h2, h3⟩ | h2
        · refine .inl ⟨h2, fun i hi hn => ?_⟩
          by_cases hin : i = n
          · subst hin; omega
          · exact h3 i hi (by omega)
        · exact .inr h2
  unfold slices_IsSortedFunc_api_ID_api_ID_digest_Cmp
  simp only [bS]
  by_cases h0 : l.length = 0
  · refine ⟨true, ?_, by simp; intro i hi; omega⟩
    rw [h0, w64_eq (by omega) (by omega), iter_l (b := .inr ())]
    · rfl
    · unfold slices_IsSortedFunc_api_ID_api_ID_digest_Cmp_L0
      rw [if_neg (by simp)]
  · obtain ⟨r, h1, h2⟩ := key (l.length - 1) (by omega)
    rw [w64_eq (by omega) (by omega), show ((l.length : Int) - 1) = ((l.length - 1 : Nat) : Int) by omega, h1]
    rcases h2 with ⟨rfl, h3⟩ | ⟨rfl, i, hi, h3⟩
    · exact ⟨true, rfl, by simp; exact fun i hi => h3 i hi (by omega)⟩
    · exact ⟨false, rfl, by simp; exact ⟨i, hi, by omega⟩⟩
theorem subi_eq {k n j : Nat} (h : j < n) : subi k n (j : Int) = some (k + j) := by unfold subi; rw [if_pos (by omega)]; simp
theorem clr_len {α : Type} (b : List α) (k n : Nat) (x : α) (h : k + n ≤ b.length) : (clr b k n x).length = b.length := by
  unfold clr
  simp only [List.length_append, List.length_take, List.length_replicate, List.length_drop]; omega
theorem compact_run (l : List (Vector UInt8 32)) (s : Nat) (h1 : 1 ≤ s) (hs : s < l.length) (hl : l.length ≤ 9223372036854775806) : ∃ b : List (Vector UInt8 32) × Int, iter (slices_Compact_api_ID_api_ID_L2 l s) (l, (s : Int), 1) = some b ∧ b.1.length = l.length ∧ ∃ j : Nat, b.2 = (j : Int) ∧ j < l.length := by
  refine iter_up (F := slices_Compact_api_ID_api_ID_L2 l s) (l.length - s) (fun i st => st.1.length = l.length ∧ st.2.2 = (i : Int) ∧ 1 ≤ i ∧ ∃ j : Nat, st.2.1 = (j : Int) ∧ j + 1 ≤ s + i) _ ?_ ?_ _ 1 (by omega) ⟨rfl, rfl, by omega, s, rfl, by omega⟩
  · rintro i ⟨c, j', i'⟩ hi ⟨e1, e2, e0, j, e3, e4⟩
    simp only at e1 e2 e3
    subst e2 e3
    unfold slices_Compact_api_ID_api_ID_L2
    rw [if_pos (by simp; omega)]
    simp only [Int.toNat_natCast]
    rw [subi_eq (by omega), w64_eq (x := (i : Int) - 1) (by omega) (by omega), show ((i : Int) - 1) = ((i - 1 : Nat) : Int) by omega, subi_eq (by omega)]
    simp only [bS]
    rw [idx_nat (by omega), idx_nat (by omega)]
    simp only [bS]
    by_cases hc : c[s + i]'(by omega) = c[s + (i - 1)]'(by omega)
    · rw [decide_eq_true hc, if_neg (by simp)]
      exact ⟨_, rfl, e1, w64_nat (by omega), by omega, j, rfl, by omega⟩
    · rw [decide_eq_false hc, if_pos (by simp), idx_nat (by omega)]
      simp only [bS]
      exact ⟨_, rfl, by simpa using e1, w64_nat (by omega), by omega, j + 1, w64_nat (by omega), by omega⟩
  · rintro ⟨c, j', i'⟩ ⟨e1, e2, e0, j, e3, e4⟩
    simp only at e1 e2 e3
    subst e2 e3
    unfold slices_Compact_api_ID_api_ID_L2
    rw [if_neg (by simp <;> omega)]
    exact ⟨_, rfl, e1, j, rfl, by omega⟩
theorem compact_eq (l : List (Vector UInt8 32)) (hl : l.length ≤ 9223372036854775806) : ∃ c, slices_Compact_api_ID_api_ID l = some c ∧ (c.length = l.length ↔ ∀ i (h : i + 1 < l.length), l[i]'(by omega) ≠ l[i + 1]) := by
  have key : ∀ k n, l.length - n = k → 1 ≤ n → n ≤ l.length → ∃ r : Sum (List (Vector UInt8 32)) Unit, iter (slices_Compact_api_ID_api_ID_L0 l) (n : Int) = some r ∧ ((r = .inr () ∧ ∀ i (h : i + 1 < l.length), n ≤ i + 1 → l[i]'(by omega) ≠ l[i + 1]) ∨ (∃ c, r = .inl c ∧ c.length ≠ l.length ∧ ∃ i, ∃ h : i + 1 < l.length, l[i]'(by omega) = l[i + 1])) := by
    intro k
    induction k with
    | zero =>
      intro n hk h1 hn
      refine ⟨_, iter_l ?_, .inl ⟨rfl, fun i _ h => by omega⟩⟩
      unfold slices_Compact_api_ID_api_ID_L0
      rw [if_neg (by simp; omega)]
    | succ k ih =>
      intro n hk h1 hn
      have hlt : n < l.length := by omega
      by_cases hc : l[n] = l[n - 1]
      · obtain ⟨⟨c, j'⟩, e1, e2, j, e3, e4⟩ := compact_run l n h1 hlt hl
        simp only at e2 e3
        subst e3
        have hF : slices_Compact_api_ID_api_ID_L0 l (n : Int) = some (.inl (.inl ((clr c j (c.length - j) (Vector.replicate 32 0)).take j))) := by
          unfold slices_Compact_api_ID_api_ID_L0
          rw [if_pos (by simp; omega), idx_nat hlt, w64_eq (by omega) (by omega), show ((n : Int) - 1) = ((n - 1 : Nat) : Int) by omega, idx_nat (by omega)]
          simp only [bS]
          rw [decide_eq_true hc, if_pos rfl, chk_true (by omega)]
          simp only [bS]
          rw [e1]
          simp only [bS]
          rw [chk_true (by omega), chk_true (by simp; omega)]
          simp only [bS, Int.toNat_natCast]
          rw [show (0 : Int) = ((0 : Nat) : Int) from rfl, cut_eq (by omega) (by rw [clr_len _ _ _ _ (by omega)]; omega)]
          simp
        refine ⟨_, iter_l hF, .inr ⟨_, rfl, ?_, n - 1, by omega, ?_⟩⟩
        · rw [List.length_take]; omega
        · have : n - 1 + 1 = n := by omega
          simp only [this]; exact hc.symm
      · have hF : slices_Compact_api_ID_api_ID_L0 l (n : Int) = some (.inr ((n + 1 : Nat) : Int)) := by
          unfold slices_Compact_api_ID_api_ID_L0
          rw [if_pos (by simp; omega), idx_nat hlt, w64_eq (x := (n : Int) - 1) (by omega) (by omega), show ((n : Int) - 1) = ((n - 1 : Nat) : Int) by omega, idx_nat (by omega)]
          simp only [bS]
          rw [decide_eq_false hc, if_neg (by simp), w64_nat (by omega)]
        obtain ⟨r, h2, h3⟩ := ih (n + 1) (by omega) (by omega) (by omega)
        refine ⟨r, by rw [iter_r hF]; exact h2, ?_⟩
        rcases h3 with ⟨h3, h4⟩ | h3
        · refine .inl ⟨h3, fun i hi hni => ?_⟩
          by_cases hin : i + 1 = n
          · subst hin; exact fun e => hc e.symm
          · exact h4 i hi (by omega)
        · exact .inr h3
  unfold slices_Compact_api_ID_api_ID
  by_cases h2 : l.length < 2
  · rw [if_pos (by simp; omega)]
    exact ⟨l, rfl, by simp; intro i hi; omega⟩
  · rw [if_neg (by simp; omega)]
    obtain ⟨r, e1, e2⟩ := key (l.length - 1) 1 rfl (by omega) (by omega)
    rw [show (1 : Int) = ((1 : Nat) : Int) from rfl, e1]
    rcases e2 with ⟨rfl, h3⟩ | ⟨c, rfl, h3, i, hi, h4⟩
    · exact ⟨l, rfl, by simp; exact fun i hi => h3 i hi (by omega)⟩
    · exact ⟨c, rfl, ⟨fun h => absurd h h3, fun h => absurd h4 (h i hi)⟩⟩
theorem adj_incr (l : List (Vector UInt8 32)) : incr l = true ↔ (∀ i (h : i + 1 < l.length), kd (l[i]'(by omega)) ≤ kd l[i + 1]) ∧ ∀ i (h : i + 1 < l.length), l[i]'(by omega) ≠ l[i + 1] := by
  rw [incr_adj]
  constructor
  · intro h
    refine ⟨fun i hi => Nat.le_of_lt (h i hi), fun i hi e => ?_⟩
    have := h i hi
    rw [e] at this; omega
  · rintro ⟨h1, h2⟩ i hi
    have := h1 i hi
    rcases Nat.lt_or_eq_of_le this with h | h
    · exact h
    · exact absurd (kd_inj h) (h2 i hi)
end Go.Proofs.YtjnheeekdadcpaaGreatDoor
namespace Go.Proofs.YtjnheeekdadcpaaGreatDoor
open Go
set_option linter.unusedSimpArgs false
set_option linter.unusedVariables false
section
variable {α : Type}
theorem idx_d {l : List α} {i : Nat} (d : α) (h : i < l.length) : idx l (i : Int) = some (l.getD i d) := by rw [idx_nat h]; simp [h]
theorem vidx_l {n : Nat} {v : Vector α n} {i : Int} : vidx v i = idx v.toList i := rfl
theorem vset_l {n : Nat} {v : Vector α n} {i : Nat} {x : α} : (vset v (i : Int) x).toList = v.toList.set i x := by
  unfold vset; simp
theorem getD_set {l : List α} {i j : Nat} {x d : α} (h : i < l.length) : (l.set i x).getD j d = if i = j then x else l.getD j d := by
  simp only [List.getD_eq_getElem?_getD, List.getElem?_set]
  by_cases e : i = j
  · subst e; simp [h]
  · simp [e]
theorem getD_take {l : List α} {n i : Nat} {d : α} (h : i < n) : (l.take n).getD i d = l.getD i d := by
  simp [List.getD_eq_getElem?_getD, List.getElem?_take, h]
theorem take_set_succ {l : List α} {n : Nat} {x : α} (h : n < l.length) : (l.set n x).take (n + 1) = l.take n ++ [x] := by
  rw [List.take_add_one, List.getElem?_set_self h, List.take_set_of_le (Nat.le_refl _)]; rfl
end
theorem shl32_toNat (a : UInt32) (n : Nat) : (shl32 a n).toNat = a.toNat * 2 ^ (min n 32) % 4294967296 := by unfold shl32; simp
theorem shr32_toNat (a : UInt32) (n : Nat) : (shr32 a n).toNat = a.toNat / 2 ^ (min n 32) := by
  unfold shr32
  have h1 := UInt32.toNat_lt a
  have h2 : a.toNat / 2 ^ (min n 32) ≤ a.toNat := Nat.div_le_self _ _
  simp; omega
def tr (x : UInt32) (n : Nat) : UInt32 := shr32 x n ||| shl32 x (32 - n)
theorem turn_eq (x : UInt32) (n : Nat) (h : n ≤ 32) : braidref01_turn x (n : Int) = some (tr x n) := by
  unfold braidref01_turn
  rw [chk_true (by omega), w64_eq (by omega) (by omega), chk_true (by omega)]
  simp only [bS]
  unfold tr
  rw [show ((32 : Int) - (n : Int)).toNat = 32 - n by omega, Int.toNat_natCast]
theorem rot_eq (x : UInt32) (n : Nat) (h : 1 ≤ n) (h2 : n ≤ 31) : math_bits_RotateLeft32 x (-(n : Int)) = some (tr x n) := by
  have key : ∀ n : Fin 32, 1 ≤ n.val → (UInt64.ofInt (-(n.val : Int)) &&& 31) = UInt64.ofNat (32 - n.val) := by decide +kernel
  have k2 : ∀ n : Fin 32, 1 ≤ n.val → (UInt64.ofNat (32 - n.val)).toNat = 32 - n.val ∧ (32 - UInt64.ofNat (32 - n.val)).toNat = n.val := by decide +kernel
  unfold math_bits_RotateLeft32
  rw [key ⟨n, by omega⟩ h]
  simp only [bS]
  rw [(k2 ⟨n, by omega⟩ h).1, (k2 ⟨n, by omega⟩ h).2]
  unfold tr
  rw [UInt32.or_comm]
theorem mix_eq (x : UInt32) (a b c : Nat) (ha : 1 ≤ a ∧ a ≤ 31) (hb : 1 ≤ b ∧ b ≤ 31) (hc : 1 ≤ c ∧ c ≤ 31) : digest_mix x (a : Int) (b : Int) (c : Int) = some ((tr x a ^^^ tr x b) ^^^ tr x c) := by
  unfold digest_mix
  rw [w64_eq (by omega) (by omega), w64_eq (by omega) (by omega), w64_eq (by omega) (by omega)]
  rw [show (0 : Int) - (a : Int) = -(a : Int) by omega, show (0 : Int) - (b : Int) = -(b : Int) by omega, show (0 : Int) - (c : Int) = -(c : Int) by omega]
  rw [rot_eq x a ha.1 ha.2, rot_eq x b hb.1 hb.2, rot_eq x c hc.1 hc.2]
  rfl
def sg0 (x : UInt32) : UInt32 := (tr x 7 ^^^ tr x 18) ^^^ shr32 x 3
def sg1 (x : UInt32) : UInt32 := (tr x 17 ^^^ tr x 19) ^^^ shr32 x 10
def word (b : List UInt8) (k : Nat) : UInt32 := (((b.getD (4 * k) 0).toUInt32 * 256 + (b.getD (4 * k + 1) 0).toUInt32) * 256 + (b.getD (4 * k + 2) 0).toUInt32) * 256 + (b.getD (4 * k + 3) 0).toUInt32
def nextw (l : List UInt32) : List UInt32 := l ++ [((l.getD (l.length - 16) 0 + l.getD (l.length - 7) 0) + sg0 (l.getD (l.length - 15) 0)) + sg1 (l.getD (l.length - 2) 0)]
def sched (b : List UInt8) : Nat → List UInt32
  | 0 => (List.range 16).map (word b)
  | n + 1 => nextw (sched b n)
theorem sched_len (b : List UInt8) : ∀ n, (sched b n).length = 16 + n
  | 0 => by simp [sched]
  | n + 1 => by simp [sched, nextw, sched_len b n]; omega
theorem nextw_eq (l : List UInt32) (t : Nat) (h : l.length = t) : nextw l = l ++ [((l.getD (t - 16) 0 + l.getD (t - 7) 0) + sg0 (l.getD (t - 15) 0)) + sg1 (l.getD (t - 2) 0)] := by subst h; rfl
theorem refWords (b : List UInt8) (hb : 64 ≤ b.length) : iter (braidref01_Ground_L0 b) ([], 0) = some (sched b 0) := by
  refine iter_run (F := braidref01_Ground_L0 b) (b := sched b 0) 16 (fun i => ((List.range i).map (word b), (i : Int))) (fun i hi => ?_) ?_
  · unfold braidref01_Ground_L0
    rw [if_pos (by simp; omega)]
    simp only []
    rw [w64_eq (x := 4 * (i : Int)) (by omega) (by omega), w64_eq (x := 4 * (i : Int) + 1) (by omega) (by omega), w64_eq (x := 4 * (i : Int) + 2) (by omega) (by omega), w64_eq (x := 4 * (i : Int) + 3) (by omega) (by omega)]
    rw [show (4 * (i : Int)) = ((4 * i : Nat) : Int) by omega, show (((4 * i : Nat) : Int) + 1) = ((4 * i + 1 : Nat) : Int) by omega, show (((4 * i : Nat) : Int) + 2) = ((4 * i + 2 : Nat) : Int) by omega, show (((4 * i : Nat) : Int) + 3) = ((4 * i + 3 : Nat) : Int) by omega]
    rw [idx_d 0 (by omega), idx_d 0 (by omega), idx_d 0 (by omega), idx_d 0 (by omega)]
    simp only [bS]
    rw [app_eq (by simp; omega)]
    simp only [bS, w64_nat (show i < 9223372036854775807 by omega)]
    rw [List.range_succ, List.map_append]
    rfl
  · unfold braidref01_Ground_L0
    rw [if_neg (by simp)]
    rfl
theorem refSched (b : List UInt8) : iter (braidref01_Ground_L2) (sched b 0, 16) = some (sched b 48) := by
  refine iter_run (F := braidref01_Ground_L2) (b := sched b 48) 48 (fun i => (sched b i, ((16 + i : Nat) : Int))) (fun i hi => ?_) ?_
  · have hl := sched_len b i
    unfold braidref01_Ground_L2
    rw [if_pos (by simp; omega)]
    simp only []
    rw [w64_eq (x := ((16 + i : Nat) : Int) - 15) (by omega) (by omega), w64_eq (x := ((16 + i : Nat) : Int) - 2) (by omega) (by omega), w64_eq (x := ((16 + i : Nat) : Int) - 16) (by omega) (by omega), w64_eq (x := ((16 + i : Nat) : Int) - 7) (by omega) (by omega)]
    rw [show ((16 + i : Nat) : Int) - 15 = ((16 + i - 15 : Nat) : Int) by omega, show ((16 + i : Nat) : Int) - 2 = ((16 + i - 2 : Nat) : Int) by omega, show ((16 + i : Nat) : Int) - 16 = ((16 + i - 16 : Nat) : Int) by omega, show ((16 + i : Nat) : Int) - 7 = ((16 + i - 7 : Nat) : Int) by omega]
    rw [idx_d 0 (by omega), idx_d 0 (by omega), idx_d 0 (by omega), idx_d 0 (by omega)]
    simp only [bS]
    rw [show (7 : Int) = ((7 : Nat) : Int) from rfl, show (18 : Int) = ((18 : Nat) : Int) from rfl, show (17 : Int) = ((17 : Nat) : Int) from rfl, show (19 : Int) = ((19 : Nat) : Int) from rfl]
    rw [turn_eq _ 7 (by omega), turn_eq _ 18 (by omega), turn_eq _ 17 (by omega), turn_eq _ 19 (by omega)]
    simp only [bS]
    rw [app_eq (by simp; omega)]
    simp only [bS, w64_nat (show 16 + i < 9223372036854775807 by omega)]
    rw [show sched b (i + 1) = nextw (sched b i) from rfl, nextw_eq _ (16 + i) hl]
    rfl
  · unfold braidref01_Ground_L2
    rw [if_neg (by simp)]
theorem shl_or (x : UInt32) (y : UInt8) (h : x.toNat < 16777216) : (shl32 x 8) ||| y.toUInt32 = x * 256 + y.toUInt32 := by
  apply UInt32.toNat_inj.1
  have hy := UInt8.toNat_lt y
  rw [UInt32.toNat_or, shl32_toNat, UInt32.toNat_add, UInt32.toNat_mul]
  have e1 : (y.toUInt32).toNat = y.toNat := by simp
  have e2 : (256 : UInt32).toNat = 256 := rfl
  rw [e1, e2, show (2 : Nat) ^ (min 8 32) = 256 from rfl, Nat.mod_eq_of_lt (a := x.toNat * 256) (by omega), Nat.mod_eq_of_lt (a := x.toNat * 256 + y.toNat) (by omega)]
  have := Nat.shiftLeft_add_eq_or_of_lt (i := 8) (b := y.toNat) (by simpa using hy) x.toNat
  rw [Nat.shiftLeft_eq, show (2 : Nat) ^ 8 = 256 from rfl] at this
  exact this.symm
def wpart (b : List UInt8) (k : Nat) : Nat → UInt32
  | 0 => 0
  | m + 1 => wpart b k m * 256 + (b.getD (4 * k + m) 0).toUInt32
theorem wpart_lt (b : List UInt8) (k : Nat) : ∀ m, m ≤ 4 → (wpart b k m).toNat < 256 ^ m
  | 0, _ => by simp [wpart]
  | m + 1, h => by
    have ih := wpart_lt b k m (by omega)
    have hy := UInt8.toNat_lt (b.getD (4 * k + m) 0)
    have hp : 256 ^ m ≤ 256 ^ 3 := Nat.pow_le_pow_right (by omega) (by omega)
    have e3 : (256 : Nat) ^ 3 = 16777216 := rfl
    have ep : 256 ^ (m + 1) = 256 ^ m * 256 := Nat.pow_succ ..
    rw [wpart, UInt32.toNat_add, UInt32.toNat_mul, ep]
    have e1 : ((b.getD (4 * k + m) 0).toUInt32).toNat = (b.getD (4 * k + m) 0).toNat := by simp
    have e2 : (256 : UInt32).toNat = 256 := rfl
    rw [e1, e2, Nat.mod_eq_of_lt (a := (wpart b k m).toNat * 256) (by omega), Nat.mod_eq_of_lt (by omega)]
    omega
theorem wpart_word (b : List UInt8) (k : Nat) : wpart b k 4 = word b k := by
  simp only [wpart, word, Nat.add_zero]
  simp
theorem progWords (b : List UInt8) (hb : b.length = 64) : ∃ w, iter (digest_schedule_L0 b) (Vector.replicate 64 0, 0) = some w ∧ w.toList.take 16 = sched b 0 := by
  refine iter_up (F := digest_schedule_L0 b) 64 (fun i s => s.2 = (i : Int) ∧ ∀ k, k < 16 → s.1.toList.getD k 0 = wpart b k (min 4 (i - 4 * k))) (fun w => w.toList.take 16 = sched b 0) (fun i s hi hs => ?_) (fun s hs => ?_) (Vector.replicate 64 0, 0) 0 (by omega) ⟨rfl, fun k hk => ?_⟩
  · obtain ⟨w, j⟩ := s
    obtain ⟨h1, h2⟩ := hs
    simp only at h1 h2
    subst h1
    have hlw : w.toList.length = 64 := by simp
    have hdiv : w64 (Int.tdiv (i : Int) 4) = ((i / 4 : Nat) : Int) := by
      have : Int.tdiv (i : Int) 4 = ((i / 4 : Nat) : Int) := by
        rw [Int.tdiv_eq_ediv_of_nonneg (by omega)]; omega
      rw [this, w64_eq (by omega) (by omega)]
    refine ⟨(vset w ((i / 4 : Nat) : Int) (wpart b (i / 4) (i % 4 + 1)), ((i + 1 : Nat) : Int)), ?_, rfl, fun k hk => ?_⟩
    · unfold digest_schedule_L0
      rw [if_pos (by simp; omega)]
      simp only [hdiv, vidx_l]
      rw [idx_d 0 (by omega)]
      simp only [bS]
      rw [idx_d 0 (by omega)]
      simp only [bS, w64_nat (show i < 9223372036854775807 by omega)]
      rw [h2 (i / 4) (by omega), show min 4 (i - 4 * (i / 4)) = i % 4 by omega]
      have hlt := wpart_lt b (i / 4) (i % 4) (by omega)
      have hp : 256 ^ (i % 4) ≤ 256 ^ 3 := Nat.pow_le_pow_right (by omega) (by omega)
      have e3 : (256 : Nat) ^ 3 = 16777216 := rfl
      rw [shl_or _ _ (by omega)]
      have e4 : wpart b (i / 4) (i % 4 + 1) = wpart b (i / 4) (i % 4) * 256 + (b.getD i 0).toUInt32 := by
        show wpart b (i / 4) (i % 4) * 256 + (b.getD (4 * (i / 4) + i % 4) 0).toUInt32 = _
        rw [show 4 * (i / 4) + i % 4 = i by omega]
      rw [e4]
    · simp only []
      rw [vset_l, getD_set (by omega)]
      by_cases hk2 : i / 4 = k
      · subst hk2
        rw [if_pos rfl, show min 4 (i + 1 - 4 * (i / 4)) = i % 4 + 1 by omega]
      · rw [if_neg hk2, h2 k hk]
        congr 1; omega
  · obtain ⟨w, j⟩ := s
    obtain ⟨h1, h2⟩ := hs
    simp only at h1 h2
    subst h1
    have hlw : w.toList.length = 64 := by simp
    refine ⟨w, ?_, ?_⟩
    · unfold digest_schedule_L0
      rw [if_neg (by simp [hb])]
    · apply List.ext_getElem
      · simp [sched]
      · intro k k1 k2
        have hk : k < 16 := by simp [sched] at k2; exact k2
        have := h2 k hk
        rw [show min 4 (64 - 4 * k) = 4 by omega, wpart_word] at this
        have e : w.toList.getD k 0 = w.toList[k]'(by omega) := by rw [List.getD_eq_getElem?_getD, List.getElem?_eq_getElem (by omega)]; rfl
        rw [e] at this
        simp only [List.getElem_take, this, sched, List.getElem_map, List.getElem_range]
  · show (Vector.replicate 64 (0 : UInt32)).toList.getD k 0 = _
    rw [show min 4 (0 - 4 * k) = 0 by omega, Vector.toList_replicate, List.getD_eq_getElem?_getD, List.getElem?_replicate, if_pos (by omega)]
    rfl
theorem progSched1 (v : Vector UInt32 64) (t : Nat) (h1 : 16 ≤ t) (h2 : t < 64) (p q r s u : UInt32) (e1 : vidx v ((t - 15 : Nat) : Int) = some p) (e2 : vidx v ((t - 2 : Nat) : Int) = some q) (e3 : vidx v ((t - 16 : Nat) : Int) = some r) (e4 : vidx v ((t - 7 : Nat) : Int) = some s) (e5 : vidx v (t : Int) = some u) :
    digest_schedule_L2 (v, (t : Int)) = some (.inr (vset v (t : Int) (((r + s) + sg0 p) + sg1 q), ((t + 1 : Nat) : Int))) := by
  have r1 := rot_eq p 7 (by omega) (by omega)
  have r2 := rot_eq p 18 (by omega) (by omega)
  have r3 := rot_eq q 17 (by omega) (by omega)
  have r4 := rot_eq q 19 (by omega) (by omega)
  have hw := w64_nat (show t < 9223372036854775807 by omega)
  have hd : decide ((t : Int) < 64) = true := by simp; omega
  have w1 : w64 ((t : Int) - 15) = ((t - 15 : Nat) : Int) := by rw [w64_eq (by omega) (by omega)]; omega
  have w2 : w64 ((t : Int) - 2) = ((t - 2 : Nat) : Int) := by rw [w64_eq (by omega) (by omega)]; omega
  have w3 : w64 ((t : Int) - 16) = ((t - 16 : Nat) : Int) := by rw [w64_eq (by omega) (by omega)]; omega
  have w4 : w64 ((t : Int) - 7) = ((t - 7 : Nat) : Int) := by rw [w64_eq (by omega) (by omega)]; omega
  unfold digest_schedule_L2
  rw [if_pos hd]
  simp only []
  rw [w1, w2, w3, w4, hw, e1, e2, e3, e4, e5]
  simp only [bS]
  rw [show (-7 : Int) = -((7 : Nat) : Int) from rfl, show (-18 : Int) = -((18 : Nat) : Int) from rfl, show (-17 : Int) = -((17 : Nat) : Int) from rfl, show (-19 : Int) = -((19 : Nat) : Int) from rfl, r1, r2, r3, r4]
  simp only [bS]
  rfl
theorem progSched (b : List UInt8) (w : Vector UInt32 64) (hw : w.toList.take 16 = sched b 0) : ∃ v, iter (digest_schedule_L2) (w, 16) = some v ∧ v.toList = sched b 48 := by
  refine iter_up (F := digest_schedule_L2) 48 (fun i s => s.2 = ((16 + i : Nat) : Int) ∧ s.1.toList.take (16 + i) = sched b i) (fun v => v.toList = sched b 48) (fun i s hi hs => ?_) (fun s hs => ?_) (w, 16) 0 (by omega) ⟨rfl, hw⟩
  · obtain ⟨w, j⟩ := s
    obtain ⟨h1, h2⟩ := hs
    simp only at h1 h2
    subst h1
    have hlw : w.toList.length = 64 := by simp
    have hl := sched_len b i
    have hg : ∀ k, k < 16 + i → w.toList.getD k 0 = (sched b i).getD k 0 := fun k hk => by rw [← h2, getD_take hk]
    have hv : ∀ k, k < 16 + i → vidx w (k : Int) = some ((sched b i).getD k 0) := fun k hk => by rw [vidx_l, idx_d 0 (by omega), hg k hk]
    refine ⟨_, progSched1 w (16 + i) (by omega) (by omega) _ _ _ _ _ (hv _ (by omega)) (hv _ (by omega)) (hv _ (by omega)) (hv _ (by omega)) (vidx_nat (by omega)), rfl, ?_⟩
    simp only []
    rw [vset_l, show 16 + (i + 1) = 16 + i + 1 by omega, take_set_succ (by omega), h2, show sched b (i + 1) = nextw (sched b i) from rfl, nextw_eq _ (16 + i) hl]
  · obtain ⟨w, j⟩ := s
    obtain ⟨h1, h2⟩ := hs
    simp only at h1 h2
    subst h1
    refine ⟨w, ?_, ?_⟩
    · unfold digest_schedule_L2
      rw [if_neg (by simp)]
    · rw [← h2, List.take_of_length_le (by simp)]
abbrev O8 := UInt32 × UInt32 × UInt32 × UInt32 × UInt32 × UInt32 × UInt32 × UInt32
def toV (s : O8) : Vector UInt32 8 := #v[s.1, s.2.1, s.2.2.1, s.2.2.2.1, s.2.2.2.2.1, s.2.2.2.2.2.1, s.2.2.2.2.2.2.1, s.2.2.2.2.2.2.2]
def ofV (h : Vector UInt32 8) : O8 := (h[0], h[1], h[2], h[3], h[4], h[5], h[6], h[7])
theorem toV_ofV (h : Vector UInt32 8) : toV (ofV h) = h := by
  apply Vector.ext
  intro i hi
  unfold toV ofV
  match i, hi with
  | 0, _ => rfl
  | 1, _ => rfl
  | 2, _ => rfl
  | 3, _ => rfl
  | 4, _ => rfl
  | 5, _ => rfl
  | 6, _ => rfl
  | 7, _ => rfl
def rnd1 (k w : UInt32) (s : O8) : UInt32 := (((s.2.2.2.2.2.2.2 + ((tr s.2.2.2.2.1 6 ^^^ tr s.2.2.2.2.1 11) ^^^ tr s.2.2.2.2.1 25)) + ((s.2.2.2.2.1 &&& s.2.2.2.2.2.1) ^^^ ((~~~s.2.2.2.2.1) &&& s.2.2.2.2.2.2.1))) + k) + w
def rnd2 (s : O8) : UInt32 := ((tr s.1 2 ^^^ tr s.1 13) ^^^ tr s.1 22) + (((s.1 &&& s.2.1) ^^^ (s.1 &&& s.2.2.1)) ^^^ (s.2.1 &&& s.2.2.1))
def rnd (k w : UInt32) (s : O8) : O8 := (rnd1 k w s + rnd2 s, s.1, s.2.1, s.2.2.1, s.2.2.2.1 + rnd1 k w s, s.2.2.2.2.1, s.2.2.2.2.2.1, s.2.2.2.2.2.2.1)
def runs (K W : List UInt32) (s : O8) : Nat → O8
  | 0 => s
  | n + 1 => rnd (K.getD n 0) (W.getD n 0) (runs K W s n)
theorem consts_eq : braidref01_constants = some gtab1.toList := rfl
theorem shaK_len : gtab1.toList.length = 64 := by simp
theorem progRound (w : Vector UInt32 64) (a b c d e f g z : UInt32) (i : Nat) (hi : i < 64) (k u : UInt32) (hk : vidx gtab1 (i : Int) = some k) (hu : vidx w (i : Int) = some u) :
    digest_grind_L0 w (a, b, c, d, e, f, g, z, (i : Int)) = some (.inr (rnd1 k u (a, b, c, d, e, f, g, z) + rnd2 (a, b, c, d, e, f, g, z), a, b, c, d + rnd1 k u (a, b, c, d, e, f, g, z), e, f, g, ((i + 1 : Nat) : Int))) := by
  have m1 := mix_eq e 6 11 25 (by omega) (by omega) (by omega)
  have m2 := mix_eq a 2 13 22 (by omega) (by omega) (by omega)
  have hw := w64_nat (show i < 9223372036854775807 by omega)
  have hd : decide ((i : Int) < 64) = true := by simp; omega
  unfold digest_grind_L0
  rw [if_pos hd]
  simp only []
  rw [hk, hu, hw]
  simp only [bS]
  rw [show (6 : Int) = ((6 : Nat) : Int) from rfl, show (11 : Int) = ((11 : Nat) : Int) from rfl, show (25 : Int) = ((25 : Nat) : Int) from rfl, show (2 : Int) = ((2 : Nat) : Int) from rfl, show (13 : Int) = ((13 : Nat) : Int) from rfl, show (22 : Int) = ((22 : Nat) : Int) from rfl, m1, m2]
  simp only [bS]
  rfl
theorem refRound (K W : List UInt32) (a b c d e f g z : UInt32) (i : Nat) (hi : i < 64) (k u : UInt32) (hk : idx K (i : Int) = some k) (hu : idx W (i : Int) = some u) :
    braidref01_Ground_L4 W K (#v[a, b, c, d, e, f, g, z], (i : Int)) = some (.inr (#v[rnd1 k u (a, b, c, d, e, f, g, z) + rnd2 (a, b, c, d, e, f, g, z), a, b, c, d + rnd1 k u (a, b, c, d, e, f, g, z), e, f, g], ((i + 1 : Nat) : Int))) := by
  have t1 := turn_eq e 6 (by omega)
  have t2 := turn_eq e 11 (by omega)
  have t3 := turn_eq e 25 (by omega)
  have t4 := turn_eq a 2 (by omega)
  have t5 := turn_eq a 13 (by omega)
  have t6 := turn_eq a 22 (by omega)
  have hw := w64_nat (show i < 9223372036854775807 by omega)
  have hd : decide ((i : Int) < 64) = true := by simp; omega
  have v0 : vidx #v[a, b, c, d, e, f, g, z] 0 = some a := rfl
  have v1 : vidx #v[a, b, c, d, e, f, g, z] 1 = some b := rfl
  have v2 : vidx #v[a, b, c, d, e, f, g, z] 2 = some c := rfl
  have v3 : vidx #v[a, b, c, d, e, f, g, z] 3 = some d := rfl
  have v4 : vidx #v[a, b, c, d, e, f, g, z] 4 = some e := rfl
  have v5 : vidx #v[a, b, c, d, e, f, g, z] 5 = some f := rfl
  have v6 : vidx #v[a, b, c, d, e, f, g, z] 6 = some g := rfl
  have v7 : vidx #v[a, b, c, d, e, f, g, z] 7 = some z := rfl
  unfold braidref01_Ground_L4
  rw [if_pos hd]
  simp only []
  rw [v0, v1, v2, v3, v4, v5, v6, v7, hk, hu, hw]
  simp only [bS]
  rw [show (6 : Int) = ((6 : Nat) : Int) from rfl, show (11 : Int) = ((11 : Nat) : Int) from rfl, show (25 : Int) = ((25 : Nat) : Int) from rfl, show (2 : Int) = ((2 : Nat) : Int) from rfl, show (13 : Int) = ((13 : Nat) : Int) from rfl, show (22 : Int) = ((22 : Nat) : Int) from rfl, t1, t2, t3, t4, t5, t6]
  simp only [bS]
  rfl
def flat9 (s : O8) (i : Int) : UInt32 × UInt32 × UInt32 × UInt32 × UInt32 × UInt32 × UInt32 × UInt32 × Int := match s with
  | (a, b, c, d, e, f, g, z) => (a, b, c, d, e, f, g, z, i)
theorem progRound' (w : Vector UInt32 64) (s : O8) (i : Nat) (hi : i < 64) : digest_grind_L0 w (flat9 s (i : Int)) = some (.inr (flat9 (rnd (gtab1.toList.getD i 0) (w.toList.getD i 0) s) ((i + 1 : Nat) : Int))) := by
  obtain ⟨a, b, c, d, e, f, g, z⟩ := s
  exact progRound w a b c d e f g z i hi _ _ (idx_d 0 (by rw [shaK_len]; exact hi)) (idx_d 0 (by simp; exact hi))
theorem progRounds (w : Vector UInt32 64) (s : O8) : iter (digest_grind_L0 w) (flat9 s 0) = some (runs gtab1.toList w.toList s 64) := by
  refine iter_run (F := digest_grind_L0 w) (b := runs gtab1.toList w.toList s 64) 64 (fun i => flat9 (runs gtab1.toList w.toList s i) (i : Int)) (fun i hi => progRound' w _ i hi) ?_
  generalize runs gtab1.toList w.toList s 64 = q
  obtain ⟨a, b, c, d, e, f, g, z⟩ := q
  unfold flat9 digest_grind_L0
  rw [if_neg (by simp)]
theorem refRound' (K W : List UInt32) (hk : K.length = 64) (hW : W.length = 64) (s : O8) (i : Nat) (hi : i < 64) : braidref01_Ground_L4 W K (toV s, (i : Int)) = some (.inr (toV (rnd (K.getD i 0) (W.getD i 0) s), ((i + 1 : Nat) : Int))) := by
  obtain ⟨a, b, c, d, e, f, g, z⟩ := s
  exact refRound K W a b c d e f g z i hi _ _ (idx_d 0 (by omega)) (idx_d 0 (by omega))
theorem refRounds (K W : List UInt32) (hk : K.length = 64) (hW : W.length = 64) (s : O8) : iter (braidref01_Ground_L4 W K) (toV s, 0) = some (toV (runs K W s 64)) := by
  refine iter_run (F := braidref01_Ground_L4 W K) (b := toV (runs K W s 64)) 64 (fun i => (toV (runs K W s i), (i : Int))) (fun i hi => refRound' K W hk hW _ i hi) ?_
  generalize toV (runs K W s 64) = q
  unfold braidref01_Ground_L4
  rw [if_neg (by simp)]
theorem adds_eq (s : O8) : digest_grind_L2 s = braidref01_Ground_L6 (toV s) := by
  funext x
  obtain ⟨h, i⟩ := x
  unfold digest_grind_L2 braidref01_Ground_L6
  simp only [bS]
  show (if decide (i < 8) = true then vidx (toV s) i >>= _ else _) = _
  split
  · cases h1 : vidx (toV s) i <;> cases h2 : vidx h i <;> rfl
  · rfl
def addV (h v : Vector UInt32 8) : Vector UInt32 8 := (iter (braidref01_Ground_L6 v) (h, 0)).getD h
theorem addV_eq (h v : Vector UInt32 8) : iter (braidref01_Ground_L6 v) (h, 0) = some (addV h v) := by
  obtain ⟨r, h1, -⟩ := iter_up (F := braidref01_Ground_L6 v) 8 (fun i s => s.2 = (i : Int)) (fun _ => True) (fun i s hi hs => by
    obtain ⟨u, j⟩ := s
    simp only at hs
    subst hs
    unfold braidref01_Ground_L6
    rw [if_pos (by simp; omega)]
    rw [vidx_nat (show i < 8 by omega), vidx_nat (show i < 8 by omega)]
    simp only [bS, w64_nat (show i < 9223372036854775807 by omega)]
    exact ⟨_, rfl, rfl⟩) (fun s hs => by
    obtain ⟨u, j⟩ := s
    simp only at hs
    subst hs
    unfold braidref01_Ground_L6
    rw [if_neg (by simp)]
    exact ⟨_, rfl, trivial⟩) (h, 0) 0 (by omega) rfl
  unfold addV
  rw [h1]; rfl
def gr (h : Vector UInt32 8) (b : List UInt8) : Vector UInt32 8 := addV h (toV (runs gtab1.toList (sched b 48) (ofV h) 64))
theorem ref_gr (h : Vector UInt32 8) (b : List UInt8) (hb : b.length = 64) : braidref01_Ground h b = some (gr h b) := by
  unfold braidref01_Ground
  rw [refWords b (by omega)]
  simp only [bS]
  rw [refSched b]
  simp only [bS, consts_eq]
  have := refRounds gtab1.toList (sched b 48) shaK_len (by rw [sched_len]) (ofV h)
  rw [toV_ofV] at this
  rw [this]
  simp only [bS]
  rw [addV_eq]
  rfl
theorem prog_gr (h : Vector UInt32 8) (b : List UInt8) (hb : 64 ≤ b.length) : digest_grind h b = some (gr h (b.take 64)) := by
  unfold digest_grind digest_schedule
  rw [show (64 : Int) = ((64 : Nat) : Int) from rfl, show (0 : Int) = ((0 : Nat) : Int) from rfl, cut_eq (by omega) hb]
  simp only [bS, List.drop_zero, Nat.sub_zero]
  obtain ⟨w, h1, h2⟩ := progWords (b.take 64) (by simp; omega)
  rw [show ((0 : Nat) : Int) = 0 from rfl, h1]
  simp only [bS]
  obtain ⟨v, h3, h4⟩ := progSched (b.take 64) w h2
  rw [h3]
  simp only [bS]
  have hv : ∀ i : Nat, (hi : i < 8) → vidx h (i : Int) = some h[i] := fun i hi => vidx_nat hi
  rw [show vidx h 0 = some h[0] from hv 0 (by omega), show vidx h 1 = some h[1] from hv 1 (by omega), show vidx h 2 = some h[2] from hv 2 (by omega), show vidx h 3 = some h[3] from hv 3 (by omega), show vidx h 4 = some h[4] from hv 4 (by omega), show vidx h 5 = some h[5] from hv 5 (by omega), show vidx h 6 = some h[6] from hv 6 (by omega), show vidx h 7 = some h[7] from hv 7 (by omega)]
  simp only [bS]
  have := progRounds v (ofV h)
  rw [show (h[0], h[1], h[2], h[3], h[4], h[5], h[6], h[7], (0 : Int)) = flat9 (ofV h) 0 from rfl, this]
  simp only [bS]
  rw [adds_eq, h4, addV_eq]
  rfl
end Go.Proofs.YtjnheeekdadcpaaGreatDoor
