import Derived.Test.YtklfgpdfongaeaaZFwb
namespace Go.Proofs.Ytklfgpdfongaeaa
open Go Go.RowKit
set_option linter.unusedSimpArgs false
set_option linter.unusedVariables false
def slices_Chunk_api_ID_api_ID (a0 : List (Vector UInt8 32)) (a1 : Int) : Option (((List (Vector UInt8 32)) × Int)) :=
  if decide (a1 < 1) then
    none
  else
    some (a0, a1)
set_option maxRecDepth 100000 in
theorem slices_Chunk_api_ID_api_ID_ok (a0 : List (Vector UInt8 32)) (a1 : Int) : Spec Try.prog 123 [.rd (sliceR (arrR 32 u8R)) a0, .rd i64R a1] [] (slices_Chunk_api_ID_api_ID a0 a1) (fun r nv => ⟨[.clo 137 [.rp (sliceR (arrR 32 u8R)) r.1, .rp i64R r.2]], []⟩) := by
  refine spec 9 Try.func123 rfl rfl rfl fun H w => ?_
  refine gSeq <| gReg <| Eb rfl (bx 1 rfl) fun v1 => Eb rfl (bx 2 rfl) fun v2 => R rfl (asg rfl) <| gNil <| eThen <| gSeq <| gSeq <| gReg <| R rfl (ld 2 rfl rfl Foc.here ty3 rfl) <| R rfl (I.lss rfl rfl) <| gNil <| eThen <| gIf rfl rfl (fun h3 => ?_) (fun h3 => ?_)
  · skip
    refine gVoid
  · skip
    refine gSkip <| eThen <| gSeq <| gReg <| R rfl (mkf mp0 (mp2 rfl rfl)) <| R rfl (asg rfl) <| gNil <| eThen <| gRet <| eClo2 4 1 2 rfl rfl rfl <| eRet [] [] rfl (eE rfl <| eN) (rN)
def slices_Chunk_api_ID_api_ID_1_L0 {σ : Type} (Y : (List (Vector UInt8 32)) → σ → Option σ) (a1 : List (Vector UInt8 32)) (a2 : Int) (s1 : Int × σ) : Option (Sum σ (Int × σ)) :=
  if decide (s1.1 < (a1.length : Int)) then
    cut a1 s1.1 (a1.length : Int) >>= fun x6 =>
    some (min a2 (x6.length : Int)) >>= fun y8 =>
    cut a1 s1.1 (w64 (s1.1 + y8)) >>= fun x9 =>
    Y x9 s1.2 >>= fun s11 =>
    some (w64 (s1.1 + a2)) >>= fun y15 =>
    some (.inr (y15, s11))
  else
    some (.inl s1.2)
def slices_Chunk_api_ID_api_ID_1 {σ : Type} (a1 : List (Vector UInt8 32)) (a2 : Int) (Y : (List (Vector UInt8 32)) → σ → Option σ) (s0 : σ) : Option σ :=
  iter (slices_Chunk_api_ID_api_ID_1_L0 Y a1 a2) (0, s0)
set_option maxRecDepth 100000 in
theorem slices_Chunk_api_ID_api_ID_1_it (a1 : List (Vector UInt8 32)) (a2 : Int) : ItC Try.prog 137 (sliceR (arrR 32 u8R)) [.rp (sliceR (arrR 32 u8R)) a1, .rp i64R a2] (fun {σ} Y s => slices_Chunk_api_ID_api_ID_1 (σ := σ) a1 a2 Y s) := by
  refine specI 31 Try.func137 rfl rfl rfl ?_
  intro σ E V0 W0 s0 hJ0
  refine gSeq <| gReg <| R rfl (asg rfl) <| gNil <| eThen <| gLoop (fun (s1 : Int × σ) => iAs E 31 [(0, .val (.func (.yield E.l) #[] #[])), (1, .rp (sliceR (arrR 32 u8R)) a1), (2, .rp i64R a2), (4, .rd i64R s1.1)] s1.2) (fun aa ww h => ⟨_, _, hJ0, h.sub [] (sS rfl <| sS rfl <| sS rfl <| sS rfl <| sN) rN⟩) (fun s1 => ?_)
  refine gExI fun V2 W3 hJ4 => gSeq <| gSeq <| gReg <| R rfl (mv rfl) <| R rfl (ldR rfl ty83) <| R rfl (len' rfl .rd rfl Try.underlying83) <| R rfl (I.lss rfl rfl) <| gNil <| eThen <| gIf rfl rfl (fun h5 => ?_) (fun h5 => ?_)
  · skip
    refine gSkip <| eThen <| gSeq <| gBlk <| gSeq <| gRegQ mixed (by kernel_rfl) <| Rq rfl (ldR rfl ty3) <| Rq rfl (ldR rfl ty83) <| Rq rfl (mv rfl) <| qBind fun x6 h7 => Rq rfl (cut' rfl (.to rfl) .no h7 Try.underlying83 ti102) <| Rq rfl (len' rfl .rd rfl Try.underlying83) <| Rq rfl (I.min rfl rfl) <| Rq rfl (asg rfl) <| qName 5 rfl fun y8 => qNil <| eThen <| gSeq <| gRegY 10 <| R rfl (mv rfl) <| R rfl (ldR rfl ty83) <| R rfl (mv rfl) <| R rfl (mv rfl) <| R rfl (mv rfl) <| R rfl (I.add rfl rfl) <| R rfl (mv rfl) <| R rfl (mv rfl) <| R rfl (I.add rfl rfl) <| lBind fun x9 h10 => R rfl (cut3 rfl rfl rfl rfl h10 Try.underlying83 ti102) <| gNil <| eYield hJ4 rfl rfl rfl fun s11 V12 W13 hJ14 => R rfl (not' rfl) <| gNil <| eThen <| gFalse rfl <| gSkip <| eBlk <| eThen <| gReg <| R rfl (mv rfl) <| R rfl (ldR rfl ty3) <| R rfl (I.add rfl rfl) <| R rfl (asg rfl) <| lName 4 rfl fun y15 => gNil <| eNext (fun aa ww h => ⟨_, _, hJ14, h.sub [] (sS rfl <| sS rfl <| sS rfl <| sS rfl <| sN) rN⟩)
  · skip
    refine gExit <| eTexit <| eLeave <| eEndI hJ4 rfl
def frame_Split_R1 (a1 : UInt8) (x22 : List (Vector UInt8 32)) (s16 : (List api_Frame)) : Option ((List api_Frame)) :=
  slices_Clone_api_ID_api_ID x22 >>= fun r31 =>
  app 64 s16 [(⟨a1, 0, r31, []⟩ : api_Frame)] >>= fun x34 =>
  some x34
def frame_Split (a0 : List (Vector UInt8 32)) (a1 : UInt8) : Option ((List api_Frame) × Int) :=
  frame_listed a1 >>= fun r2 =>
  if !r2 then
    some ([], 2)
  else
    some (decide (60 < (a0.length : Int))) >>= fun y5 =>
    if y5 then
      some ([], 4)
    else
      frame_rising a0 >>= fun r7 =>
      if !r7 then
        some ([], 32)
      else
        some ((a0.length : Int) == 0) >>= fun y10 =>
        if y10 then
          some ([(⟨a1, 0, [], []⟩ : api_Frame)], 0)
        else
          slices_Chunk_api_ID_api_ID a0 40 >>= fun r14 =>
          slices_Chunk_api_ID_api_ID_1 r14.1 r14.2 (frame_Split_R1 a1) [] >>= fun s26 =>
          some (s26, 0)
set_option maxRecDepth 100000 in
theorem frame_Split_ok (a0 : List (Vector UInt8 32)) (a1 : UInt8) : Spec Try.prog 74 [.rd (sliceR (arrR 32 u8R)) a0, .rd u8R a1] [] (frame_Split a0 a1) (fun r nv => ⟨[.val (nv 0), .rd i64R r.2], [(100, some (nv 0, .list R_api_Frame 105 r.1))]⟩) := by
  refine specM 38 Try.func74 rfl rfl rfl fun H w => ?_
  refine gSeq <| gReg <| Eb rfl (bx 1 rfl) fun v1 => R rfl (asg rfl) <| R rfl (asg rfl) <| gNil <| eThen <| gSeq <| gBlk <| gSeq <| gReg <| R rfl (ld 1 rfl rfl Foc.here ty5 rfl) <| call [] [] rfl Try.func121 rfl rfl (frame_listed_ok _) (aQ rfl <| aN) rN fun r2 n3 => R rfl (not' rfl) <| R rfl (asg rfl) <| gNil <| eThen <| gIf rfl rfl (fun h4 => ?_) (fun h4 => ?_)
  · skip
    refine gKn 11 rfl h4 <| gSeq <| gReg <| R rfl (asg rfl) <| R rfl (asg rfl) <| gNil <| eThen <| gRet <| eBret <| eTret <| eNew R_api_Frame 105 2 <| eRet0 [(.slice none 0 0)] [2] rfl (eE rfl <| eE rfl <| eN) (rR rfl rfl <| rN)
  · skip
    refine gKn 11 rfl h4 <| gSeq <| gReg <| R rfl (mv rfl) <| R rfl (len' rfl .rd rfl Try.underlying83) <| R rfl (I.gtr rfl rfl) <| R rfl (asg rfl) <| lName 12 rfl fun y5 => gNil <| eThen <| gIf rfl rfl (fun h6 => ?_) (fun h6 => ?_)
    · skip
      refine gSeq <| gReg <| R rfl (asg rfl) <| R rfl (asg rfl) <| gNil <| eThen <| gRet <| eBret <| eTret <| eNew R_api_Frame 105 3 <| eRet0 [(.slice none 0 0)] [3] rfl (eE rfl <| eE rfl <| eN) (rR rfl rfl <| rN)
    · skip
      refine gSeq <| gReg <| R rfl (mv rfl) <| call [] [] rfl Try.func122 rfl rfl (frame_rising_ok _) (aQ rfl <| aN) rN fun r7 n8 => R rfl (not' rfl) <| R rfl (asg rfl) <| gNil <| eThen <| gIf rfl rfl (fun h9 => ?_) (fun h9 => ?_)
      · skip
        refine gKn 19 rfl h9 <| gSeq <| gReg <| R rfl (asg rfl) <| R rfl (asg rfl) <| gNil <| eThen <| gRet <| eBret <| eTret <| eNew R_api_Frame 105 4 <| eRet0 [(.slice none 0 0)] [4] rfl (eE rfl <| eE rfl <| eN) (rR rfl rfl <| rN)
      · skip
        refine gKn 19 rfl h9 <| gSeq <| gReg <| R rfl (mv rfl) <| R rfl (len' rfl .rd rfl Try.underlying83) <| R rfl (I.eql rfl rfl) <| R rfl (asg rfl) <| lName 20 rfl fun y10 => gNil <| eThen <| gIf rfl rfl (fun h11 => ?_) (fun h11 => ?_)
        · skip
          refine gSeq <| gReg <| R rfl (ld 1 rfl rfl Foc.here ty5 rfl) <| R rfl (bld (x' := (⟨a1, 0, [], []⟩ : api_Frame)) [(0, 1), (1, 1), (2, 1), (3, 1)] Try.underlying105 ti105 rfl zr105 rfl (Bld.cons (pt_api_Frame_Kind _) rfl rfl <| Bld.done rfl)) <| Ef rfl (lit (R := R_api_Frame) ([(⟨a1, 0, [], []⟩ : api_Frame)] : List api_Frame) 5 (pP rfl rfl <| pN) rfl Try.underlying110 ti105 rfl rfl) fun v12 => R rfl (asg rfl) <| R rfl (asg rfl) <| gNil <| eThen <| gRet <| eBret <| eTret <| eRet0 [v12] [5] rfl (eE rfl <| eE rfl <| eN) (rR rfl rfl <| rN)
        · skip
          refine gSkip <| eBlk <| eThen <| gSeq <| gReg <| Eb rfl (allc 6 ti110 (.val rfl)) fun v13 => gNil <| eThen <| gSeq <| gSeq <| gReg <| R rfl (mv rfl) <| call [] [] rfl Try.func123 rfl rfl (slices_Chunk_api_ID_api_ID_ok _ _) (aQ rfl <| aQ rfl <| aN) rN fun r14 n15 => gNil <| eThen <| gNew R_api_Frame 105 26 <| gMidE (gRange (it := fun {σ} Y s => slices_Chunk_api_ID_api_ID_1 (σ := σ) r14.1 r14.2 Y s) (fun (s16 : (List api_Frame)) (n17 : Nat → Value) => [(1, some (v1, .box 5 [.rd u8R a1])), (25, some ((n17 0), .list R_api_Frame 105 s16)), (6, some (v13, .box 110 [.val (n17 0)]))]) [(3, .val (ptrTo v1 0)), (6, .val (ptrTo v13 0))] 7 [(.slice none 0 0)] [1, 26, 6] (slices_Chunk_api_ID_api_ID_1_it r14.1 r14.2) (fun _ _ => run_callF Try.func137 rfl rfl) rfl (sS rfl <| sS rfl <| sN) (rR rfl rfl <| rR rfl rfl <| rR rfl rfl <| rN) rfl (fun _ _ => rfl) ?_) (fun s26 => ?_)
          · intro lp18 rec19 H20 W21 n17 x22 s16 hr23 hlp24 hl25
            refine gReg <| R rfl (asg rfl) <| gNil <| eBegin hr23 hlp24 hl25 fun W27 hk28 ho29 hl30 => gBlk <| gRegH [6, 25, 36, 42] mixed rfl rfl <| hTake 1 rfl (by kernel_rfl) (by kernel_rfl) (by kernel_rfl) (gd0 rfl) rfl rfl (ld 1 rfl rfl Foc.here ty5 rfl) <| hTake 2 rfl (by kernel_rfl) (by kernel_rfl) (by kernel_rfl) (gd0 rfl) rfl rfl (mv rfl) <| hAlt [0, 3] (by kernel_rfl) rfl ⟨?_, ?_, trivial⟩
            · skip
              refine oRun 0 rfl (gd0 rfl) rfl rfl flat_val (ldV 6 rfl rfl .here sc110 rfl) <| hCallF 3 [] [(100, 36)] rfl (by kernel_rfl) rfl (gd0 rfl) rfl Try.func124 rfl rfl (slices_Clone_api_ID_api_ID_ok _) (aQ rfl <| aN) rN rfl (fun _ _ => flat_val) fun r31 n32 => hFrz 36 [33] rfl (fS rfl <| fN) <| hTakeP 4 rfl (by kernel_rfl) (by kernel_rfl) (by kernel_rfl) (gd0 rfl) rfl rfl (bld (x' := (⟨a1, 0, r31, []⟩ : api_Frame)) [(0, 1), (1, 1), (2, 1), (3, 1)] Try.underlying105 ti105 rfl zr105 rfl (Bld.cons (pt_api_Frame_Kind _) rfl rfl <| Bld.cons (pt_api_Frame_IDs _) rfl rfl <| Bld.done rfl)) <| hDo 5 rfl (by kernel_rfl) (gd0 rfl) rfl rfl rfl (lit (R := R_api_Frame) ([(⟨a1, 0, r31, []⟩ : api_Frame)] : List api_Frame) 42 (pP rfl rfl <| pN) rfl Try.underlying110 ti105 rfl rfl) (fun _ => rfl) fun v33 => hFrz 42 [35] rfl (fS rfl <| fN) <| hBind fun x34 h35 => hDo 6 rfl (by kernel_rfl) (gd0 rfl) rfl rfl rfl (apn 25 rfl rfl rfl .rd h35 Try.underlying110 ti105 rfl rfl rfl) (fun _ => rfl) fun v36 => hDoS 7 rfl (by kernel_rfl) (gd0 rfl) rfl rfl rfl rfl (stoE 6 rfl rfl (.here fills_val) rfl ones_val fills_val ti110) <| hDone (by kernel_rfl) <| eBlk <| eRound [v36] [1, 25, 6] hk28 ho29 hl30 (rR rfl rfl <| rR rfl rfl <| rR rfl rfl <| rN)
            · skip
              refine oCallF 3 [] [(100, 36)] rfl rfl (gd0 rfl) rfl Try.func124 rfl rfl (slices_Clone_api_ID_api_ID_ok _) (aQ rfl <| aN) rN rfl (fun _ _ => flat_val) fun r37 n38 => hFrz 36 [33] rfl (fS rfl <| fN) <| hTakeP 4 rfl (by kernel_rfl) (by kernel_rfl) (by kernel_rfl) (gd0 rfl) rfl rfl (bld (x' := (⟨a1, 0, r37, []⟩ : api_Frame)) [(0, 1), (1, 1), (2, 1), (3, 1)] Try.underlying105 ti105 rfl zr105 rfl (Bld.cons (pt_api_Frame_Kind _) rfl rfl <| Bld.cons (pt_api_Frame_IDs _) rfl rfl <| Bld.done rfl)) <| hAlt [0, 5] (by kernel_rfl) rfl ⟨?_, ?_, trivial⟩
              · skip
                refine oRun 0 rfl (gd0 rfl) rfl rfl flat_val (ldV 6 rfl rfl .here sc110 rfl) <| hDo 5 rfl (by kernel_rfl) (gd0 rfl) rfl rfl rfl (lit (R := R_api_Frame) ([(⟨a1, 0, r37, []⟩ : api_Frame)] : List api_Frame) 42 (pP rfl rfl <| pN) rfl Try.underlying110 ti105 rfl rfl) (fun _ => rfl) fun v39 => hFrz 42 [35] rfl (fS rfl <| fN) <| hBind fun x40 h41 => hDo 6 rfl (by kernel_rfl) (gd0 rfl) rfl rfl rfl (apn 25 rfl rfl rfl .rd h41 Try.underlying110 ti105 rfl rfl rfl) (fun _ => rfl) fun v42 => hDoS 7 rfl (by kernel_rfl) (gd0 rfl) rfl rfl rfl rfl (stoE 6 rfl rfl (.here fills_val) rfl ones_val fills_val ti110) <| hDone (by kernel_rfl) <| eBlk <| eRound [v42] [1, 25, 6] hk28 ho29 hl30 (rR rfl rfl <| rR rfl rfl <| rR rfl rfl <| rN)
              · skip
                refine oDo 5 rfl (gd0 rfl) rfl rfl rfl (lit (R := R_api_Frame) ([(⟨a1, 0, r37, []⟩ : api_Frame)] : List api_Frame) 42 (pP rfl rfl <| pN) rfl Try.underlying110 ti105 rfl rfl) (fun _ => rfl) fun v43 => hRun 0 rfl (by kernel_rfl) (gd0 rfl) rfl rfl flat_val (ldV 6 rfl rfl .here sc110 rfl) <| hFrz 42 [35] rfl (fS rfl <| fN) <| hBind fun x44 h45 => hDo 6 rfl (by kernel_rfl) (gd0 rfl) rfl rfl rfl (apn 25 rfl rfl rfl .rd h45 Try.underlying110 ti105 rfl rfl rfl) (fun _ => rfl) fun v46 => hDoS 7 rfl (by kernel_rfl) (gd0 rfl) rfl rfl rfl rfl (stoE 6 rfl rfl (.here fills_val) rfl ones_val fills_val ti110) <| hDone (by kernel_rfl) <| eBlk <| eRound [v46] [1, 25, 6] hk28 ho29 hl30 (rR rfl rfl <| rR rfl rfl <| rR rfl rfl <| rN)
          · skip
            refine eRng fun n47 d48 => eThen <| gSeq <| gReg <| R rfl (ldV 6 rfl rfl .here sc110 rfl) <| R rfl (asg rfl) <| R rfl (asg rfl) <| gNil <| eThen <| gRet <| eRetM 7 [(n47 0)] [25] rfl rfl (eE rfl <| eE rfl <| eN) (rR rfl rfl <| rN)
end Go.Proofs.Ytklfgpdfongaeaa
namespace Go.Proofs.Ytklfgpdfongaeaa
open Go Go.RowKit
set_option linter.unusedSimpArgs false
set_option linter.unusedVariables false
def braidref07_Great_L0 (a0 : api_Frame) (s3 : Int) : Option (Sum (Sum Bool Unit) Int) :=
  if decide (s3 < (a0.Ops.length : Int)) then
    if decide (s3 ≤ 20) then
      idx a0.Ops s3 >>= fun x6 =>
      if decide (1000 < (x6.length : Int)) then
        some (.inl (.inl true))
      else
        some (.inr (w64 (s3 + 1)))
    else
      some (.inl (.inr ()))
  else
    some (.inl (.inr ()))
def braidref07_Great (a0 : api_Frame) : Option (Bool) :=
  orRet (iter (braidref07_Great_L0 a0) 0) fun s2 =>
  if decide (100 < (a0.IDs.length : Int)) then
    some true
  else
    some (decide (20 < (a0.Ops.length : Int))) >>= fun y10 =>
    some y10
set_option maxRecDepth 100000 in
theorem braidref07_Great_ok (a0 : api_Frame) : Spec Try.prog 70 [.rd R_api_Frame a0] [] (braidref07_Great a0) (fun r nv => ⟨[.rd boolR r], []⟩) := by
  refine spec 32 Try.func70 rfl rfl rfl fun H w => ?_
  refine gSeq <| gReg <| Eb rfl (bx 1 rfl) fun v1 => R rfl (asg rfl) <| gNil <| eThen <| gMidR (fun (s2 : Unit) aa ww => Sta (ctx 32 H [] w) [(1, .val (ptrTo v1 0))] [(1, some (v1, .box 105 [.rd R_api_Frame a0]))] aa ww) ?_ (fun s2 => ?_)
  · skip
    refine gSeq <| gReg <| R rfl (asg rfl) <| gNil <| eThen <| gLoop (fun (s3 : Int) aa ww => Sta (ctx 32 H [] w) [(1, .val (ptrTo v1 0)), (3, .rd i64R s3)] [(1, some (v1, .box 105 [.rd R_api_Frame a0]))] aa ww) (fun aa ww h => h.sub [1] (sS rfl <| sS rfl <| sN) (rR rfl rfl <| rN)) (fun s3 => ?_)
    refine gSeq <| gSeq <| gReg <| R rfl (mv rfl) <| R rfl (faB 1 rfl rfl Try.underlying105 rfl (by exact ti103)) <| R rfl (ld 1 rfl rfl ((Foc.here).part (pt_api_Frame_Ops _)) ty103 rfl) <| R rfl (len' rfl .rd rfl Try.underlying103) <| R rfl (I.lss rfl rfl) <| R rfl (mv rfl) <| lSplit 9 rfl (fun h4 => ?_) (fun h4 => ?_)
    · skip
      refine lKn 8 rfl h4 <| lRun (gd rfl rfl rfl rfl) rfl rfl (mv rfl) <| lRun (gd rfl rfl rfl rfl) rfl rfl (I.leq rfl rfl) <| R rfl (pkT rfl rfl) <| gNil <| eThen <| gIf rfl rfl (fun h5 => ?_) (fun h5 => ?_)
      · skip
        refine gKn 11 rfl h5 <| gSkip <| eThen <| gSeq <| gBlk <| gSeq <| gReg <| R rfl (faB 1 rfl rfl Try.underlying105 rfl (by exact ti103)) <| R rfl (ld 1 rfl rfl ((Foc.here).part (pt_api_Frame_Ops _)) ty103 rfl) <| R rfl (mv rfl) <| lBind fun x6 h7 => R rfl (ixR rfl rfl h7 Try.underlying103 ti32 rfl) <| R rfl (ldR rfl ty32) <| R rfl (len' rfl .rd rfl Try.underlying32) <| R rfl (I.gtr rfl rfl) <| gNil <| eThen <| gIf rfl rfl (fun h8 => ?_) (fun h8 => ?_)
        · skip
          refine gSeq <| gReg <| R rfl (asg rfl) <| gNil <| eThen <| gRet <| eBret <| eTret <| eLret <| eMret <| eRet [] [] rfl (eE rfl <| eN) (rN)
        · skip
          refine gSkip <| eBlk <| eThen <| gReg <| R rfl (mv rfl) <| R rfl (I.add rfl rfl) <| R rfl (asg rfl) <| gNil <| eNext (fun aa ww h => h.sub [1] (sS rfl <| sS rfl <| sN) (rR rfl rfl <| rN))
      · skip
        refine gKn 11 rfl h5 <| gExit <| eTexit <| eLeave <| eMidR (fun aa ww h => h.sub [1] (sS rfl <| sN) (rR rfl rfl <| rN))
    · skip
      refine lKn 8 rfl h4 <| lSkip (gd rfl rfl rfl rfl) rfl rfl <| lSkip (gd rfl rfl rfl rfl) rfl rfl <| R rfl (pkF rfl rfl) <| gNil <| eThen <| gFalse rfl <| gExit <| eTexit <| eLeave <| eMidR (fun aa ww h => h.sub [1] (sS rfl <| sN) (rR rfl rfl <| rN))
  · skip
    refine gSeq <| gReg <| R rfl (faB 1 rfl rfl Try.underlying105 rfl (by exact ti83)) <| R rfl (ld 1 rfl rfl ((Foc.here).part (pt_api_Frame_IDs _)) ty83 rfl) <| R rfl (len' rfl .rd rfl Try.underlying83) <| R rfl (I.gtr rfl rfl) <| R rfl (mv rfl) <| lSplit 26 rfl (fun h9 => ?_) (fun h9 => ?_)
    · skip
      refine lKn 25 rfl h9 <| lSkip (gd rfl rfl rfl rfl) rfl rfl <| lSkip (gd rfl rfl rfl rfl) rfl rfl <| lSkip (gd rfl rfl rfl rfl) rfl rfl <| lSkip (gd rfl rfl rfl rfl) rfl rfl <| R rfl (pkT rfl rfl) <| R rfl (asg rfl) <| gNil <| eThen <| gRet <| eRet [] [] rfl (eE rfl <| eN) (rN)
    · skip
      refine lKn 25 rfl h9 <| lRun (gd rfl rfl rfl rfl) rfl rfl (faB 1 rfl rfl Try.underlying105 rfl (by exact ti103)) <| lRun (gd rfl rfl rfl rfl) rfl rfl (ld 1 rfl rfl ((Foc.here).part (pt_api_Frame_Ops _)) ty103 rfl) <| lRun (gd rfl rfl rfl rfl) rfl rfl (len' rfl .rd rfl Try.underlying103) <| lRun (gd rfl rfl rfl rfl) rfl rfl (I.gtr rfl rfl) <| R rfl (pkF rfl rfl) <| R rfl (asg rfl) <| lName 2 rfl fun y10 => gNil <| eThen <| gRet <| eRet [] [] rfl (eE rfl <| eN) (rN)
def braidref07_Twin_L0 (a0 : api_Frame) (s20 : (List (List UInt8)) × Int) : Option (Sum ((List (List UInt8))) ((List (List UInt8)) × Int)) :=
  if decide (s20.2 < (a0.Ops.length : Int)) then
    idx a0.Ops s20.2 >>= fun x23 =>
    app 1 ([] : List UInt8) x23 >>= fun x26 =>
    app 24 s20.1 [x26] >>= fun x30 =>
    some (w64 (s20.2 + 1)) >>= fun y33 =>
    some (.inr (x30, y33))
  else
    some (.inl s20.1)
def braidref07_Twin (a0 : api_Frame) : Option (api_Frame) :=
  (app 32 ([] : List (Vector UInt8 32)) a0.IDs >>= fun x5 =>
  some x5) >>= fun s3 =>
  (iter (braidref07_Twin_L0 a0) ([], 0)) >>= fun s19 =>
  some (⟨a0.Kind, a0.N, s3, s19⟩ : api_Frame)
set_option maxRecDepth 100000 in
theorem braidref07_Twin_ok (a0 : api_Frame) : Spec Try.prog 71 [.rd R_api_Frame a0] [] (braidref07_Twin a0) (fun r nv => ⟨[.rd R_api_Frame r], []⟩) := by
  refine spec 34 Try.func71 rfl rfl rfl fun H w => ?_
  refine gSeq <| gReg <| Eb rfl (bx 1 rfl) fun v1 => Eb rfl (allc 2 ti105 (ZrE.rd (R := u8R) (x := 0) (Zr.num rfl) (ZrE.rd (R := u64R) (x := 0) (Zr.num rfl) (ZrE.nilS (ZrE.nilS ZrE.nil)) rfl) rfl)) fun v2 => gNil <| eThen <| gMid (fun (s3 : (List (Vector UInt8 32))) aa ww => ∃ nv : Nat → Value, Sta (ctx 34 H [] w) [(1, .val (ptrTo v1 0)), (2, .val (ptrTo v2 0)), (3, .val (ptrTo (nv 0) 0))] [(1, some (v1, .box 105 [.rd R_api_Frame a0])), (2, some (v2, .box 105 [.rd u8R 0, .rd u64R 0, .val (.slice none 0 0), .val (.slice none 0 0)])), (15, some ((nv 1), .list (arrR 32 u8R) 102 s3)), (30, some ((nv 0), .box 105 [.rd u8R a0.Kind, .rd u64R a0.N, .val (nv 1), .val (.slice none 0 0)]))] aa ww) ?_ (fun s3 => ?_)
  · skip
    refine gRegH [43, 58] mixed rfl rfl <| hTake 0 rfl (by kernel_rfl) (by kernel_rfl) (by kernel_rfl) (gd0 rfl) rfl rfl (faB 1 rfl rfl Try.underlying105 rfl (by exact ti5)) <| hTake 1 rfl (by kernel_rfl) (by kernel_rfl) (by kernel_rfl) (gd0 rfl) rfl rfl (ld 1 rfl rfl ((Foc.here).part (pt_api_Frame_Kind _)) ty5 rfl) <| hTake 2 rfl (by kernel_rfl) (by kernel_rfl) (by kernel_rfl) (gd0 rfl) rfl rfl (faB 1 rfl rfl Try.underlying105 rfl (by exact ti31)) <| hTake 3 rfl (by kernel_rfl) (by kernel_rfl) (by kernel_rfl) (gd0 rfl) rfl rfl (ld 1 rfl rfl ((Foc.here).part (pt_api_Frame_N _)) ty31 rfl) <| hTake 5 rfl (by kernel_rfl) (by kernel_rfl) (by kernel_rfl) (gd0 rfl) rfl rfl (faB 1 rfl rfl Try.underlying105 rfl (by exact ti83)) <| hTake 6 rfl (by kernel_rfl) (by kernel_rfl) (by kernel_rfl) (gd0 rfl) rfl rfl (ld 1 rfl rfl ((Foc.here).part (pt_api_Frame_IDs _)) ty83 rfl) <| hAlt [4, 9] (by kernel_rfl) rfl ⟨?_, ?_, trivial⟩
    · skip
      refine oDo 4 rfl (gd0 rfl) rfl rfl rfl (lit (R := (arrR 32 u8R)) (([] : List (Vector UInt8 32)) : List (Vector UInt8 32)) 43 (pN) rfl Try.underlying83 ti102 rfl rfl) (fun _ => rfl) fun v4 => hAlt [7, 9] (by kernel_rfl) rfl ⟨?_, ?_, trivial⟩
      · skip
        refine oBind fun x5 h6 => oDo 7 rfl (gd0 rfl) rfl rfl rfl (apn 43 rfl rfl rfl .rd h6 Try.underlying83 ti102 rfl rfl rfl) (fun _ => rfl) fun v7 => hTakeP 8 rfl (by kernel_rfl) (by kernel_rfl) (by kernel_rfl) (gd0 rfl) rfl rfl (bldE [(0, 1), (1, 1), (2, 1), (3, 1)] Try.underlying105 ti105 (ZrE.rd (R := u8R) (x := 0) (Zr.num rfl) (ZrE.rd (R := u64R) (x := 0) (Zr.num rfl) (ZrE.nilS (ZrE.nilS ZrE.nil)) rfl) rfl) rfl (BldE.cons rfl rfl fills_rd (Swap.cast (Swap.here fills_rd) rfl) <| BldE.cons rfl rfl fills_rd (Swap.cast (Swap.next fills_rd (Swap.here fills_rd)) rfl) <| BldE.cons rfl rfl fills_val (Swap.cast (Swap.next fills_rd (Swap.next fills_rd (Swap.here fills_val))) rfl) <| BldE.done rfl)) <| hDoB 9 rfl (by kernel_rfl) (gd0 rfl) rfl rfl rfl (allc 58 ti105 (ZrE.rd (R := u8R) (x := 0) (Zr.num rfl) (ZrE.rd (R := u64R) (x := 0) (Zr.num rfl) (ZrE.nilS (ZrE.nilS ZrE.nil)) rfl) rfl)) fun v8 => hDoS 10 rfl (by kernel_rfl) (gd0 rfl) rfl rfl rfl rfl (stoG 58 rfl rfl (fillsL.cast (fillsL.cons fills_rd (fillsL.cons fills_rd (fillsL.cons fills_val (fillsL.cons fills_val fillsL.nil)))) rfl) rfl (onesL.cons ones_rd (onesL.cons ones_rd (onesL.cons ones_val (onesL.cons ones_val onesL.nil)))) (fillsL.cast (fillsL.cons fills_rd (fillsL.cons fills_rd (fillsL.cons fills_val (fillsL.cons fills_val fillsL.nil)))) rfl) ti105) <| hDone (by kernel_rfl) <| eMid (fun aa ww h => ⟨nvl [v8, v7], h.sub [1, 2, 43, 58] (sS rfl <| sS rfl <| sS rfl <| sN) (rR rfl rfl <| rR rfl rfl <| rR rfl rfl <| rR rfl rfl <| rN)⟩)
      · skip
        refine oDoB 9 rfl (gd0 rfl) rfl rfl rfl (allc 58 ti105 (ZrE.rd (R := u8R) (x := 0) (Zr.num rfl) (ZrE.rd (R := u64R) (x := 0) (Zr.num rfl) (ZrE.nilS (ZrE.nilS ZrE.nil)) rfl) rfl)) fun v9 => hBind fun x10 h11 => hDo 7 rfl (by kernel_rfl) (gd0 rfl) rfl rfl rfl (apn 43 rfl rfl rfl .rd h11 Try.underlying83 ti102 rfl rfl rfl) (fun _ => rfl) fun v12 => hTakeP 8 rfl (by kernel_rfl) (by kernel_rfl) (by kernel_rfl) (gd0 rfl) rfl rfl (bldE [(0, 1), (1, 1), (2, 1), (3, 1)] Try.underlying105 ti105 (ZrE.rd (R := u8R) (x := 0) (Zr.num rfl) (ZrE.rd (R := u64R) (x := 0) (Zr.num rfl) (ZrE.nilS (ZrE.nilS ZrE.nil)) rfl) rfl) rfl (BldE.cons rfl rfl fills_rd (Swap.cast (Swap.here fills_rd) rfl) <| BldE.cons rfl rfl fills_rd (Swap.cast (Swap.next fills_rd (Swap.here fills_rd)) rfl) <| BldE.cons rfl rfl fills_val (Swap.cast (Swap.next fills_rd (Swap.next fills_rd (Swap.here fills_val))) rfl) <| BldE.done rfl)) <| hDoS 10 rfl (by kernel_rfl) (gd0 rfl) rfl rfl rfl rfl (stoG 58 rfl rfl (fillsL.cast (fillsL.cons fills_rd (fillsL.cons fills_rd (fillsL.cons fills_val (fillsL.cons fills_val fillsL.nil)))) rfl) rfl (onesL.cons ones_rd (onesL.cons ones_rd (onesL.cons ones_val (onesL.cons ones_val onesL.nil)))) (fillsL.cast (fillsL.cons fills_rd (fillsL.cons fills_rd (fillsL.cons fills_val (fillsL.cons fills_val fillsL.nil)))) rfl) ti105) <| hDone (by kernel_rfl) <| eMid (fun aa ww h => ⟨nvl [v9, v12], h.sub [1, 2, 43, 58] (sS rfl <| sS rfl <| sS rfl <| sN) (rR rfl rfl <| rR rfl rfl <| rR rfl rfl <| rR rfl rfl <| rN)⟩)
    · skip
      refine oDoB 9 rfl (gd0 rfl) rfl rfl rfl (allc 58 ti105 (ZrE.rd (R := u8R) (x := 0) (Zr.num rfl) (ZrE.rd (R := u64R) (x := 0) (Zr.num rfl) (ZrE.nilS (ZrE.nilS ZrE.nil)) rfl) rfl)) fun v13 => hDo 4 rfl (by kernel_rfl) (gd0 rfl) rfl rfl rfl (lit (R := (arrR 32 u8R)) (([] : List (Vector UInt8 32)) : List (Vector UInt8 32)) 43 (pN) rfl Try.underlying83 ti102 rfl rfl) (fun _ => rfl) fun v14 => hBind fun x15 h16 => hDo 7 rfl (by kernel_rfl) (gd0 rfl) rfl rfl rfl (apn 43 rfl rfl rfl .rd h16 Try.underlying83 ti102 rfl rfl rfl) (fun _ => rfl) fun v17 => hTakeP 8 rfl (by kernel_rfl) (by kernel_rfl) (by kernel_rfl) (gd0 rfl) rfl rfl (bldE [(0, 1), (1, 1), (2, 1), (3, 1)] Try.underlying105 ti105 (ZrE.rd (R := u8R) (x := 0) (Zr.num rfl) (ZrE.rd (R := u64R) (x := 0) (Zr.num rfl) (ZrE.nilS (ZrE.nilS ZrE.nil)) rfl) rfl) rfl (BldE.cons rfl rfl fills_rd (Swap.cast (Swap.here fills_rd) rfl) <| BldE.cons rfl rfl fills_rd (Swap.cast (Swap.next fills_rd (Swap.here fills_rd)) rfl) <| BldE.cons rfl rfl fills_val (Swap.cast (Swap.next fills_rd (Swap.next fills_rd (Swap.here fills_val))) rfl) <| BldE.done rfl)) <| hDoS 10 rfl (by kernel_rfl) (gd0 rfl) rfl rfl rfl rfl (stoG 58 rfl rfl (fillsL.cast (fillsL.cons fills_rd (fillsL.cons fills_rd (fillsL.cons fills_val (fillsL.cons fills_val fillsL.nil)))) rfl) rfl (onesL.cons ones_rd (onesL.cons ones_rd (onesL.cons ones_val (onesL.cons ones_val onesL.nil)))) (fillsL.cast (fillsL.cons fills_rd (fillsL.cons fills_rd (fillsL.cons fills_val (fillsL.cons fills_val fillsL.nil)))) rfl) ti105) <| hDone (by kernel_rfl) <| eMid (fun aa ww h => ⟨nvl [v13, v17], h.sub [1, 2, 43, 58] (sS rfl <| sS rfl <| sS rfl <| sN) (rR rfl rfl <| rR rfl rfl <| rR rfl rfl <| rR rfl rfl <| rN)⟩)
  · skip
    refine gEx fun n18 => gMid (fun (s19 : (List (List UInt8))) aa ww => ∃ nv : Nat → Value, Sta (ctx 34 H [] w) [(2, .val (ptrTo v2 0)), (3, .val (ptrTo (n18 0) 0))] [(2, some (v2, .box 105 [.rd u8R 0, .rd u64R 0, .val (.slice none 0 0), .val (.slice none 0 0)])), (15, some ((n18 1), .list (arrR 32 u8R) 102 s3)), (97, some ((nv 0), .list (sliceR u8R) 32 s19)), (30, some ((n18 0), .box 105 [.rd u8R a0.Kind, .rd u64R a0.N, .val (n18 1), .val (nv 0)]))] aa ww) ?_ (fun s19 => ?_)
    · skip
      refine gSeq <| gReg <| R rfl (asg rfl) <| gNil <| eThen <| gNew (sliceR u8R) 32 129 <| gLoop (fun (s20 : (List (List UInt8)) × Int) aa ww => ∃ nv : Nat → Value, Sta (ctx 34 H [] w) [(1, .val (ptrTo v1 0)), (2, .val (ptrTo v2 0)), (3, .val (ptrTo (n18 0) 0)), (4, .rd i64R s20.2)] [(1, some (v1, .box 105 [.rd R_api_Frame a0])), (2, some (v2, .box 105 [.rd u8R 0, .rd u64R 0, .val (.slice none 0 0), .val (.slice none 0 0)])), (15, some ((n18 1), .list (arrR 32 u8R) 102 s3)), (128, some ((nv 0), .list (sliceR u8R) 32 s20.1)), (30, some ((n18 0), .box 105 [.rd u8R a0.Kind, .rd u64R a0.N, .val (n18 1), .val (nv 0)]))] aa ww) (fun aa ww h => ⟨nvl [(.slice none 0 0)], h.sub [1, 2, 15, 129, 30] (sS rfl <| sS rfl <| sS rfl <| sS rfl <| sN) (rR rfl rfl <| rR rfl rfl <| rR rfl rfl <| rR rfl rfl <| rR rfl rfl <| rN)⟩) (fun s20 => ?_)
      refine gEx fun n21 => gSeq <| gSeq <| gReg <| R rfl (mv rfl) <| R rfl (faB 1 rfl rfl Try.underlying105 rfl (by exact ti103)) <| R rfl (ld 1 rfl rfl ((Foc.here).part (pt_api_Frame_Ops _)) ty103 rfl) <| R rfl (len' rfl .rd rfl Try.underlying103) <| R rfl (I.lss rfl rfl) <| gNil <| eThen <| gIf rfl rfl (fun h22 => ?_) (fun h22 => ?_)
      · skip
        refine gSkip <| eThen <| gSeq <| gBlk <| gRegH [30, 128, 136, 157] mixed rfl rfl <| hTake 0 rfl (by kernel_rfl) (by kernel_rfl) (by kernel_rfl) (gd0 rfl) rfl rfl (faB 30 rfl rfl Try.underlying105 rfl (by exact ti103)) <| hTake 3 rfl (by kernel_rfl) (by kernel_rfl) (by kernel_rfl) (gd0 rfl) rfl rfl (faB 1 rfl rfl Try.underlying105 rfl (by exact ti103)) <| hTake 4 rfl (by kernel_rfl) (by kernel_rfl) (by kernel_rfl) (gd0 rfl) rfl rfl (ld 1 rfl rfl ((Foc.here).part (pt_api_Frame_Ops _)) ty103 rfl) <| hTake 5 rfl (by kernel_rfl) (by kernel_rfl) (by kernel_rfl) (gd0 rfl) rfl rfl (mv rfl) <| hBind fun x23 h24 => hTake 6 rfl (by kernel_rfl) (by kernel_rfl) (by kernel_rfl) (gd0 rfl) rfl rfl (ixR rfl rfl h24 Try.underlying103 ti32 rfl) <| hTake 7 rfl (by kernel_rfl) (by kernel_rfl) (by kernel_rfl) (gd0 rfl) rfl rfl (ldR rfl ty32) <| hAlt [1, 2] (by kernel_rfl) rfl ⟨?_, ?_, trivial⟩
        · skip
          refine oRun 1 rfl (gd0 rfl) rfl rfl flat_val (ldV 30 rfl rfl (At.cast (At.next fills_rd (At.next fills_rd (At.next fills_val At.here))) rfl) sc103 rfl) <| hDo 2 rfl (by kernel_rfl) (gd0 rfl) rfl rfl rfl (lit (R := u8R) (([] : List UInt8) : List UInt8) 136 (pN) rfl Try.underlying32 ti5 rfl rfl) (fun _ => rfl) fun v25 => hBind fun x26 h27 => hDo 8 rfl (by kernel_rfl) (gd0 rfl) rfl rfl rfl (apn 136 rfl rfl rfl .rd h27 Try.underlying32 ti5 rfl rfl rfl) (fun _ => rfl) fun v28 => hFrz 136 [29] rfl (fS rfl <| fN) <| hDo 9 rfl (by kernel_rfl) (gd0 rfl) rfl rfl rfl (lit (R := (sliceR u8R)) ([x26] : List (List UInt8)) 157 (pP rfl rfl <| pN) rfl Try.underlying103 ti32 rfl rfl) (fun _ => rfl) fun v29 => hFrz 157 [30] rfl (fS rfl <| fN) <| hBind fun x30 h31 => hDo 10 rfl (by kernel_rfl) (gd0 rfl) rfl rfl rfl (apn 128 rfl rfl rfl .rd h31 Try.underlying103 ti32 rfl rfl rfl) (fun _ => rfl) fun v32 => hTake 11 rfl (by kernel_rfl) (by kernel_rfl) (by kernel_rfl) (gd0 rfl) rfl rfl (faB 30 rfl rfl Try.underlying105 rfl (by exact ti103)) <| hDoS 12 rfl (by kernel_rfl) (gd0 rfl) rfl rfl rfl rfl (stoE 30 rfl rfl (Swap.cast (Swap.next fills_rd (Swap.next fills_rd (Swap.next fills_val (Swap.here fills_val)))) rfl) rfl ones_val fills_val ti103) <| hDone (by kernel_rfl) <| eBlk <| eThen <| gReg <| R rfl (mv rfl) <| R rfl (I.add rfl rfl) <| R rfl (asg rfl) <| lName 4 rfl fun y33 => gNil <| eNext (fun aa ww h => ⟨nvl [v32], h.sub [1, 2, 15, 128, 30] (sS rfl <| sS rfl <| sS rfl <| sS rfl <| sN) (rR rfl rfl <| rR rfl rfl <| rR rfl rfl <| rR rfl rfl <| rR rfl rfl <| rN)⟩)
        · skip
          refine oDo 2 rfl (gd0 rfl) rfl rfl rfl (lit (R := u8R) (([] : List UInt8) : List UInt8) 136 (pN) rfl Try.underlying32 ti5 rfl rfl) (fun _ => rfl) fun v34 => hAlt [1, 8] (by kernel_rfl) rfl ⟨?_, ?_, trivial⟩
          · skip
            refine oRun 1 rfl (gd0 rfl) rfl rfl flat_val (ldV 30 rfl rfl (At.cast (At.next fills_rd (At.next fills_rd (At.next fills_val At.here))) rfl) sc103 rfl) <| hBind fun x35 h36 => hDo 8 rfl (by kernel_rfl) (gd0 rfl) rfl rfl rfl (apn 136 rfl rfl rfl .rd h36 Try.underlying32 ti5 rfl rfl rfl) (fun _ => rfl) fun v37 => hFrz 136 [29] rfl (fS rfl <| fN) <| hDo 9 rfl (by kernel_rfl) (gd0 rfl) rfl rfl rfl (lit (R := (sliceR u8R)) ([x35] : List (List UInt8)) 157 (pP rfl rfl <| pN) rfl Try.underlying103 ti32 rfl rfl) (fun _ => rfl) fun v38 => hFrz 157 [30] rfl (fS rfl <| fN) <| hBind fun x39 h40 => hDo 10 rfl (by kernel_rfl) (gd0 rfl) rfl rfl rfl (apn 128 rfl rfl rfl .rd h40 Try.underlying103 ti32 rfl rfl rfl) (fun _ => rfl) fun v41 => hTake 11 rfl (by kernel_rfl) (by kernel_rfl) (by kernel_rfl) (gd0 rfl) rfl rfl (faB 30 rfl rfl Try.underlying105 rfl (by exact ti103)) <| hDoS 12 rfl (by kernel_rfl) (gd0 rfl) rfl rfl rfl rfl (stoE 30 rfl rfl (Swap.cast (Swap.next fills_rd (Swap.next fills_rd (Swap.next fills_val (Swap.here fills_val)))) rfl) rfl ones_val fills_val ti103) <| hDone (by kernel_rfl) <| eBlk <| eThen <| gReg <| R rfl (mv rfl) <| R rfl (I.add rfl rfl) <| R rfl (asg rfl) <| lName 4 rfl fun y42 => gNil <| eNext (fun aa ww h => ⟨nvl [v41], h.sub [1, 2, 15, 128, 30] (sS rfl <| sS rfl <| sS rfl <| sS rfl <| sN) (rR rfl rfl <| rR rfl rfl <| rR rfl rfl <| rR rfl rfl <| rR rfl rfl <| rN)⟩)
          · skip
            refine oBind fun x43 h44 => oDo 8 rfl (gd0 rfl) rfl rfl rfl (apn 136 rfl rfl rfl .rd h44 Try.underlying32 ti5 rfl rfl rfl) (fun _ => rfl) fun v45 => hAlt [1, 9] (by kernel_rfl) rfl ⟨?_, ?_, trivial⟩
            · skip
              refine oRun 1 rfl (gd0 rfl) rfl rfl flat_val (ldV 30 rfl rfl (At.cast (At.next fills_rd (At.next fills_rd (At.next fills_val At.here))) rfl) sc103 rfl) <| hFrz 136 [29] rfl (fS rfl <| fN) <| hDo 9 rfl (by kernel_rfl) (gd0 rfl) rfl rfl rfl (lit (R := (sliceR u8R)) ([x43] : List (List UInt8)) 157 (pP rfl rfl <| pN) rfl Try.underlying103 ti32 rfl rfl) (fun _ => rfl) fun v46 => hFrz 157 [30] rfl (fS rfl <| fN) <| hBind fun x47 h48 => hDo 10 rfl (by kernel_rfl) (gd0 rfl) rfl rfl rfl (apn 128 rfl rfl rfl .rd h48 Try.underlying103 ti32 rfl rfl rfl) (fun _ => rfl) fun v49 => hTake 11 rfl (by kernel_rfl) (by kernel_rfl) (by kernel_rfl) (gd0 rfl) rfl rfl (faB 30 rfl rfl Try.underlying105 rfl (by exact ti103)) <| hDoS 12 rfl (by kernel_rfl) (gd0 rfl) rfl rfl rfl rfl (stoE 30 rfl rfl (Swap.cast (Swap.next fills_rd (Swap.next fills_rd (Swap.next fills_val (Swap.here fills_val)))) rfl) rfl ones_val fills_val ti103) <| hDone (by kernel_rfl) <| eBlk <| eThen <| gReg <| R rfl (mv rfl) <| R rfl (I.add rfl rfl) <| R rfl (asg rfl) <| lName 4 rfl fun y50 => gNil <| eNext (fun aa ww h => ⟨nvl [v49], h.sub [1, 2, 15, 128, 30] (sS rfl <| sS rfl <| sS rfl <| sS rfl <| sN) (rR rfl rfl <| rR rfl rfl <| rR rfl rfl <| rR rfl rfl <| rR rfl rfl <| rN)⟩)
            · skip
              refine oFrz 136 [29] rfl (fS rfl <| fN) <| oDo 9 rfl (gd0 rfl) rfl rfl rfl (lit (R := (sliceR u8R)) ([x43] : List (List UInt8)) 157 (pP rfl rfl <| pN) rfl Try.underlying103 ti32 rfl rfl) (fun _ => rfl) fun v51 => hRun 1 rfl (by kernel_rfl) (gd0 rfl) rfl rfl flat_val (ldV 30 rfl rfl (At.cast (At.next fills_rd (At.next fills_rd (At.next fills_val At.here))) rfl) sc103 rfl) <| hFrz 157 [30] rfl (fS rfl <| fN) <| hBind fun x52 h53 => hDo 10 rfl (by kernel_rfl) (gd0 rfl) rfl rfl rfl (apn 128 rfl rfl rfl .rd h53 Try.underlying103 ti32 rfl rfl rfl) (fun _ => rfl) fun v54 => hTake 11 rfl (by kernel_rfl) (by kernel_rfl) (by kernel_rfl) (gd0 rfl) rfl rfl (faB 30 rfl rfl Try.underlying105 rfl (by exact ti103)) <| hDoS 12 rfl (by kernel_rfl) (gd0 rfl) rfl rfl rfl rfl (stoE 30 rfl rfl (Swap.cast (Swap.next fills_rd (Swap.next fills_rd (Swap.next fills_val (Swap.here fills_val)))) rfl) rfl ones_val fills_val ti103) <| hDone (by kernel_rfl) <| eBlk <| eThen <| gReg <| R rfl (mv rfl) <| R rfl (I.add rfl rfl) <| R rfl (asg rfl) <| lName 4 rfl fun y55 => gNil <| eNext (fun aa ww h => ⟨nvl [v54], h.sub [1, 2, 15, 128, 30] (sS rfl <| sS rfl <| sS rfl <| sS rfl <| sN) (rR rfl rfl <| rR rfl rfl <| rR rfl rfl <| rR rfl rfl <| rR rfl rfl <| rN)⟩)
      · skip
        refine gExit <| eTexit <| eLeave <| eMid (fun aa ww h => ⟨nvl [(n21 0)], h.sub [2, 15, 128, 30] (sS rfl <| sS rfl <| sN) (rR rfl rfl <| rR rfl rfl <| rR rfl rfl <| rR rfl rfl <| rN)⟩)
    · skip
      refine gEx fun n56 => gSeq <| gReg <| lPow [.rd u8R a0.Kind, .rd u64R a0.N, .rd (sliceR (arrR 32 u8R)) s3, .val (n56 0)] 30 15 [.rd u8R a0.Kind, .rd u64R a0.N] [.val (n56 0)] rfl rfl rfl rfl rfl <| lPow [.rd u8R a0.Kind, .rd u64R a0.N, .rd (sliceR (arrR 32 u8R)) s3, .rd (sliceR (sliceR u8R)) s19] 30 97 [.rd u8R a0.Kind, .rd u64R a0.N, .rd (sliceR (arrR 32 u8R)) s3] [] rfl rfl rfl rfl rfl <| lJoi (R := R_api_Frame) (⟨a0.Kind, a0.N, s3, s19⟩ : api_Frame) 30 rfl (Sp.via (Sp.prod (Sp.prod (Sp.prod (Sp.prod Sp.unit))))) <| R rfl (ld 30 rfl rfl Foc.here ty105 rfl) <| lPnl (arrR 32 u8R) [.rd u8R 0, .rd u64R 0, .rd (sliceR (arrR 32 u8R)) [], .val (.slice none 0 0)] 2 [.rd u8R 0, .rd u64R 0] [.val (.slice none 0 0)] rfl rfl rfl <| lPnl (sliceR u8R) [.rd u8R 0, .rd u64R 0, .rd (sliceR (arrR 32 u8R)) [], .rd (sliceR (sliceR u8R)) []] 2 [.rd u8R 0, .rd u64R 0, .rd (sliceR (arrR 32 u8R)) []] [] rfl rfl rfl <| lJoi (R := R_api_Frame) (⟨0, 0, [], []⟩ : api_Frame) 2 rfl (Sp.via (Sp.prod (Sp.prod (Sp.prod (Sp.prod Sp.unit))))) <| Es (sto 2 rfl rfl Foc.here rfl ti105) <| gNil <| eThen <| gRet <| eRet [] [] rfl (eC 2 rfl rfl ty105 <| eN) (rN)
def frame_Encode (a0 : api_Frame) : Option ((List UInt8) × Int) :=
  frame_write a0 >>= fun r2 =>
  if !r2.2 then
    some ([], 8)
  else
    some (r2.1, 0)
set_option maxRecDepth 100000 in
theorem frame_Encode_ok (a0 : api_Frame) : Spec Try.prog 72 [.rd R_api_Frame a0] [] (frame_Encode a0) (fun r nv => ⟨[.val (nv 0), .rd i64R r.2], [(100, some (nv 0, .list u8R 5 r.1))]⟩) := by
  refine spec 14 Try.func72 rfl rfl rfl fun H w => ?_
  refine gSeq <| gReg <| Eb rfl (bx 1 rfl) fun v1 => R rfl (asg rfl) <| R rfl (asg rfl) <| gNil <| eThen <| gSeq <| gReg <| R rfl (ld 1 rfl rfl Foc.here ty105 rfl) <| call [] [(100, 2)] rfl Try.func119 rfl rfl (frame_write_ok _) (aQ rfl <| aN) rN fun r2 n3 => R rfl (mv rfl) <| R rfl (ext rfl rfl) <| R rfl (ext rfl rfl) <| R rfl (asg rfl) <| R rfl (asg rfl) <| gNil <| eThen <| gSeq <| gSeq <| gReg <| R rfl (mv rfl) <| R rfl (not' rfl) <| gNil <| eThen <| gIf rfl rfl (fun h4 => ?_) (fun h4 => ?_)
  · skip
    refine gSeq <| gReg <| R rfl (asg rfl) <| R rfl (asg rfl) <| gNil <| eThen <| gRet <| eTret <| eNew u8R 5 3 <| eRet [(.slice none 0 0)] [3] rfl (eE rfl <| eE rfl <| eN) (rR rfl rfl <| rN)
  · skip
    refine gSkip <| eThen <| gSeq <| gReg <| R rfl (mv rfl) <| R rfl (asg rfl) <| R rfl (asg rfl) <| gNil <| eThen <| gRet <| eRet [(n3 0)] [2] rfl (eE rfl <| eE rfl <| eN) (rR rfl rfl <| rN)
def braidref07_Encode (a0 : api_Frame) : Option ((List UInt8) × Int) :=
  braidref07_Check a0 >>= fun r2 =>
  if r2 != 0 then
    some ([], 8)
  else
    braidref07_Bytes a0 >>= fun r5 =>
    some (r5, 0)
set_option maxRecDepth 100000 in
theorem braidref07_Encode_ok (a0 : api_Frame) : Spec Try.prog 73 [.rd R_api_Frame a0] [] (braidref07_Encode a0) (fun r nv => ⟨[.val (nv 0), .rd i64R r.2], [(100, some (nv 0, .list u8R 5 r.1))]⟩) := by
  refine spec 9 Try.func73 rfl rfl rfl fun H w => ?_
  refine gSeq <| gReg <| Eb rfl (bx 1 rfl) fun v1 => R rfl (asg rfl) <| R rfl (asg rfl) <| gNil <| eThen <| gSeq <| gSeq <| gReg <| R rfl (ld 1 rfl rfl Foc.here ty105 rfl) <| call [] [] rfl Try.func77 rfl rfl (braidref07_Check_ok _) (aQ rfl <| aN) rN fun r2 n3 => R rfl (I.neq rfl rfl) <| gNil <| eThen <| gIf rfl rfl (fun h4 => ?_) (fun h4 => ?_)
  · skip
    refine gSeq <| gReg <| R rfl (asg rfl) <| R rfl (asg rfl) <| gNil <| eThen <| gRet <| eTret <| eNew u8R 5 2 <| eRet [(.slice none 0 0)] [2] rfl (eE rfl <| eE rfl <| eN) (rR rfl rfl <| rN)
  · skip
    refine gSkip <| eThen <| gSeq <| gReg <| R rfl (ld 1 rfl rfl Foc.here ty105 rfl) <| call [] [(100, 3)] rfl Try.func120 rfl rfl (braidref07_Bytes_ok _) (aQ rfl <| aN) rN fun r5 n6 => R rfl (asg rfl) <| R rfl (asg rfl) <| gNil <| eThen <| gRet <| eRet [(n6 0)] [3] rfl (eE rfl <| eE rfl <| eN) (rR rfl rfl <| rN)
def braidref07_Split_L0 (a0 : List (Vector UInt8 32)) (a1 : UInt8) (s9 : (List api_Frame) × Int) : Option (Sum ((List api_Frame)) ((List api_Frame) × Int)) :=
  orRet (if s9.2 == 0 then
    some (.inr ())
  else
    if decide (s9.2 < (a0.length : Int)) then
      some (.inr ())
    else
      some (.inl (.inl s9.1))) fun s11 =>
  cut a0 s9.2 (min (w64 (s9.2 + 40)) (a0.length : Int)) >>= fun x15 =>
  app 32 ([] : List (Vector UInt8 32)) x15 >>= fun x17 =>
  app 64 s9.1 [(⟨a1, 0, x17, []⟩ : api_Frame)] >>= fun x21 =>
  some (w64 (s9.2 + 40)) >>= fun y24 =>
  some (.inr (x21, y24))
def braidref07_Split (a0 : List (Vector UInt8 32)) (a1 : UInt8) : Option ((List api_Frame) × Int) :=
  braidref07_Listed a1 >>= fun r1 =>
  if !r1 then
    some ([], 2)
  else
    if decide (60 < (a0.length : Int)) then
      some ([], 4)
    else
      braidref04_Rising a0 >>= fun r5 =>
      if !r5 then
        some ([], 32)
      else
        (iter (braidref07_Split_L0 a0 a1) ([], 0)) >>= fun s8 =>
        some (s8, 0)
set_option maxRecDepth 100000 in
theorem braidref07_Split_ok (a0 : List (Vector UInt8 32)) (a1 : UInt8) : Spec Try.prog 75 [.rd (sliceR (arrR 32 u8R)) a0, .rd u8R a1] [] (braidref07_Split a0 a1) (fun r nv => ⟨[.val (nv 0), .rd i64R r.2], [(100, some (nv 0, .list R_api_Frame 105 r.1))]⟩) := by
  refine spec 43 Try.func75 rfl rfl rfl fun H w => ?_
  refine gSeq <| gReg <| R rfl (asg rfl) <| R rfl (asg rfl) <| gNil <| eThen <| gSeq <| gSeq <| gReg <| R rfl (mv rfl) <| call [] [] rfl Try.func93 rfl rfl (braidref07_Listed_ok _) (aQ rfl <| aN) rN fun r1 n2 => R rfl (not' rfl) <| gNil <| eThen <| gIf rfl rfl (fun h3 => ?_) (fun h3 => ?_)
  · skip
    refine gSeq <| gReg <| R rfl (asg rfl) <| R rfl (asg rfl) <| gNil <| eThen <| gRet <| eTret <| eNew R_api_Frame 105 1 <| eRet [(.slice none 0 0)] [1] rfl (eE rfl <| eE rfl <| eN) (rR rfl rfl <| rN)
  · skip
    refine gSkip <| eThen <| gSeq <| gSeq <| gReg <| R rfl (mv rfl) <| R rfl (len' rfl .rd rfl Try.underlying83) <| R rfl (I.gtr rfl rfl) <| gNil <| eThen <| gIf rfl rfl (fun h4 => ?_) (fun h4 => ?_)
    · skip
      refine gSeq <| gReg <| R rfl (asg rfl) <| R rfl (asg rfl) <| gNil <| eThen <| gRet <| eTret <| eNew R_api_Frame 105 2 <| eRet [(.slice none 0 0)] [2] rfl (eE rfl <| eE rfl <| eN) (rR rfl rfl <| rN)
    · skip
      refine gSkip <| eThen <| gSeq <| gSeq <| gReg <| R rfl (mv rfl) <| call [] [] rfl Try.func60 rfl rfl (braidref04_Rising_ok _) (aQ rfl <| aN) rN fun r5 n6 => R rfl (not' rfl) <| gNil <| eThen <| gIf rfl rfl (fun h7 => ?_) (fun h7 => ?_)
      · skip
        refine gSeq <| gReg <| R rfl (asg rfl) <| R rfl (asg rfl) <| gNil <| eThen <| gRet <| eTret <| eNew R_api_Frame 105 3 <| eRet [(.slice none 0 0)] [3] rfl (eE rfl <| eE rfl <| eN) (rR rfl rfl <| rN)
      · skip
        refine gSkip <| eThen <| gSeq <| gReg <| R rfl (asg rfl) <| gNil <| eThen <| gMid (fun (s8 : (List api_Frame)) aa ww => ∃ nv : Nat → Value, Sta (ctx 43 H [] w) [(6, .val (nv 0))] [(6, some ((nv 0), .list R_api_Frame 105 s8))] aa ww) ?_ (fun s8 => ?_)
        · skip
          refine gSeq <| gReg <| R rfl (asg rfl) <| gNil <| eThen <| gNew R_api_Frame 105 10 <| gLoop (fun (s9 : (List api_Frame) × Int) aa ww => ∃ nv : Nat → Value, Sta (ctx 43 H [] w) [(0, .rd (sliceR (arrR 32 u8R)) a0), (1, .rd u8R a1), (6, .val (nv 0)), (7, .rd i64R s9.2)] [(9, some ((nv 0), .list R_api_Frame 105 s9.1))] aa ww) (fun aa ww h => ⟨nvl [(.slice none 0 0)], h.sub [10] (sS rfl <| sS rfl <| sS rfl <| sS rfl <| sN) (rR rfl rfl <| rN)⟩) (fun s9 => ?_)
          refine gEx fun n10 => gMidR (fun (s11 : Unit) aa ww => Sta (ctx 43 H [] w) [(0, .rd (sliceR (arrR 32 u8R)) a0), (1, .rd u8R a1), (6, .val (n10 0)), (7, .rd i64R s9.2)] [(9, some ((n10 0), .list R_api_Frame 105 s9.1))] aa ww) ?_ (fun s11 => ?_)
          · skip
            refine gSeq <| gReg <| R rfl (mv rfl) <| R rfl (I.eql rfl rfl) <| R rfl (mv rfl) <| lSplit 19 rfl (fun h12 => ?_) (fun h12 => ?_)
            · skip
              refine lKn 18 rfl h12 <| lSkip (gd rfl rfl rfl rfl) rfl rfl <| lSkip (gd rfl rfl rfl rfl) rfl rfl <| lSkip (gd rfl rfl rfl rfl) rfl rfl <| lSkip (gd rfl rfl rfl rfl) rfl rfl <| R rfl (pkT rfl rfl) <| gNil <| eThen <| gTrue rfl <| gSkip <| eMidR (fun aa ww h => h.sub [9] (sS rfl <| sS rfl <| sS rfl <| sS rfl <| sN) (rR rfl rfl <| rN))
            · skip
              refine lKn 18 rfl h12 <| lRun (gd rfl rfl rfl rfl) rfl rfl (mv rfl) <| lRun (gd rfl rfl rfl rfl) rfl rfl (mv rfl) <| lRun (gd rfl rfl rfl rfl) rfl rfl (len' rfl .rd rfl Try.underlying83) <| lRun (gd rfl rfl rfl rfl) rfl rfl (I.lss rfl rfl) <| R rfl (pkF rfl rfl) <| gNil <| eThen <| gIf rfl rfl (fun h13 => ?_) (fun h13 => ?_)
              · skip
                refine gKn 23 rfl h13 <| gSkip <| eMidR (fun aa ww h => h.sub [9] (sS rfl <| sS rfl <| sS rfl <| sS rfl <| sN) (rR rfl rfl <| rN))
              · skip
                refine gKn 23 rfl h13 <| gExit <| eMexit <| eLeave <| eMid (fun aa ww h => ⟨nvl [(n10 0)], h.sub [9] (sS rfl <| sN) (rR rfl rfl <| rN)⟩)
          · skip
            refine gSeq <| gBlk <| gReg <| R rfl (mv rfl) <| R rfl (mv rfl) <| Ef rfl (lit (R := (arrR 32 u8R)) (([] : List (Vector UInt8 32)) : List (Vector UInt8 32)) 11 (pN) rfl Try.underlying83 ti102 rfl rfl) fun v14 => R rfl (mv rfl) <| R rfl (mv rfl) <| R rfl (mv rfl) <| R rfl (I.add rfl rfl) <| R rfl (mv rfl) <| R rfl (len' rfl .rd rfl Try.underlying83) <| R rfl (I.min rfl rfl) <| lBind fun x15 h16 => R rfl (cut' rfl (.to rfl) (.to rfl) h16 Try.underlying83 ti102) <| lBind fun x17 h18 => Ef rfl (apn 11 rfl rfl rfl .rd h18 Try.underlying83 ti102 rfl rfl rfl) fun v19 => lFrz 11 [38] rfl (fS rfl <| fN) <| R rfl (bld (x' := (⟨a1, 0, x17, []⟩ : api_Frame)) [(0, 1), (1, 1), (2, 1), (3, 1)] Try.underlying105 ti105 rfl zr105 rfl (Bld.cons (pt_api_Frame_Kind _) rfl rfl <| Bld.cons (pt_api_Frame_IDs _) rfl rfl <| Bld.done rfl)) <| Ef rfl (lit (R := R_api_Frame) ([(⟨a1, 0, x17, []⟩ : api_Frame)] : List api_Frame) 12 (pP rfl rfl <| pN) rfl Try.underlying110 ti105 rfl rfl) fun v20 => lFrz 12 [40] rfl (fS rfl <| fN) <| lBind fun x21 h22 => Ef rfl (apn 9 rfl rfl rfl .rd h22 Try.underlying110 ti105 rfl rfl rfl) fun v23 => R rfl (asg rfl) <| gNil <| eBlk <| eThen <| gReg <| R rfl (mv rfl) <| R rfl (I.add rfl rfl) <| R rfl (asg rfl) <| lName 7 rfl fun y24 => gNil <| eNext (fun aa ww h => ⟨nvl [v23], h.sub [9] (sS rfl <| sS rfl <| sS rfl <| sS rfl <| sN) (rR rfl rfl <| rN)⟩)
        · skip
          refine gEx fun n25 => gSeq <| gReg <| R rfl (mv rfl) <| R rfl (asg rfl) <| R rfl (asg rfl) <| gNil <| eThen <| gRet <| eRet [(n25 0)] [6] rfl (eE rfl <| eE rfl <| eN) (rR rfl rfl <| rN)
def braidlaw07_FrameWrites_L0 (r13 : (List api_Frame) × Int) (r15 : (List api_Frame) × Int) (s33 : Int) : Option (Sum (Sum Bool Unit) Int) :=
  if decide (s33 < (r13.1.length : Int)) then
    idx r13.1 s33 >>= fun x35 =>
    idx r15.1 s33 >>= fun x37 =>
    braidref07_Same x35 x37 >>= fun r39 =>
    if !r39 then
      some (.inl (.inl false))
    else
      some (w64 (s33 + 1)) >>= fun y42 =>
      some (.inr y42)
  else
    some (.inl (.inr ()))
def braidlaw07_FrameWrites (a0 : api_Frame) (a1 : List (Vector UInt8 32)) (a2 : UInt8) : Option (Bool) :=
  braidref07_Great a0 >>= fun r2 =>
  if r2 then
    some true
  else
    if decide (100 < (a1.length : Int)) then
      some true
    else
      braidref07_Twin a0 >>= fun r6 =>
      frame_Encode r6 >>= fun r9 =>
      braidref07_Encode a0 >>= fun r11 =>
      frame_Split a1 a2 >>= fun r13 =>
      braidref07_Split a1 a2 >>= fun r15 =>
      (frame_Check r6 >>= fun r18 =>
      braidref07_Check a0 >>= fun r20 =>
      if r18 != r20 then
        some true
      else
        braidref01_SameBytes r9.1 r11.1 >>= fun r23 =>
        if !r23 then
          some true
        else
          if r9.2 != r11.2 then
            some true
          else
            if r13.2 != r15.2 then
              some true
            else
              if (r13.1.length : Int) != (r15.1.length : Int) then
                some true
              else
                braidref07_Same r6 a0 >>= fun r29 =>
                some (!r29)) >>= fun s17 =>
      if s17 then
        some false
      else
        orRet (iter (braidlaw07_FrameWrites_L0 r13 r15) 0) fun s32 =>
        some true
set_option maxRecDepth 100000 in
theorem braidlaw07_FrameWrites_ok (a0 : api_Frame) (a1 : List (Vector UInt8 32)) (a2 : UInt8) : Spec Try.prog 12 [.rd R_api_Frame a0, .rd (sliceR (arrR 32 u8R)) a1, .rd u8R a2] [] (braidlaw07_FrameWrites a0 a1 a2) (fun r nv => ⟨[.rd boolR r], []⟩) := by
  refine spec 98 Try.func12 rfl rfl rfl fun H w => ?_
  refine gSeq <| gReg <| Eb rfl (bx 1 rfl) fun v1 => R rfl (asg rfl) <| gNil <| eThen <| gSeq <| gSeq <| gReg <| R rfl (ld 1 rfl rfl Foc.here ty105 rfl) <| call [] [] rfl Try.func70 rfl rfl (braidref07_Great_ok _) (aQ rfl <| aN) rN fun r2 n3 => R rfl (mv rfl) <| lSplit 19 rfl (fun h4 => ?_) (fun h4 => ?_)
  · skip
    refine lKn 18 rfl h4 <| lSkip (gd rfl rfl rfl rfl) rfl rfl <| lSkip (gd rfl rfl rfl rfl) rfl rfl <| lSkip (gd rfl rfl rfl rfl) rfl rfl <| R rfl (pkT rfl rfl) <| gNil <| eThen <| gTrue rfl <| gSeq <| gReg <| R rfl (asg rfl) <| gNil <| eThen <| gRet <| eTret <| eRet [] [] rfl (eE rfl <| eN) (rN)
  · skip
    refine lKn 18 rfl h4 <| lRun (gd rfl rfl rfl rfl) rfl rfl (mv rfl) <| lRun (gd rfl rfl rfl rfl) rfl rfl (len' rfl .rd rfl Try.underlying83) <| lRun (gd rfl rfl rfl rfl) rfl rfl (I.gtr rfl rfl) <| R rfl (pkF rfl rfl) <| gNil <| eThen <| gIf rfl rfl (fun h5 => ?_) (fun h5 => ?_)
    · skip
      refine gKn 22 rfl h5 <| gSeq <| gReg <| R rfl (asg rfl) <| gNil <| eThen <| gRet <| eTret <| eRet [] [] rfl (eE rfl <| eN) (rN)
    · skip
      refine gKn 22 rfl h5 <| gSkip <| eThen <| gSeq <| gReg <| R rfl (ld 1 rfl rfl Foc.here ty105 rfl) <| call [] [] rfl Try.func71 rfl rfl (braidref07_Twin_ok _) (aQ rfl <| aN) rN fun r6 n7 => Eb rfl (allc 2 ti105 (ZrE.rd (R := u8R) (x := 0) (Zr.num rfl) (ZrE.rd (R := u64R) (x := 0) (Zr.num rfl) (ZrE.nilS (ZrE.nilS ZrE.nil)) rfl) rfl)) fun v8 => lPnl (arrR 32 u8R) [.rd u8R 0, .rd u64R 0, .rd (sliceR (arrR 32 u8R)) [], .val (.slice none 0 0)] 2 [.rd u8R 0, .rd u64R 0] [.val (.slice none 0 0)] rfl rfl rfl <| lPnl (sliceR u8R) [.rd u8R 0, .rd u64R 0, .rd (sliceR (arrR 32 u8R)) [], .rd (sliceR (sliceR u8R)) []] 2 [.rd u8R 0, .rd u64R 0, .rd (sliceR (arrR 32 u8R)) []] [] rfl rfl rfl <| lJoi (R := R_api_Frame) (⟨0, 0, [], []⟩ : api_Frame) 2 rfl (Sp.via (Sp.prod (Sp.prod (Sp.prod (Sp.prod Sp.unit))))) <| Es (sto 2 rfl rfl Foc.here rfl ti105) <| gNil <| eThen <| gSeq <| gReg <| R rfl (ld 2 rfl rfl Foc.here ty105 rfl) <| call [] [(100, 3)] rfl Try.func72 rfl rfl (frame_Encode_ok _) (aQ rfl <| aN) rN fun r9 n10 => R rfl (mv rfl) <| R rfl (ext rfl rfl) <| R rfl (ext rfl rfl) <| R rfl (asg rfl) <| R rfl (asg rfl) <| gNil <| eThen <| gSeq <| gReg <| R rfl (ld 1 rfl rfl Foc.here ty105 rfl) <| call [] [(100, 4)] rfl Try.func73 rfl rfl (braidref07_Encode_ok _) (aQ rfl <| aN) rN fun r11 n12 => R rfl (mv rfl) <| R rfl (ext rfl rfl) <| R rfl (ext rfl rfl) <| R rfl (asg rfl) <| R rfl (asg rfl) <| gNil <| eThen <| gSeq <| gReg <| R rfl (mv rfl) <| R rfl (mv rfl) <| call [] [(100, 5)] rfl Try.func74 rfl rfl (frame_Split_ok _ _) (aQ rfl <| aQ rfl <| aN) rN fun r13 n14 => R rfl (mv rfl) <| R rfl (ext rfl rfl) <| R rfl (ext rfl rfl) <| R rfl (asg rfl) <| R rfl (asg rfl) <| gNil <| eThen <| gSeq <| gReg <| R rfl (mv rfl) <| R rfl (mv rfl) <| call [] [(100, 6)] rfl Try.func75 rfl rfl (braidref07_Split_ok _ _) (aQ rfl <| aQ rfl <| aN) rN fun r15 n16 => R rfl (mv rfl) <| R rfl (ext rfl rfl) <| R rfl (ext rfl rfl) <| R rfl (asg rfl) <| R rfl (asg rfl) <| gNil <| eThen <| gSeq <| gMid (fun (s17 : Bool) aa ww => Sta (ctx 98 H [] w) [(12, .val (n14 0)), (14, .val (n16 0)), (81, .rd boolR s17)] [(5, some ((n14 0), .list R_api_Frame 105 r13.1)), (6, some ((n16 0), .list R_api_Frame 105 r15.1))] aa ww) ?_ (fun s17 => ?_)
      · skip
        refine gRegH [] mixed rfl rfl <| hTake 0 rfl (by kernel_rfl) (by kernel_rfl) (by kernel_rfl) (gd0 rfl) rfl rfl (ld 2 rfl rfl Foc.here ty105 rfl) <| hTake 2 rfl (by kernel_rfl) (by kernel_rfl) (by kernel_rfl) (gd0 rfl) rfl rfl (ld 1 rfl rfl Foc.here ty105 rfl) <| hCallF 1 [] [] rfl (by kernel_rfl) rfl (gd0 rfl) rfl Try.func76 rfl rfl (frame_Check_ok _) (aQ rfl <| aN) rN rfl (fun _ _ => flat_num) fun r18 n19 => hCallF 3 [] [] rfl (by kernel_rfl) rfl (gd0 rfl) rfl Try.func77 rfl rfl (braidref07_Check_ok _) (aQ rfl <| aN) rN rfl (fun _ _ => flat_num) fun r20 n21 => hTake 4 rfl (by kernel_rfl) (by kernel_rfl) (by kernel_rfl) (gd0 rfl) rfl rfl (I.neq rfl rfl) <| hTake 5 rfl (by kernel_rfl) (by kernel_rfl) (by kernel_rfl) (gd0 rfl) rfl rfl (mv rfl) <| hIf 53 rfl rfl (fun h22 => ?_) (fun h22 => ?_)
        · skip
          refine hKn 52 rfl rfl h22 <| hSkip 6 rfl (by kernel_rfl) (by kernel_rfl) (by kernel_rfl) (gd rfl rfl rfl rfl) rfl rfl <| hSkip 7 rfl (by kernel_rfl) (by kernel_rfl) (by kernel_rfl) (gd rfl rfl rfl rfl) rfl rfl <| hSkip 8 rfl (by kernel_rfl) (by kernel_rfl) (by kernel_rfl) (gd rfl rfl rfl rfl) rfl rfl <| hSkip 9 rfl (by kernel_rfl) (by kernel_rfl) (by kernel_rfl) (gd rfl rfl rfl rfl) rfl rfl <| hTake 10 rfl (by kernel_rfl) (by kernel_rfl) (by kernel_rfl) (gd0 rfl) rfl rfl (pkT rfl rfl) <| hTake 11 rfl (by kernel_rfl) (by kernel_rfl) (by kernel_rfl) (gd0 rfl) rfl rfl (mv rfl) <| hSkip 12 rfl (by kernel_rfl) (by kernel_rfl) (by kernel_rfl) (gd rfl rfl rfl rfl) rfl rfl <| hSkip 13 rfl (by kernel_rfl) (by kernel_rfl) (by kernel_rfl) (gd rfl rfl rfl rfl) rfl rfl <| hSkip 14 rfl (by kernel_rfl) (by kernel_rfl) (by kernel_rfl) (gd rfl rfl rfl rfl) rfl rfl <| hTake 15 rfl (by kernel_rfl) (by kernel_rfl) (by kernel_rfl) (gd0 rfl) rfl rfl (pkT rfl rfl) <| hTake 16 rfl (by kernel_rfl) (by kernel_rfl) (by kernel_rfl) (gd0 rfl) rfl rfl (mv rfl) <| hSkip 17 rfl (by kernel_rfl) (by kernel_rfl) (by kernel_rfl) (gd rfl rfl rfl rfl) rfl rfl <| hSkip 18 rfl (by kernel_rfl) (by kernel_rfl) (by kernel_rfl) (gd rfl rfl rfl rfl) rfl rfl <| hSkip 19 rfl (by kernel_rfl) (by kernel_rfl) (by kernel_rfl) (gd rfl rfl rfl rfl) rfl rfl <| hTake 20 rfl (by kernel_rfl) (by kernel_rfl) (by kernel_rfl) (gd0 rfl) rfl rfl (pkT rfl rfl) <| hTake 21 rfl (by kernel_rfl) (by kernel_rfl) (by kernel_rfl) (gd0 rfl) rfl rfl (mv rfl) <| hSkip 22 rfl (by kernel_rfl) (by kernel_rfl) (by kernel_rfl) (gd rfl rfl rfl rfl) rfl rfl <| hSkip 23 rfl (by kernel_rfl) (by kernel_rfl) (by kernel_rfl) (gd rfl rfl rfl rfl) rfl rfl <| hSkip 24 rfl (by kernel_rfl) (by kernel_rfl) (by kernel_rfl) (gd rfl rfl rfl rfl) rfl rfl <| hSkip 25 rfl (by kernel_rfl) (by kernel_rfl) (by kernel_rfl) (gd rfl rfl rfl rfl) rfl rfl <| hSkip 26 rfl (by kernel_rfl) (by kernel_rfl) (by kernel_rfl) (gd rfl rfl rfl rfl) rfl rfl <| hTake 27 rfl (by kernel_rfl) (by kernel_rfl) (by kernel_rfl) (gd0 rfl) rfl rfl (pkT rfl rfl) <| hTake 28 rfl (by kernel_rfl) (by kernel_rfl) (by kernel_rfl) (gd0 rfl) rfl rfl (mv rfl) <| hSkip 29 rfl (by kernel_rfl) (by kernel_rfl) (by kernel_rfl) (gd rfl rfl rfl rfl) rfl rfl <| hSkip 30 rfl (by kernel_rfl) (by kernel_rfl) (by kernel_rfl) (gd rfl rfl rfl rfl) rfl rfl <| hSkip 31 rfl (by kernel_rfl) (by kernel_rfl) (by kernel_rfl) (gd rfl rfl rfl rfl) rfl rfl <| hSkip 32 rfl (by kernel_rfl) (by kernel_rfl) (by kernel_rfl) (gd rfl rfl rfl rfl) rfl rfl <| hTake 33 rfl (by kernel_rfl) (by kernel_rfl) (by kernel_rfl) (gd0 rfl) rfl rfl (pkT rfl rfl) <| hDone (by kernel_rfl) <| eMid (fun aa ww h => h.sub [5, 6] (sS rfl <| sS rfl <| sS rfl <| sN) (rR rfl rfl <| rR rfl rfl <| rN))
        · skip
          refine hKn 52 rfl rfl h22 <| hTake 6 rfl (by kernel_rfl) (by kernel_rfl) (by kernel_rfl) (gd rfl rfl rfl rfl) rfl rfl (mv rfl) <| hTake 7 rfl (by kernel_rfl) (by kernel_rfl) (by kernel_rfl) (gd rfl rfl rfl rfl) rfl rfl (mv rfl) <| hFrz 3 [29, 8, 54] rfl (fS rfl <| fS rfl <| fS rfl <| fN) <| hFrz 4 [34, 10, 55] rfl (fS rfl <| fS rfl <| fS rfl <| fN) <| hCallF 8 [] [] rfl (by kernel_rfl) rfl (gd rfl rfl rfl rfl) rfl Try.func30 rfl rfl (braidref01_SameBytes_ok _ _) (aQ rfl <| aQ rfl <| aN) rN rfl (fun _ _ => flat_bool) fun r23 n24 => hTake 9 rfl (by kernel_rfl) (by kernel_rfl) (by kernel_rfl) (gd rfl rfl rfl rfl) rfl rfl (not' rfl) <| hTake 10 rfl (by kernel_rfl) (by kernel_rfl) (by kernel_rfl) (gd0 rfl) rfl rfl (pkF rfl rfl) <| hTake 11 rfl (by kernel_rfl) (by kernel_rfl) (by kernel_rfl) (gd0 rfl) rfl rfl (mv rfl) <| hIf 59 rfl rfl (fun h25 => ?_) (fun h25 => ?_)
          · skip
            refine hKn 57 rfl rfl h25 <| hKn 58 rfl rfl h25 <| hSkip 12 rfl (by kernel_rfl) (by kernel_rfl) (by kernel_rfl) (gd rfl rfl rfl rfl) rfl rfl <| hSkip 13 rfl (by kernel_rfl) (by kernel_rfl) (by kernel_rfl) (gd rfl rfl rfl rfl) rfl rfl <| hSkip 14 rfl (by kernel_rfl) (by kernel_rfl) (by kernel_rfl) (gd rfl rfl rfl rfl) rfl rfl <| hTake 15 rfl (by kernel_rfl) (by kernel_rfl) (by kernel_rfl) (gd0 rfl) rfl rfl (pkT rfl rfl) <| hTake 16 rfl (by kernel_rfl) (by kernel_rfl) (by kernel_rfl) (gd0 rfl) rfl rfl (mv rfl) <| hSkip 17 rfl (by kernel_rfl) (by kernel_rfl) (by kernel_rfl) (gd rfl rfl rfl rfl) rfl rfl <| hSkip 18 rfl (by kernel_rfl) (by kernel_rfl) (by kernel_rfl) (gd rfl rfl rfl rfl) rfl rfl <| hSkip 19 rfl (by kernel_rfl) (by kernel_rfl) (by kernel_rfl) (gd rfl rfl rfl rfl) rfl rfl <| hTake 20 rfl (by kernel_rfl) (by kernel_rfl) (by kernel_rfl) (gd0 rfl) rfl rfl (pkT rfl rfl) <| hTake 21 rfl (by kernel_rfl) (by kernel_rfl) (by kernel_rfl) (gd0 rfl) rfl rfl (mv rfl) <| hSkip 22 rfl (by kernel_rfl) (by kernel_rfl) (by kernel_rfl) (gd rfl rfl rfl rfl) rfl rfl <| hSkip 23 rfl (by kernel_rfl) (by kernel_rfl) (by kernel_rfl) (gd rfl rfl rfl rfl) rfl rfl <| hSkip 24 rfl (by kernel_rfl) (by kernel_rfl) (by kernel_rfl) (gd rfl rfl rfl rfl) rfl rfl <| hSkip 25 rfl (by kernel_rfl) (by kernel_rfl) (by kernel_rfl) (gd rfl rfl rfl rfl) rfl rfl <| hSkip 26 rfl (by kernel_rfl) (by kernel_rfl) (by kernel_rfl) (gd rfl rfl rfl rfl) rfl rfl <| hTake 27 rfl (by kernel_rfl) (by kernel_rfl) (by kernel_rfl) (gd0 rfl) rfl rfl (pkT rfl rfl) <| hTake 28 rfl (by kernel_rfl) (by kernel_rfl) (by kernel_rfl) (gd0 rfl) rfl rfl (mv rfl) <| hSkip 29 rfl (by kernel_rfl) (by kernel_rfl) (by kernel_rfl) (gd rfl rfl rfl rfl) rfl rfl <| hSkip 30 rfl (by kernel_rfl) (by kernel_rfl) (by kernel_rfl) (gd rfl rfl rfl rfl) rfl rfl <| hSkip 31 rfl (by kernel_rfl) (by kernel_rfl) (by kernel_rfl) (gd rfl rfl rfl rfl) rfl rfl <| hSkip 32 rfl (by kernel_rfl) (by kernel_rfl) (by kernel_rfl) (gd rfl rfl rfl rfl) rfl rfl <| hTake 33 rfl (by kernel_rfl) (by kernel_rfl) (by kernel_rfl) (gd0 rfl) rfl rfl (pkT rfl rfl) <| hDone (by kernel_rfl) <| eMid (fun aa ww h => h.sub [5, 6] (sS rfl <| sS rfl <| sS rfl <| sN) (rR rfl rfl <| rR rfl rfl <| rN))
          · skip
            refine hKn 57 rfl rfl h25 <| hKn 58 rfl rfl h25 <| hTake 12 rfl (by kernel_rfl) (by kernel_rfl) (by kernel_rfl) (gd rfl rfl rfl rfl) rfl rfl (mv rfl) <| hTake 13 rfl (by kernel_rfl) (by kernel_rfl) (by kernel_rfl) (gd rfl rfl rfl rfl) rfl rfl (mv rfl) <| hTake 14 rfl (by kernel_rfl) (by kernel_rfl) (by kernel_rfl) (gd rfl rfl rfl rfl) rfl rfl (I.neq rfl rfl) <| hTake 15 rfl (by kernel_rfl) (by kernel_rfl) (by kernel_rfl) (gd0 rfl) rfl rfl (pkF rfl rfl) <| hTake 16 rfl (by kernel_rfl) (by kernel_rfl) (by kernel_rfl) (gd0 rfl) rfl rfl (mv rfl) <| hIf 64 rfl rfl (fun h26 => ?_) (fun h26 => ?_)
            · skip
              refine hKn 62 rfl rfl h26 <| hKn 63 rfl rfl h26 <| hSkip 17 rfl (by kernel_rfl) (by kernel_rfl) (by kernel_rfl) (gd rfl rfl rfl rfl) rfl rfl <| hSkip 18 rfl (by kernel_rfl) (by kernel_rfl) (by kernel_rfl) (gd rfl rfl rfl rfl) rfl rfl <| hSkip 19 rfl (by kernel_rfl) (by kernel_rfl) (by kernel_rfl) (gd rfl rfl rfl rfl) rfl rfl <| hTake 20 rfl (by kernel_rfl) (by kernel_rfl) (by kernel_rfl) (gd0 rfl) rfl rfl (pkT rfl rfl) <| hTake 21 rfl (by kernel_rfl) (by kernel_rfl) (by kernel_rfl) (gd0 rfl) rfl rfl (mv rfl) <| hSkip 22 rfl (by kernel_rfl) (by kernel_rfl) (by kernel_rfl) (gd rfl rfl rfl rfl) rfl rfl <| hSkip 23 rfl (by kernel_rfl) (by kernel_rfl) (by kernel_rfl) (gd rfl rfl rfl rfl) rfl rfl <| hSkip 24 rfl (by kernel_rfl) (by kernel_rfl) (by kernel_rfl) (gd rfl rfl rfl rfl) rfl rfl <| hSkip 25 rfl (by kernel_rfl) (by kernel_rfl) (by kernel_rfl) (gd rfl rfl rfl rfl) rfl rfl <| hSkip 26 rfl (by kernel_rfl) (by kernel_rfl) (by kernel_rfl) (gd rfl rfl rfl rfl) rfl rfl <| hTake 27 rfl (by kernel_rfl) (by kernel_rfl) (by kernel_rfl) (gd0 rfl) rfl rfl (pkT rfl rfl) <| hTake 28 rfl (by kernel_rfl) (by kernel_rfl) (by kernel_rfl) (gd0 rfl) rfl rfl (mv rfl) <| hSkip 29 rfl (by kernel_rfl) (by kernel_rfl) (by kernel_rfl) (gd rfl rfl rfl rfl) rfl rfl <| hSkip 30 rfl (by kernel_rfl) (by kernel_rfl) (by kernel_rfl) (gd rfl rfl rfl rfl) rfl rfl <| hSkip 31 rfl (by kernel_rfl) (by kernel_rfl) (by kernel_rfl) (gd rfl rfl rfl rfl) rfl rfl <| hSkip 32 rfl (by kernel_rfl) (by kernel_rfl) (by kernel_rfl) (gd rfl rfl rfl rfl) rfl rfl <| hTake 33 rfl (by kernel_rfl) (by kernel_rfl) (by kernel_rfl) (gd0 rfl) rfl rfl (pkT rfl rfl) <| hDone (by kernel_rfl) <| eMid (fun aa ww h => h.sub [5, 6] (sS rfl <| sS rfl <| sS rfl <| sN) (rR rfl rfl <| rR rfl rfl <| rN))
            · skip
              refine hKn 62 rfl rfl h26 <| hKn 63 rfl rfl h26 <| hTake 17 rfl (by kernel_rfl) (by kernel_rfl) (by kernel_rfl) (gd rfl rfl rfl rfl) rfl rfl (mv rfl) <| hTake 18 rfl (by kernel_rfl) (by kernel_rfl) (by kernel_rfl) (gd rfl rfl rfl rfl) rfl rfl (mv rfl) <| hTake 19 rfl (by kernel_rfl) (by kernel_rfl) (by kernel_rfl) (gd rfl rfl rfl rfl) rfl rfl (I.neq rfl rfl) <| hTake 20 rfl (by kernel_rfl) (by kernel_rfl) (by kernel_rfl) (gd0 rfl) rfl rfl (pkF rfl rfl) <| hTake 21 rfl (by kernel_rfl) (by kernel_rfl) (by kernel_rfl) (gd0 rfl) rfl rfl (mv rfl) <| hIf 69 rfl rfl (fun h27 => ?_) (fun h27 => ?_)
              · skip
                refine hKn 67 rfl rfl h27 <| hKn 68 rfl rfl h27 <| hSkip 22 rfl (by kernel_rfl) (by kernel_rfl) (by kernel_rfl) (gd rfl rfl rfl rfl) rfl rfl <| hSkip 23 rfl (by kernel_rfl) (by kernel_rfl) (by kernel_rfl) (gd rfl rfl rfl rfl) rfl rfl <| hSkip 24 rfl (by kernel_rfl) (by kernel_rfl) (by kernel_rfl) (gd rfl rfl rfl rfl) rfl rfl <| hSkip 25 rfl (by kernel_rfl) (by kernel_rfl) (by kernel_rfl) (gd rfl rfl rfl rfl) rfl rfl <| hSkip 26 rfl (by kernel_rfl) (by kernel_rfl) (by kernel_rfl) (gd rfl rfl rfl rfl) rfl rfl <| hTake 27 rfl (by kernel_rfl) (by kernel_rfl) (by kernel_rfl) (gd0 rfl) rfl rfl (pkT rfl rfl) <| hTake 28 rfl (by kernel_rfl) (by kernel_rfl) (by kernel_rfl) (gd0 rfl) rfl rfl (mv rfl) <| hSkip 29 rfl (by kernel_rfl) (by kernel_rfl) (by kernel_rfl) (gd rfl rfl rfl rfl) rfl rfl <| hSkip 30 rfl (by kernel_rfl) (by kernel_rfl) (by kernel_rfl) (gd rfl rfl rfl rfl) rfl rfl <| hSkip 31 rfl (by kernel_rfl) (by kernel_rfl) (by kernel_rfl) (gd rfl rfl rfl rfl) rfl rfl <| hSkip 32 rfl (by kernel_rfl) (by kernel_rfl) (by kernel_rfl) (gd rfl rfl rfl rfl) rfl rfl <| hTake 33 rfl (by kernel_rfl) (by kernel_rfl) (by kernel_rfl) (gd0 rfl) rfl rfl (pkT rfl rfl) <| hDone (by kernel_rfl) <| eMid (fun aa ww h => h.sub [5, 6] (sS rfl <| sS rfl <| sS rfl <| sN) (rR rfl rfl <| rR rfl rfl <| rN))
              · skip
                refine hKn 67 rfl rfl h27 <| hKn 68 rfl rfl h27 <| hTake 22 rfl (by kernel_rfl) (by kernel_rfl) (by kernel_rfl) (gd rfl rfl rfl rfl) rfl rfl (mv rfl) <| hTake 23 rfl (by kernel_rfl) (by kernel_rfl) (by kernel_rfl) (gd rfl rfl rfl rfl) rfl rfl (len' rfl (.own 5 rfl) rfl Try.underlying110) <| hTake 24 rfl (by kernel_rfl) (by kernel_rfl) (by kernel_rfl) (gd rfl rfl rfl rfl) rfl rfl (mv rfl) <| hTake 25 rfl (by kernel_rfl) (by kernel_rfl) (by kernel_rfl) (gd rfl rfl rfl rfl) rfl rfl (len' rfl (.own 6 rfl) rfl Try.underlying110) <| hTake 26 rfl (by kernel_rfl) (by kernel_rfl) (by kernel_rfl) (gd rfl rfl rfl rfl) rfl rfl (I.neq rfl rfl) <| hTake 27 rfl (by kernel_rfl) (by kernel_rfl) (by kernel_rfl) (gd0 rfl) rfl rfl (pkF rfl rfl) <| hTake 28 rfl (by kernel_rfl) (by kernel_rfl) (by kernel_rfl) (gd0 rfl) rfl rfl (mv rfl) <| hIf 76 rfl rfl (fun h28 => ?_) (fun h28 => ?_)
                · skip
                  refine hKn 74 rfl rfl h28 <| hKn 75 rfl rfl h28 <| hSkip 29 rfl (by kernel_rfl) (by kernel_rfl) (by kernel_rfl) (gd rfl rfl rfl rfl) rfl rfl <| hSkip 30 rfl (by kernel_rfl) (by kernel_rfl) (by kernel_rfl) (gd rfl rfl rfl rfl) rfl rfl <| hSkip 31 rfl (by kernel_rfl) (by kernel_rfl) (by kernel_rfl) (gd rfl rfl rfl rfl) rfl rfl <| hSkip 32 rfl (by kernel_rfl) (by kernel_rfl) (by kernel_rfl) (gd rfl rfl rfl rfl) rfl rfl <| hTake 33 rfl (by kernel_rfl) (by kernel_rfl) (by kernel_rfl) (gd0 rfl) rfl rfl (pkT rfl rfl) <| hDone (by kernel_rfl) <| eMid (fun aa ww h => h.sub [5, 6] (sS rfl <| sS rfl <| sS rfl <| sN) (rR rfl rfl <| rR rfl rfl <| rN))
                · skip
                  refine hKn 74 rfl rfl h28 <| hKn 75 rfl rfl h28 <| hTake 29 rfl (by kernel_rfl) (by kernel_rfl) (by kernel_rfl) (gd rfl rfl rfl rfl) rfl rfl (ld 2 rfl rfl Foc.here ty105 rfl) <| hTake 30 rfl (by kernel_rfl) (by kernel_rfl) (by kernel_rfl) (gd rfl rfl rfl rfl) rfl rfl (ld 1 rfl rfl Foc.here ty105 rfl) <| hCallF 31 [] [] rfl (by kernel_rfl) rfl (gd rfl rfl rfl rfl) rfl Try.func78 rfl rfl (braidref07_Same_ok _ _) (aQ rfl <| aQ rfl <| aN) rN rfl (fun _ _ => flat_bool) fun r29 n30 => hTake 32 rfl (by kernel_rfl) (by kernel_rfl) (by kernel_rfl) (gd rfl rfl rfl rfl) rfl rfl (not' rfl) <| hTake 33 rfl (by kernel_rfl) (by kernel_rfl) (by kernel_rfl) (gd0 rfl) rfl rfl (pkF rfl rfl) <| hDone (by kernel_rfl) <| eMid (fun aa ww h => h.sub [5, 6] (sS rfl <| sS rfl <| sS rfl <| sN) (rR rfl rfl <| rR rfl rfl <| rN))
      · skip
        refine gIf rfl rfl (fun h31 => ?_) (fun h31 => ?_)
        · skip
          refine gSeq <| gReg <| R rfl (asg rfl) <| gNil <| eThen <| gRet <| eTret <| eRet [] [] rfl (eE rfl <| eN) (rN)
        · skip
          refine gSkip <| eThen <| gMidR (fun (s32 : Unit) aa ww => Sta (ctx 98 H [] w) [] [] aa ww) ?_ (fun s32 => ?_)
          · skip
            refine gSeq <| gReg <| R rfl (asg rfl) <| gNil <| eThen <| gLoop (fun (s33 : Int) aa ww => Sta (ctx 98 H [] w) [(12, .val (n14 0)), (14, .val (n16 0)), (16, .rd i64R s33)] [(5, some ((n14 0), .list R_api_Frame 105 r13.1)), (6, some ((n16 0), .list R_api_Frame 105 r15.1))] aa ww) (fun aa ww h => h.sub [5, 6] (sS rfl <| sS rfl <| sS rfl <| sN) (rR rfl rfl <| rR rfl rfl <| rN)) (fun s33 => ?_)
            refine gSeq <| gSeq <| gReg <| R rfl (mv rfl) <| R rfl (mv rfl) <| R rfl (len' rfl (.own 5 rfl) rfl Try.underlying110) <| R rfl (I.lss rfl rfl) <| gNil <| eThen <| gIf rfl rfl (fun h34 => ?_) (fun h34 => ?_)
            · skip
              refine gSkip <| eThen <| gSeq <| gBlk <| gSeq <| gRegH [] mixed rfl rfl <| hTake 0 rfl (by kernel_rfl) (by kernel_rfl) (by kernel_rfl) (gd0 rfl) rfl rfl (mv rfl) <| hTake 1 rfl (by kernel_rfl) (by kernel_rfl) (by kernel_rfl) (gd0 rfl) rfl rfl (mv rfl) <| hBind fun x35 h36 => hTake 2 rfl (by kernel_rfl) (by kernel_rfl) (by kernel_rfl) (gd0 rfl) rfl rfl (ixO 5 rfl rfl rfl h36 Try.underlying110 ti105) <| hTake 3 rfl (by kernel_rfl) (by kernel_rfl) (by kernel_rfl) (gd0 rfl) rfl rfl (ld 5 rfl rfl (Foc.el h36) ty105 rfl) <| hTake 4 rfl (by kernel_rfl) (by kernel_rfl) (by kernel_rfl) (gd0 rfl) rfl rfl (mv rfl) <| hTake 5 rfl (by kernel_rfl) (by kernel_rfl) (by kernel_rfl) (gd0 rfl) rfl rfl (mv rfl) <| hBind fun x37 h38 => hTake 6 rfl (by kernel_rfl) (by kernel_rfl) (by kernel_rfl) (gd0 rfl) rfl rfl (ixO 6 rfl rfl rfl h38 Try.underlying110 ti105) <| hTake 7 rfl (by kernel_rfl) (by kernel_rfl) (by kernel_rfl) (gd0 rfl) rfl rfl (ld 6 rfl rfl (Foc.el h38) ty105 rfl) <| hCallF 8 [] [] rfl (by kernel_rfl) rfl (gd0 rfl) rfl Try.func78 rfl rfl (braidref07_Same_ok _ _) (aQ rfl <| aQ rfl <| aN) rN rfl (fun _ _ => flat_bool) fun r39 n40 => hTake 9 rfl (by kernel_rfl) (by kernel_rfl) (by kernel_rfl) (gd0 rfl) rfl rfl (not' rfl) <| hDone (by kernel_rfl) <| eThen <| gIf rfl rfl (fun h41 => ?_) (fun h41 => ?_)
              · skip
                refine gSeq <| gReg <| R rfl (asg rfl) <| gNil <| eThen <| gRet <| eBret <| eTret <| eLret <| eMret <| eRet [] [] rfl (eE rfl <| eN) (rN)
              · skip
                refine gSkip <| eBlk <| eThen <| gReg <| R rfl (mv rfl) <| R rfl (I.add rfl rfl) <| R rfl (asg rfl) <| lName 16 rfl fun y42 => gNil <| eNext (fun aa ww h => h.sub [5, 6] (sS rfl <| sS rfl <| sS rfl <| sN) (rR rfl rfl <| rR rfl rfl <| rN))
            · skip
              refine gExit <| eTexit <| eLeave <| eMidR (fun aa ww h => h.sub [] (sN) (rN))
          · skip
            refine gSeq <| gReg <| R rfl (asg rfl) <| gNil <| eThen <| gRet <| eRet [] [] rfl (eE rfl <| eN) (rN)
end Go.Proofs.Ytklfgpdfongaeaa
namespace Go.Proofs.Ytklfgpdfongaeaa
open Go Go.RowKit
set_option linter.unusedSimpArgs false
set_option linter.unusedVariables false
theorem Twin7_eq (f : api_Frame) (h : okF f) : braidref07_Twin f = some f := by
  unfold braidref07_Twin
  obtain ⟨h1, h2, h3⟩ := h
  rw [app_eq (by simp; omega)]
  simp only [bs, List.nil_append]
  have : iter (braidref07_Twin_L0 f) ([], 0) = some f.Ops := by
    have := iter_run (F := braidref07_Twin_L0 f) (b := f.Ops) f.Ops.length (fun i => (f.Ops.take i, (i : Int))) (fun i hi => ?_) ?_
    · simpa using this
    · unfold braidref07_Twin_L0
      have hb := h3 f.Ops[i] (List.getElem_mem _)
      rw [if_pos (by simp; omega)]
      simp only [idx_nat hi, bs]
      rw [app_eq (by simp; omega)]
      simp only [bs, List.nil_append]
      rw [app_eq (by simp; omega)]
      simp only [bs, w64_nat (show i < 9223372036854775807 by omega)]
      rw [List.take_add_one, List.getElem?_eq_getElem hi]
      rfl
    · unfold braidref07_Twin_L0
      rw [if_neg (by simp)]
      simp
  rw [this]
  rfl
theorem great7_L0 (f : api_Frame) (hl : f.Ops.length ≤ 9223372036854775807) : ∀ (rest pre : List (List UInt8)), f.Ops = pre ++ rest → ∃ r, iter (braidref07_Great_L0 f) (pre.length : Int) = some r ∧ (r = .inl true ∨ (r = .inr () ∧ (f.Ops.length ≤ 20 → ∀ b ∈ rest, b.length ≤ 1000)))
  | [], pre, e => by
    refine ⟨.inr (), iter_l ?_, .inr ⟨rfl, by simp⟩⟩
    unfold braidref07_Great_L0
    rw [if_neg (by simp [e])]
  | b :: rest, pre, e => by
    have hlen : pre.length < f.Ops.length := by rw [e]; simp
    have hget : f.Ops[pre.length]'hlen = b := by simp [e]
    by_cases h20 : pre.length ≤ 20
    · by_cases hs : b.length ≤ 1000
      · have hF : braidref07_Great_L0 f (pre.length : Int) = some (.inr ((pre.length + 1 : Nat) : Int)) := by
          unfold braidref07_Great_L0
          rw [if_pos (by simp; omega), if_pos (by simp; omega)]
          simp only [idx_nat hlen, hget, bs, w64_nat (show pre.length < 9223372036854775807 by omega)]
          rw [if_neg (by simp; omega)]
        rw [iter_r hF]
        obtain ⟨r, h1, h2⟩ := great7_L0 f hl rest (pre ++ [b]) (by simp [e])
        simp only [List.length_append, List.length_cons, List.length_nil, Nat.zero_add] at h1
        refine ⟨r, h1, ?_⟩
        rcases h2 with h2 | ⟨h2, h3⟩
        · exact .inl h2
        · refine .inr ⟨h2, fun h x hx => ?_⟩
          rcases List.mem_cons.1 hx with rfl | hx
          · exact hs
          · exact h3 h x hx
      · refine ⟨.inl true, iter_l ?_, .inl rfl⟩
        unfold braidref07_Great_L0
        rw [if_pos (by simp; omega), if_pos (by simp; omega)]
        simp only [idx_nat hlen, hget, bs]
        rw [if_pos (by simp; omega)]
    · refine ⟨.inr (), iter_l ?_, .inr ⟨rfl, fun h => by omega⟩⟩
      unfold braidref07_Great_L0
      rw [if_pos (by simp; omega), if_neg (by simp; omega)]
theorem great7_eq (f : api_Frame) (h : f.Ops.length ≤ 9223372036854775807) : ∃ b, braidref07_Great f = some b ∧ (b = false → okF f) := by
  obtain ⟨r, h1, h2⟩ := great7_L0 f h f.Ops [] rfl
  simp only [List.length_nil] at h1
  have h1 : iter (braidref07_Great_L0 f) 0 = some r := h1
  unfold braidref07_Great
  rw [h1]
  rcases h2 with rfl | ⟨rfl, h3⟩
  · exact ⟨true, rfl, fun h => by cases h⟩
  · rw [or_r]
    by_cases h4 : 100 < f.IDs.length
    · exact ⟨true, by rw [if_pos (by simp; omega)], fun h => by cases h⟩
    · rw [if_neg (by simp; omega)]
      refine ⟨_, rfl, fun h5 => ⟨by omega, ?_, fun b hb => ?_⟩⟩
      · simp at h5; omega
      · have : f.Ops.length ≤ 20 := by simp at h5; omega
        have := h3 this b hb; omega
theorem encode_eq (f : api_Frame) (h : okF f) : frame_Encode f = some (if goodF f then (encF f, 0) else ([], 8)) := by
  obtain ⟨o, h1, h2⟩ := fwrite f h
  unfold frame_Encode
  rw [h1]
  simp only [bs]
  cases hg : goodF f with
  | false => rfl
  | true => rw [h2 hg]; rfl
theorem rencode_eq (f : api_Frame) (h : okF f) : braidref07_Encode f = some (if goodF f then (encF f, 0) else ([], 8)) := by
  unfold braidref07_Encode
  rw [rcheck_eq f h]
  simp only [bs]
  cases hg : goodF f with
  | false => rfl
  | true =>
    obtain ⟨k1, k2⟩ := kind_of_good hg
    rw [if_neg (by simp)]
    rw [Bytes_eq f h (by rw [ge_iff_le, UInt8.le_iff_toNat_le]; exact k1) (by rw [UInt8.le_iff_toNat_le]; exact k2)]
    rfl
abbrev ids := List (Vector UInt8 32)
def splitL (l : ids) (k : UInt8) : List api_Frame := ⟨k, 0, l.take 40, []⟩ :: (if 40 < l.length then [⟨k, 0, l.drop 40, []⟩] else [])
def splitF (l : ids) (k : UInt8) : List api_Frame × Int :=
  if ¬ (k = 2 ∨ k = 3 ∨ k = 4) then ([], 2) else if 60 < l.length then ([], 4) else if incr l = false then ([], 32) else (splitL l k, 0)
theorem R1_eq (k : UInt8) (x : ids) (s : List api_Frame) (hx : x.length ≤ 100) (hs : s.length ≤ 10) : frame_Split_R1 k x s = some (s ++ [⟨k, 0, x, []⟩]) := by
  unfold frame_Split_R1 slices_Clone_api_ID_api_ID
  rw [app_eq (by simp; omega)]
  simp only [bs, List.nil_append]
  rw [app_eq (by simp; omega)]
  rfl
theorem chunk_step {σ : Type} (l : ids) (Y : ids → σ → Option σ) (i : Nat) (s s' : σ) (hi : i < l.length) (hl : l.length ≤ 100) (hY : Y ((l.drop i).take 40) s = some s') :
    iter (slices_Chunk_api_ID_api_ID_1_L0 Y l 40) ((i : Int), s) = iter (slices_Chunk_api_ID_api_ID_1_L0 Y l 40) (((i + 40 : Nat) : Int), s') := by
  refine iter_r ?_
  unfold slices_Chunk_api_ID_api_ID_1_L0
  rw [if_pos (by simp; omega)]
  simp only []
  rw [cut_eq (by omega) (Nat.le_refl _)]
  simp only [bs]
  have e1 : min (40 : Int) ((((l.drop i).take (l.length - i)).length : Nat) : Int) = ((min 40 (l.length - i) : Nat) : Int) := by
    simp; omega
  rw [e1, w64_eq (by omega) (by omega), show (i : Int) + ((min 40 (l.length - i) : Nat) : Int) = ((i + min 40 (l.length - i) : Nat) : Int) by omega, cut_eq (by omega) (by omega)]
  simp only [bs]
  have e2 : (l.drop i).take (i + min 40 (l.length - i) - i) = (l.drop i).take 40 := by
    rw [show i + min 40 (l.length - i) - i = min 40 (l.drop i).length by simp]
    rw [List.take_eq_take_iff]; simp
  rw [e2, hY]
  simp only [bs]
  rw [w64_eq (by omega) (by omega)]
  simp
theorem chunk_end {σ : Type} (l : ids) (Y : ids → σ → Option σ) (i : Nat) (s : σ) (hi : l.length ≤ i) : iter (slices_Chunk_api_ID_api_ID_1_L0 Y l 40) ((i : Int), s) = some s := by
  refine iter_l ?_
  unfold slices_Chunk_api_ID_api_ID_1_L0
  rw [if_neg (by simp; omega)]
theorem chunks_eq (l : ids) (k : UInt8) (h : l.length ≤ 60) (h0 : l ≠ []) : slices_Chunk_api_ID_api_ID_1 l 40 (frame_Split_R1 k) [] = some (splitL l k) := by
  have hp : 0 < l.length := List.length_pos_iff.2 h0
  unfold slices_Chunk_api_ID_api_ID_1
  have h1 := chunk_step l (frame_Split_R1 k) 0 [] _ hp (by omega) (R1_eq k _ [] (by simp; omega) (by simp))
  rw [show ((0 : Int), ([] : List api_Frame)) = (((0 : Nat) : Int), []) from rfl, h1]
  unfold splitL
  by_cases h2 : 40 < l.length
  · rw [if_pos h2, chunk_step l (frame_Split_R1 k) 40 _ _ h2 (by omega) (R1_eq k _ _ (by simp; omega) (by simp)), chunk_end l _ _ _ (by omega)]
    simp only [List.drop_zero, List.nil_append, List.cons_append]
    rw [List.take_of_length_le (show (l.drop 40).length ≤ 40 by simp; omega)]
  · rw [if_neg h2, chunk_end l _ _ _ (by omega)]
    simp
theorem split_eq (l : ids) (k : UInt8) (h : l.length ≤ 9223372036854775807) : frame_Split l k = some (splitF l k) := by
  unfold frame_Split splitF
  rw [listed_eq, Listed_eq]
  simp only [bs]
  by_cases hk : k = 2 ∨ k = 3 ∨ k = 4
  · rw [decide_eq_true hk, if_neg (by simp), if_neg (not_not_intro hk)]
    by_cases h1 : 60 < l.length
    · rw [if_pos h1, decide_eq_true (by omega)]; rfl
    · rw [if_neg h1, decide_eq_false (by omega)]
      rw [if_neg (by simp), frising_eq l h]
      simp only [bs]
      cases hi : incr l with
      | false => rfl
      | true =>
        rw [show (!true) = false from rfl, if_neg Bool.false_ne_true, if_neg (show ¬ (true = false) by decide)]
        by_cases h0 : l = []
        · subst h0; rfl
        · have : ((l.length : Int) == 0) = false := by
            cases hb : ((l.length : Int) == 0) with
            | false => rfl
            | true => exact absurd ((len0 l).1 hb) h0
          rw [this]
          unfold slices_Chunk_api_ID_api_ID
          rw [if_neg Bool.false_ne_true, if_neg (show ¬ (decide ((40 : Int) < 1) = true) by decide)]
          simp only [bs]
          rw [chunks_eq l k (by omega) h0]
          rfl
  · rw [decide_eq_false hk, if_pos (by rfl), if_pos hk]
theorem rsplit_step (l : ids) (k : UInt8) (i : Nat) (s : List api_Frame) (hi : i = 0 ∨ i < l.length) (hl : l.length ≤ 100) (hs : s.length ≤ 10) : iter (braidref07_Split_L0 l k) (s, (i : Int)) = iter (braidref07_Split_L0 l k) (s ++ [⟨k, 0, (l.drop i).take 40, []⟩], ((i + 40 : Nat) : Int)) := by
  refine iter_r ?_
  unfold braidref07_Split_L0
  simp only []
  have e0 : (if ((i : Int) == 0) = true then some (Sum.inr () : Sum (Sum (List api_Frame) (List api_Frame × Int)) Unit) else if decide ((i : Int) < (l.length : Int)) = true then some (.inr ()) else some (.inl (.inl s))) = some (.inr ()) := by
    rcases hi with rfl | hi
    · rfl
    · split
      · rfl
      · rw [if_pos (by simp; omega)]
  rw [e0, or_r, w64_eq (by omega) (by omega)]
  rw [show min ((i : Int) + 40) (l.length : Int) = ((min (i + 40) l.length : Nat) : Int) by omega, cut_eq (by omega) (by omega)]
  simp only [bs]
  have e2 : (l.drop i).take (min (i + 40) l.length - i) = (l.drop i).take 40 := by
    rw [List.take_eq_take_iff]; simp; omega
  rw [e2, app_eq (by simp; omega)]
  simp only [bs, List.nil_append]
  rw [app_eq (by simp; omega)]
  simp
theorem rsplit_end (l : ids) (k : UInt8) (i : Nat) (s : List api_Frame) (h0 : i ≠ 0) (hi : l.length ≤ i) : iter (braidref07_Split_L0 l k) (s, (i : Int)) = some s := by
  refine iter_l ?_
  unfold braidref07_Split_L0
  simp only []
  rw [if_neg (by simpa using h0), if_neg (by simp; omega)]
  rfl
theorem rsplit_eq (l : ids) (k : UInt8) (h : l.length ≤ 9223372036854775807) : braidref07_Split l k = some (splitF l k) := by
  unfold braidref07_Split splitF
  rw [Listed_eq]
  simp only [bs]
  by_cases hk : k = 2 ∨ k = 3 ∨ k = 4
  · rw [decide_eq_true hk, if_neg (by simp), if_neg (not_not_intro hk)]
    by_cases h1 : 60 < l.length
    · rw [if_pos h1, decide_eq_true (by omega)]; rfl
    · rw [if_neg h1, decide_eq_false (by omega)]
      rw [if_neg (by simp), Rising_eq l h]
      simp only [bs]
      cases hi : incr l with
      | false => rfl
      | true =>
        rw [if_neg (by simp), if_neg (by simp)]
        rw [show (([] : List api_Frame), (0 : Int)) = ([], ((0 : Nat) : Int)) from rfl, rsplit_step l k 0 [] (.inl rfl) (by omega) (by simp)]
        unfold splitL
        by_cases h2 : 40 < l.length
        · rw [if_pos h2, rsplit_step l k _ _ (.inr h2) (by omega) (by simp), rsplit_end l k _ _ (by omega) (by omega)]
          simp only [bs, List.drop_zero, List.nil_append, List.cons_append]
          rw [List.take_of_length_le (show (l.drop 40).length ≤ 40 by simp; omega)]
        · rw [if_neg h2, rsplit_end l k _ _ (by omega) (by omega)]
          simp [bs]
  · rw [decide_eq_false hk, if_pos (by rfl), if_pos hk]
theorem splitF_small (l : ids) (k : UInt8) : (splitF l k).1.length ≤ 2 ∧ ∀ f ∈ (splitF l k).1, f.Ops = [] ∧ f.IDs.length ≤ 40 ∧ f.Kind = k ∧ f.N = 0 := by
  unfold splitF
  split
  · simp
  · split
    · simp
    · split
      · simp
      · unfold splitL
        split
        · refine ⟨by simp, ?_⟩
          intro f hf
          simp at hf
          rcases hf with rfl | rfl <;> simp <;> omega
        · refine ⟨by simp, ?_⟩
          intro f hf
          simp at hf
          subst hf; simp; omega
theorem writes_L0 (r : List api_Frame × Int) (h : r.1.length ≤ 100) (hs : ∀ f ∈ r.1, f.Ops = [] ∧ f.IDs.length ≤ 40) : iter (braidlaw07_FrameWrites_L0 r r) 0 = some (.inr ()) := by
  refine iter_run (F := braidlaw07_FrameWrites_L0 r r) (b := .inr ()) r.1.length (fun i => (i : Int)) (fun i hi => ?_) ?_
  · unfold braidlaw07_FrameWrites_L0
    rw [if_pos (by simp; omega)]
    simp only [idx_nat hi, bs]
    obtain ⟨h1, h2⟩ := hs r.1[i] (List.getElem_mem _)
    rw [same7_eq _ _ (by omega) (by rw [h1]; simp) (by rw [h1]; simp)]
    simp only [bs, decide_true, Bool.not_true]
    rw [if_neg (by simp), w64_nat (by omega)]
  · unfold braidlaw07_FrameWrites_L0
    rw [if_neg (by simp)]
theorem writes7 (f : api_Frame) (l : ids) (k : UInt8) (hf : wf_api_Frame f) (hl : (∀ x ∈ l, (fun v => ∀ x ∈ v.toList, (fun _ => True) x) x) ∧ l.length ≤ 9223372036854775807) (_ : True) : braidlaw07_FrameWrites f l k = some true := by
  unfold braidlaw07_FrameWrites
  obtain ⟨b, h1, h2⟩ := great7_eq f hf.2.2.2.1.2
  rw [h1]
  simp only [bs]
  cases b with
  | true => rfl
  | false =>
    have ok := h2 rfl
    rw [if_neg (by simp)]
    by_cases h3 : 100 < l.length
    · rw [if_pos (by simp; omega)]
    · rw [if_neg (by simp; omega), Twin7_eq f ok]
      simp only [bs]
      rw [encode_eq f ok, rencode_eq f ok, split_eq l k hl.2, rsplit_eq l k hl.2]
      simp only [bs]
      rw [fcheck_eq f ok, rcheck_eq f ok]
      simp only [bs]
      have hlen : (if goodF f = true then (encF f, (0 : Int)) else ([], 8)).1.length ≤ 9223372036854775807 := by
        split
        · rename_i hg; have := encF_short hg; simp; omega
        · simp
      rw [sameB_eq _ _ hlen]
      have hsm := splitF_small l k
      have e3 : braidref07_Same f f = some true := by
        rw [same7_eq f f (by have := ok.1; omega) (by have := ok.2.1; omega) (fun x hx => by have := ok.2.2 x hx; omega)]; simp
      simp only [bne_self_eq_false, Bool.false_eq_true, if_false, decide_true, Bool.not_true, bs, e3]
      rw [writes_L0 _ (by omega) (fun f hf => ⟨(hsm.2 f hf).1, (hsm.2 f hf).2.1⟩)]
      rfl
end Go.Proofs.Ytklfgpdfongaeaa
namespace Go.Proofs.Ytklfgpdfongaeaa.lawFrameWrites
open Go Go.RowKit Go.ChangeShapes Go.WideShapes Go.ChangeAt
set_option linter.unusedVariables false
set_option linter.unusedSimpArgs false
theorem own : ownKnob Try.prog.godebug = none := by kernel_rfl
theorem laidOut : laidOutB Try.prog = true := by kernel_rfl
set_option maxRecDepth 100000 in
theorem lifted (os : Os) (started : os.Started) (H : Type) (enc : TypeId × Value → H) :
    ReturnsInHanded {} Try.checked os 12 .any (Rows.frameWritesSpec.pre6 enc Try.prog Try.f12 Rows.frameWritesRow.domain false) (Rows.frameWritesSpec.post enc Try.prog Try.f12 false true false false) := by
  refine returnsInHanded_of_change (C := Try.checked) own started (by kernel_rfl) Try.func12
    (ChangeSpec.witness6 (enc := enc) (C := Try.checked) false ⟨#[], #[.agg #[.int .u8 (0), .int .u64 (0), .slice none 0 0, .slice none 0 0], .slice none 0 0, .int .u8 (0)], []⟩ 8 (by kernel_rfl) (by kernel_rfl) (by kernel_rfl) (by kernel_rfl)) ?_
  intro W base args ds gs before hval0 hW hcnd _
  have hval : ∀ (j : Nat) t v, Try.f12.params[j]? = some t → args[j]? = some v → Value.okWide Try.prog W .any base t v := hval0
  have hW' := hW
  obtain ⟨p, q, hA0, hV, rfl, hfz, hnd⟩ := hW
  have hA : DataW.TrodAll enc Try.prog W 0 (fun _ => true) true Try.f12.params.toList args.toList ds p := hA0
  rw [Try.params12] at hA hval
  obtain ⟨v0, vs0, d0, ds0, p0, q0, hargs, rfl, rfl, h0, r0⟩ := trodAll_cons hA
  obtain ⟨v1, vs1, d1, ds1, p1, q1, rfl, rfl, rfl, h1, r1⟩ := trodAll_cons r0
  obtain ⟨v2, vs2, d2, ds2, p2, q2, rfl, rfl, rfl, h2, r2⟩ := trodAll_cons r1
  obtain ⟨rfl, rfl, rfl⟩ := trodAll_nil r2
  obtain rfl : args = #[v0, v1, v2] := by cases args; simp_all
  obtain ⟨rfl, rfl⟩ := trodVars_none hV
  have lt0 : ∀ x ∈ p0, x.block < W.heap.size := by obtain ⟨m, hm⟩ := h0; exact DataW.trod_lt m _ _ _ hm
  obtain ⟨y0, e0, w0⟩ := Opn.arg (R := R_api_Frame) (wf := wf_api_Frame) (Opn.struct (wf' := wf_api_Frame) Try.underlying105 (by kernel_rfl) (OpnF.cons (Opn.u8 Try.underlying5) rfl (by kernel_rfl) (OpnF.cons (Opn.u64 Try.underlying31) rfl (by kernel_rfl) (OpnF.cons (Opn.slice Try.underlying83 (by kernel_rfl) rfl (Opn.arr Try.underlying102 (by kernel_rfl) (by kernel_rfl) (Opn.u8 Try.underlying5))) rfl (by kernel_rfl) (OpnF.cons (Opn.slice Try.underlying103 (by kernel_rfl) rfl (Opn.slice Try.underlying32 (by kernel_rfl) rfl (Opn.u8 Try.underlying5))) rfl (by kernel_rfl) OpnF.nil)))) (fun p => ⟨p.1, p.2.1, p.2.2.1, p.2.2.2.1⟩) (fun _ => rfl) (fun _ h => h)) h0 (.inr ⟨rfl, ok5 Try.underlying105 (hval 0 105 v0 rfl rfl)⟩)
  have lt1 : ∀ x ∈ p1, x.block < W.heap.size := by obtain ⟨m, hm⟩ := h1; exact DataW.trod_lt m _ _ _ hm
  obtain ⟨y1, e1, w1⟩ := Opn.arg (R := (sliceR (arrR 32 u8R))) (wf := (fun l : List (Vector UInt8 32) => (∀ x ∈ l, (fun v : Vector UInt8 32 => ∀ x ∈ v.toList, (fun _ => True) x) x) ∧ l.length ≤ 9223372036854775807)) (Opn.slice Try.underlying83 (by kernel_rfl) rfl (Opn.arr Try.underlying102 (by kernel_rfl) (by kernel_rfl) (Opn.u8 Try.underlying5))) h1 (.inl ⟨rfl, ok4 Try.underlying83 (hval 1 83 v1 rfl rfl)⟩)
  have lt2 : ∀ x ∈ p2, x.block < W.heap.size := by obtain ⟨m, hm⟩ := h2; exact DataW.trod_lt m _ _ _ hm
  obtain ⟨y2, e2, w2⟩ := Opn.arg (R := u8R) (wf := (fun _ => True)) (Opn.u8 Try.underlying5) h2 (.inl ⟨rfl, ok1 Try.underlying5 (hval 2 5 v2 rfl rfl)⟩)
  clear hA0 hval0
  refine (Spec.law (W := W) (braidlaw07_FrameWrites_ok _ _ _) (writes7 _ _ _ w0 w1 w2) (vs := [v0, v1, v2]) ⟨e0, ⟨e1, ⟨e2, trivial⟩⟩⟩).mono fun e W' ⟨he, bel⟩ => ?_
  subst he
  exact ⟨_, rfl, _, _, _, [], _, [], hW', trodAll_mk1 (shut_bool Try.underlying4 _), (trodAll_cons_mk (Below.trod laidOut (by kernel_rfl) (of_decide_eq_true (by kernel_rfl)) h0 bel lt0) (trodAll_cons_mk (Below.trod laidOut (by kernel_rfl) (of_decide_eq_true (by kernel_rfl)) h1 bel lt1) (trodAll_cons_mk (Below.trod laidOut (by kernel_rfl) (of_decide_eq_true (by kernel_rfl)) h2 bel lt2) trodAll_mk0))), rfl, bel.frame _, fun h => by cases h⟩
theorem over : Rows.frameWritesRow.holds Try.pinned (OpenSpec.ofChange Rows.frameWritesSpec) :=
  OpenClaim.holds_of_wide 12 Try.f12 rfl rfl rfl rfl rfl rfl rfl ⟨rfl, rfl, rfl, rfl, rfl⟩ rfl rfl rfl rfl rfl (by kernel_rfl) Try.func12 (by kernel_rfl)
    (of_decide_eq_true (by kernel_rfl)) (by unfold Func.isWrapper; first | (rw [if_pos (by decide +kernel)]; kernel_rfl) | (rw [if_neg (by decide +kernel)]; exact ⟨rfl, rfl⟩))
    (fun os started H enc _ => lifted os started H enc)
theorem proved : Rows.FrameWritesSaid := over
end Go.Proofs.Ytklfgpdfongaeaa.lawFrameWrites
