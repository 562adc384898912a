/- Functions and what the code of each does. -/
import Derived.Test.YtklfgpdfongaeaaKT
namespace Go.Proofs.Ytklfgpdfongaeaa
open Go Go.RowKit
set_option linter.unusedSimpArgs false
set_option linter.unusedVariables false

def gossip_two (a0 : Int) (a1 : api_Meet) : Option (Bool) :=
  if decide (0 ≤ (min a1.A a1.B)) then
    if decide ((max a1.A a1.B) < a0) then
      some (a1.A != a1.B)
    else
      some false
  else
    some false
set_option maxRecDepth 100000 in
theorem gossip_two_ok (a0 : Int) (a1 : api_Meet) : Spec Try.prog 97 [.rd i64R a0, .rd R_api_Meet a1] [] (gossip_two a0 a1) (fun r nv => ⟨[.rd boolR r], []⟩) := by
  refine spec 27 Try.func97 rfl rfl rfl fun H w => ?_
  refine gSeq <| gReg <| Eb rfl (bx 1 rfl) fun v1 => R rfl (asg rfl) <| gNil <| eThen <| gSeq <| gReg <| R rfl (faB 1 rfl rfl Try.underlying145 rfl (by exact ti3)) <| R rfl (ld 1 rfl rfl ((Foc.here).part (pt_api_Meet_A _)) ty3 rfl) <| R rfl (faB 1 rfl rfl Try.underlying145 rfl (by exact ti3)) <| R rfl (ld 1 rfl rfl ((Foc.here).part (pt_api_Meet_B _)) ty3 rfl) <| R rfl (I.min rfl rfl) <| R rfl (I.geq rfl rfl) <| R rfl (mv rfl) <| lSplit 11 rfl (fun h2 => ?_) (fun h2 => ?_)
  · skip
    refine lKn 10 rfl h2 <| lRun (gd rfl rfl rfl rfl) rfl rfl (faB 1 rfl rfl Try.underlying145 rfl (by exact ti3)) <| lRun (gd rfl rfl rfl rfl) rfl rfl (ld 1 rfl rfl ((Foc.here).part (pt_api_Meet_A _)) ty3 rfl) <| lRun (gd rfl rfl rfl rfl) rfl rfl (faB 1 rfl rfl Try.underlying145 rfl (by exact ti3)) <| lRun (gd rfl rfl rfl rfl) rfl rfl (ld 1 rfl rfl ((Foc.here).part (pt_api_Meet_B _)) ty3 rfl) <| lRun (gd rfl rfl rfl rfl) rfl rfl (I.max rfl rfl) <| lRun (gd rfl rfl rfl rfl) rfl rfl (mv rfl) <| lRun (gd rfl rfl rfl rfl) rfl rfl (I.lss rfl rfl) <| R rfl (pkT rfl rfl) <| R rfl (mv rfl) <| lSplit 20 rfl (fun h3 => ?_) (fun h3 => ?_)
    · skip
      refine lKn 18 rfl h3 <| lKn 19 rfl h3 <| lRun (gd rfl rfl rfl rfl) rfl rfl (faB 1 rfl rfl Try.underlying145 rfl (by exact ti3)) <| lRun (gd rfl rfl rfl rfl) rfl rfl (ld 1 rfl rfl ((Foc.here).part (pt_api_Meet_A _)) ty3 rfl) <| lRun (gd rfl rfl rfl rfl) rfl rfl (faB 1 rfl rfl Try.underlying145 rfl (by exact ti3)) <| lRun (gd rfl rfl rfl rfl) rfl rfl (ld 1 rfl rfl ((Foc.here).part (pt_api_Meet_B _)) ty3 rfl) <| lRun (gd rfl rfl rfl rfl) rfl rfl (I.neq rfl rfl) <| R rfl (pkT rfl rfl) <| R rfl (asg rfl) <| gNil <| eThen <| gRet <| eRet [] [] rfl (eE rfl <| eN) (rN)
    · skip
      refine lKn 18 rfl h3 <| lKn 19 rfl h3 <| lSkip (gd rfl rfl rfl rfl) rfl rfl <| lSkip (gd rfl rfl rfl rfl) rfl rfl <| lSkip (gd rfl rfl rfl rfl) rfl rfl <| lSkip (gd rfl rfl rfl rfl) rfl rfl <| lSkip (gd rfl rfl rfl rfl) rfl rfl <| R rfl (pkF rfl rfl) <| R rfl (asg rfl) <| gNil <| eThen <| gRet <| eRet [] [] rfl (eE rfl <| eN) (rN)
  · skip
    refine lKn 10 rfl h2 <| lSkip (gd rfl rfl rfl rfl) rfl rfl <| lSkip (gd rfl rfl rfl rfl) rfl rfl <| lSkip (gd rfl rfl rfl rfl) rfl rfl <| lSkip (gd rfl rfl rfl rfl) rfl rfl <| lSkip (gd rfl rfl rfl rfl) rfl rfl <| lSkip (gd rfl rfl rfl rfl) rfl rfl <| lSkip (gd rfl rfl rfl rfl) rfl rfl <| R rfl (pkF rfl rfl) <| R rfl (mv rfl) <| lSkip (gd rfl rfl rfl rfl) rfl rfl <| lSkip (gd rfl rfl rfl rfl) rfl rfl <| lSkip (gd rfl rfl rfl rfl) rfl rfl <| lSkip (gd rfl rfl rfl rfl) rfl rfl <| lSkip (gd rfl rfl rfl rfl) rfl rfl <| R rfl (pkF rfl rfl) <| R rfl (asg rfl) <| gNil <| eThen <| gRet <| eRet [] [] rfl (eE rfl <| eN) (rN)

def gossip_Heard_L0 (s6 : (Vector UInt64 5) × Int) : Option (Sum ((Vector UInt64 5)) ((Vector UInt64 5) × Int)) :=
  if decide (s6.2 < 5) then
    chk (0 ≤ s6.2) >>= fun u8 =>
    vidx s6.1 s6.2 >>= fun x10 =>
    some (.inr (vset s6.1 s6.2 (shl64 1 ((s6.2).toNat)), w64 (s6.2 + 1)))
  else
    some (.inl s6.1)
def gossip_Heard_L2 (a0 : Int) (a1 : List api_Meet) (s13 : (Vector UInt64 5) × Int) : Option (Sum (Sum ((List (List Int)) × Int) ((Vector UInt64 5))) ((Vector UInt64 5) × Int)) :=
  if decide (s13.2 < (a1.length : Int)) then
    idx a1 s13.2 >>= fun x15 =>
    gossip_two a0 x15 >>= fun r18 =>
    if !r18 then
      some (.inl (.inl ([], 2)))
    else
      vidx s13.1 x15.A >>= fun x21 =>
      vidx s13.1 x15.B >>= fun x23 =>
      vidx s13.1 x15.A >>= fun x25 =>
      vidx (vset s13.1 x15.A (x21 ||| x23)) x15.B >>= fun x27 =>
      some (.inr (vset (vset s13.1 x15.A (x21 ||| x23)) x15.B (x21 ||| x23), w64 (s13.2 + 1)))
  else
    some (.inl (.inr s13.1))
def gossip_Heard_L6 (a0 : Int) (s12 : (Vector UInt64 5)) (s30 : (List (List Int)) × Int) (s34 : (List Int) × Int) : Option (Sum ((List Int)) ((List Int) × Int)) :=
  if decide (s34.2 < a0) then
    vidx s12 s30.2 >>= fun x37 =>
    chk (0 ≤ s34.2) >>= fun u39 =>
    if ((shr64 x37 ((s34.2).toNat)) &&& 1) == 1 then
      app 8 s34.1 [s34.2] >>= fun x43 =>
      some (.inr (x43, w64 (s34.2 + 1)))
    else
      some (.inr (s34.1, w64 (s34.2 + 1)))
  else
    some (.inl s34.1)
def gossip_Heard_L4 (a0 : Int) (s12 : (Vector UInt64 5)) (s30 : (List (List Int)) × Int) : Option (Sum ((List (List Int))) ((List (List Int)) × Int)) :=
  if decide (s30.2 < a0) then
    (iter (gossip_Heard_L6 a0 s12 s30) ([], 0)) >>= fun s33 =>
    app 24 s30.1 [s33] >>= fun x48 =>
    some (.inr (x48, w64 (s30.2 + 1)))
  else
    some (.inl s30.1)
def gossip_Heard (a0 : Int) (a1 : List api_Meet) : Option ((List (List Int)) × Int) :=
  if decide (a0 < 0) then
    some ([], 2)
  else
    if decide (5 < a0) then
      some ([], 2)
    else
      if decide (100 < (a1.length : Int)) then
        some ([], 4)
      else
        (iter (gossip_Heard_L0) ((Vector.replicate 5 0), 0)) >>= fun s5 =>
        orRet (iter (gossip_Heard_L2 a0 a1) (s5, 0)) fun s12 =>
        (iter (gossip_Heard_L4 a0 s12) ([], 0)) >>= fun s29 =>
        some (s29, 0)
set_option maxRecDepth 100000 in
theorem gossip_Heard_ok (a0 : Int) (a1 : List api_Meet) : Spec Try.prog 23 [.rd i64R a0, .rd (sliceR R_api_Meet) a1] [] (gossip_Heard a0 a1) (fun r nv => ⟨[.val (nv 0), .rd i64R r.2], [(0, some (nv 0, .list (sliceR i64R) 147 r.1))]⟩) := by
  refine spec 86 Try.func23 rfl rfl rfl fun H w => ?_
  refine gSeq <| gReg <| R rfl (asg rfl) <| R rfl (asg rfl) <| gNil <| eThen <| gSeq <| gSeq <| gReg <| R rfl (mv rfl) <| R rfl (I.lss rfl rfl) <| R rfl (mv rfl) <| lSplit 17 rfl (fun h1 => ?_) (fun h1 => ?_)
  · skip
    refine lKn 16 rfl h1 <| lSkip (gd rfl rfl rfl rfl) rfl rfl <| lSkip (gd rfl rfl rfl rfl) rfl rfl <| R rfl (pkT rfl rfl) <| gNil <| eThen <| gTrue rfl <| gSeq <| gReg <| R rfl (asg rfl) <| R rfl (asg rfl) <| gNil <| eThen <| gRet <| eTret <| eNew (sliceR i64R) 147 1 <| eRet [(.slice none 0 0)] [1] rfl (eE rfl <| eE rfl <| eN) (rR rfl rfl <| rN)
  · skip
    refine lKn 16 rfl h1 <| lRun (gd rfl rfl rfl rfl) rfl rfl (mv rfl) <| lRun (gd rfl rfl rfl rfl) rfl rfl (I.gtr rfl rfl) <| R rfl (pkF rfl rfl) <| gNil <| eThen <| gIf rfl rfl (fun h2 => ?_) (fun h2 => ?_)
    · skip
      refine gKn 19 rfl h2 <| gSeq <| gReg <| R rfl (asg rfl) <| R rfl (asg rfl) <| gNil <| eThen <| gRet <| eTret <| eNew (sliceR i64R) 147 2 <| eRet [(.slice none 0 0)] [2] rfl (eE rfl <| eE rfl <| eN) (rR rfl rfl <| rN)
    · skip
      refine gKn 19 rfl h2 <| gSkip <| eThen <| gSeq <| gSeq <| gReg <| R rfl (mv rfl) <| R rfl (len' rfl .rd rfl Try.underlying22) <| R rfl (I.gtr rfl rfl) <| gNil <| eThen <| gIf rfl rfl (fun h3 => ?_) (fun h3 => ?_)
      · skip
        refine gSeq <| gReg <| R rfl (asg rfl) <| R rfl (asg rfl) <| gNil <| eThen <| gRet <| eTret <| eNew (sliceR i64R) 147 3 <| eRet [(.slice none 0 0)] [3] rfl (eE rfl <| eE rfl <| eN) (rR rfl rfl <| rN)
      · skip
        refine gSkip <| eThen <| gSeq <| gReg <| Eb rfl (allc 4 ti143 (.zr zr143)) fun v4 => gNil <| eThen <| gMid (fun (s5 : (Vector UInt64 5)) aa ww => Sta (ctx 86 H [] w) [(0, .rd i64R a0), (1, .rd (sliceR R_api_Meet) a1), (6, .val (ptrTo v4 0))] [(4, some (v4, .box 143 [.rd (arrR 5 u64R) s5]))] aa ww) ?_ (fun s5 => ?_)
        · skip
          refine gSeq <| gReg <| R rfl (mv rfl) <| gNil <| eThen <| gLoop (fun (s6 : (Vector UInt64 5) × Int) aa ww => Sta (ctx 86 H [] w) [(0, .rd i64R a0), (1, .rd (sliceR R_api_Meet) a1), (6, .val (ptrTo v4 0)), (24, .rd i64R s6.2)] [(4, some (v4, .box 143 [.rd (arrR 5 u64R) s6.1]))] aa ww) (fun aa ww h => h.sub [4] (sS rfl <| sS rfl <| sS rfl <| sS rfl <| sN) (rR rfl rfl <| rN)) (fun s6 => ?_)
          refine gSeq <| gReg <| R rfl (I.lss rfl rfl) <| gNil <| eThen <| gSeq <| gIf rfl rfl (fun h7 => ?_) (fun h7 => ?_)
          · skip
            refine gSkip <| eThen <| gSeq <| gBlk <| gSeq <| gReg <| R rfl (mv rfl) <| R rfl (asg rfl) <| gNil <| eThen <| gReg <| R rfl (mv rfl) <| R rfl (mv rfl) <| lBind fun u8 h9 => R rfl (U.shl rfl rfl (chk_some h9)) <| lBind fun x10 h11 => R rfl (ixB 4 rfl rfl rfl h11 Try.underlying143 ti142) <| Es (sto 4 rfl rfl ((Foc.here).part (.el h11)) rfl ti142) <| gNil <| eBlk <| eThen <| gReg <| R rfl (I.add rfl rfl) <| R rfl (mv rfl) <| gNil <| eNext (fun aa ww h => h.sub [4] (sS rfl <| sS rfl <| sS rfl <| sS rfl <| sN) (rR rfl rfl <| rN))
          · skip
            refine gExit <| eTexit <| eLeave <| eMid (fun aa ww h => h.sub [4] (sS rfl <| sS rfl <| sS rfl <| sN) (rR rfl rfl <| rN))
        · skip
          refine gMidR (fun (s12 : (Vector UInt64 5)) aa ww => Sta (ctx 86 H [] w) [(0, .rd i64R a0), (6, .val (ptrTo v4 0))] [(4, some (v4, .box 143 [.rd (arrR 5 u64R) s12]))] aa ww) ?_ (fun s12 => ?_)
          · skip
            refine gSeq <| gReg <| R rfl (mv rfl) <| R rfl (len' rfl .rd rfl Try.underlying22) <| R rfl (mv rfl) <| gNil <| eThen <| gLoop (fun (s13 : (Vector UInt64 5) × Int) aa ww => Sta (ctx 86 H [] w) [(0, .rd i64R a0), (6, .val (ptrTo v4 0)), (32, .rd (sliceR R_api_Meet) a1), (33, .rd i64R (a1.length : Int)), (34, .rd i64R s13.2)] [(4, some (v4, .box 143 [.rd (arrR 5 u64R) s13.1]))] aa ww) (fun aa ww h => h.sub [4] (sS rfl <| sS rfl <| sS rfl <| sS rfl <| sS rfl <| sN) (rR rfl rfl <| rN)) (fun s13 => ?_)
            refine gSeq <| gReg <| R rfl (I.lss rfl rfl) <| gNil <| eThen <| gSeq <| gIf rfl rfl (fun h14 => ?_) (fun h14 => ?_)
            · skip
              refine gSkip <| eThen <| gSeq <| gBlk <| gSeq <| gReg <| lBind fun x15 h16 => R rfl (ixR rfl rfl h16 Try.underlying22 ti145 rfl) <| R rfl (ldR rfl ty145) <| Eb rfl (allc 5 ti145 (.zr zr145)) fun v17 => Es (sto 5 rfl rfl Foc.here rfl ti145) <| gNil <| eThen <| gSeq <| gSeq <| gReg <| R rfl (mv rfl) <| R rfl (ld 5 rfl rfl Foc.here ty145 rfl) <| call [] [] rfl Try.func97 rfl rfl (gossip_two_ok _ _) (aQ rfl <| aQ rfl <| aN) rN fun r18 n19 => R rfl (not' rfl) <| gNil <| eThen <| gIf rfl rfl (fun h20 => ?_) (fun h20 => ?_)
              · skip
                refine gSeq <| gReg <| R rfl (asg rfl) <| R rfl (asg rfl) <| gNil <| eThen <| gRet <| eTret <| eBret <| eTret <| eLret <| eMret <| eNew (sliceR i64R) 147 6 <| eRet [(.slice none 0 0)] [6] rfl (eE rfl <| eE rfl <| eN) (rR rfl rfl <| rN)
              · skip
                refine gSkip <| eThen <| gSeq <| gRegQ mixed (by kernel_rfl) <| Rq rfl (faB 5 rfl rfl Try.underlying145 rfl (by exact ti3)) <| Rq rfl (ld 5 rfl rfl ((Foc.here).part (pt_api_Meet_A _)) ty3 rfl) <| qBind fun x21 h22 => Rq rfl (ixB 4 rfl rfl rfl h22 Try.underlying143 ti142) <| Rq rfl (ld 4 rfl rfl ((Foc.here).part (.el h22)) ty142 rfl) <| Rq rfl (faB 5 rfl rfl Try.underlying145 rfl (by exact ti3)) <| Rq rfl (ld 5 rfl rfl ((Foc.here).part (pt_api_Meet_B _)) ty3 rfl) <| qBind fun x23 h24 => Rq rfl (ixB 4 rfl rfl rfl h24 Try.underlying143 ti142) <| Rq rfl (ld 4 rfl rfl ((Foc.here).part (.el h24)) ty142 rfl) <| Rq rfl (U.or rfl rfl) <| Rq rfl (asg rfl) <| qNil <| eThen <| gRegH [4] mixed rfl rfl <| hTake 0 rfl (by kernel_rfl) (by kernel_rfl) (by kernel_rfl) (gd0 rfl) rfl rfl (faB 5 rfl rfl Try.underlying145 rfl (by exact ti3)) <| hTake 1 rfl (by kernel_rfl) (by kernel_rfl) (by kernel_rfl) (gd0 rfl) rfl rfl (ld 5 rfl rfl ((Foc.here).part (pt_api_Meet_A _)) ty3 rfl) <| hTake 2 rfl (by kernel_rfl) (by kernel_rfl) (by kernel_rfl) (gd0 rfl) rfl rfl (faB 5 rfl rfl Try.underlying145 rfl (by exact ti3)) <| hTake 3 rfl (by kernel_rfl) (by kernel_rfl) (by kernel_rfl) (gd0 rfl) rfl rfl (ld 5 rfl rfl ((Foc.here).part (pt_api_Meet_B _)) ty3 rfl) <| hTake 4 rfl (by kernel_rfl) (by kernel_rfl) (by kernel_rfl) (gd0 rfl) rfl rfl (mv rfl) <| hTake 5 rfl (by kernel_rfl) (by kernel_rfl) (by kernel_rfl) (gd0 rfl) rfl rfl (mv rfl) <| hBind fun x25 h26 => hTake 6 rfl (by kernel_rfl) (by kernel_rfl) (by kernel_rfl) (gd0 rfl) rfl rfl (ixB 4 rfl rfl rfl h26 Try.underlying143 ti142) <| hDoS 7 rfl (by kernel_rfl) (gd0 rfl) rfl rfl rfl rfl (sto 4 rfl rfl ((Foc.here).part (.el h26)) rfl ti142) <| hBind fun x27 h28 => hTakeF 8 rfl (by kernel_rfl) (by kernel_rfl) (by kernel_rfl) (gd0 rfl) rfl rfl flat_val (ixB 4 rfl rfl rfl h28 Try.underlying143 ti142) <| hDoS 9 rfl (by kernel_rfl) (gd0 rfl) rfl rfl rfl rfl (sto 4 rfl rfl ((Foc.here).part (.el h28)) rfl ti142) <| hDone (by kernel_rfl) <| eBlk <| eThen <| gReg <| R rfl (I.add rfl rfl) <| R rfl (mv rfl) <| gNil <| eNext (fun aa ww h => h.sub [4] (sS rfl <| sS rfl <| sS rfl <| sS rfl <| sS rfl <| sN) (rR rfl rfl <| rN))
            · skip
              refine gExit <| eTexit <| eLeave <| eMidR (fun aa ww h => h.sub [4] (sS rfl <| sS rfl <| sN) (rR rfl rfl <| rN))
          · skip
            refine gSeq <| gReg <| R rfl (asg rfl) <| gNil <| eThen <| gMid (fun (s29 : (List (List Int))) aa ww => ∃ nv : Nat → Value, Sta (ctx 86 H [] w) [(11, .val (nv 0))] [(14, some ((nv 0), .list (sliceR i64R) 147 s29))] aa ww) ?_ (fun s29 => ?_)
            · skip
              refine gSeq <| gReg <| R rfl (mv rfl) <| R rfl (mv rfl) <| gNil <| eThen <| gNew (sliceR i64R) 147 23 <| gLoop (fun (s30 : (List (List Int)) × Int) aa ww => ∃ nv : Nat → Value, Sta (ctx 86 H [] w) [(0, .rd i64R a0), (6, .val (ptrTo v4 0)), (11, .val (nv 0)), (60, .rd i64R a0), (61, .rd i64R s30.2)] [(4, some (v4, .box 143 [.rd (arrR 5 u64R) s12])), (22, some ((nv 0), .list (sliceR i64R) 147 s30.1))] aa ww) (fun aa ww h => ⟨nvl [(.slice none 0 0)], h.sub [4, 23] (sS rfl <| sS rfl <| sS rfl <| sS rfl <| sS rfl <| sN) (rR rfl rfl <| rR rfl rfl <| rN)⟩) (fun s30 => ?_)
              refine gEx fun n31 => gSeq <| gReg <| R rfl (I.lss rfl rfl) <| gNil <| eThen <| gSeq <| gIf rfl rfl (fun h32 => ?_) (fun h32 => ?_)
              · skip
                refine gSkip <| eThen <| gSeq <| gBlk <| gSeq <| gReg <| R rfl (mv rfl) <| R rfl (asg rfl) <| gNil <| eThen <| gSeq <| gReg <| R rfl (asg rfl) <| gNil <| eThen <| gMid (fun (s33 : (List Int)) aa ww => ∃ nv : Nat → Value, Sta (ctx 86 H [] w) [(0, .rd i64R a0), (6, .val (ptrTo v4 0)), (11, .val (n31 0)), (13, .val (nv 0)), (60, .rd i64R a0), (61, .rd i64R s30.2)] [(4, some (v4, .box 143 [.rd (arrR 5 u64R) s12])), (22, some ((n31 0), .list (sliceR i64R) 147 s30.1)), (25, some ((nv 0), .list i64R 3 s33))] aa ww) ?_ (fun s33 => ?_)
                · skip
                  refine gSeq <| gReg <| R rfl (mv rfl) <| R rfl (mv rfl) <| gNil <| eThen <| gNew i64R 3 28 <| gLoop (fun (s34 : (List Int) × Int) aa ww => ∃ nv : Nat → Value, Sta (ctx 86 H [] w) [(0, .rd i64R a0), (6, .val (ptrTo v4 0)), (11, .val (n31 0)), (12, .rd i64R s30.2), (13, .val (nv 0)), (60, .rd i64R a0), (61, .rd i64R s30.2), (64, .rd i64R a0), (65, .rd i64R s34.2)] [(4, some (v4, .box 143 [.rd (arrR 5 u64R) s12])), (22, some ((n31 0), .list (sliceR i64R) 147 s30.1)), (27, some ((nv 0), .list i64R 3 s34.1))] aa ww) (fun aa ww h => ⟨nvl [(.slice none 0 0)], h.sub [4, 22, 28] (sS rfl <| sS rfl <| sS rfl <| sS rfl <| sS rfl <| sS rfl <| sS rfl <| sS rfl <| sS rfl <| sN) (rR rfl rfl <| rR rfl rfl <| rR rfl rfl <| rN)⟩) (fun s34 => ?_)
                  refine gEx fun n35 => gSeq <| gReg <| R rfl (I.lss rfl rfl) <| gNil <| eThen <| gSeq <| gIf rfl rfl (fun h36 => ?_) (fun h36 => ?_)
                  · skip
                    refine gSkip <| eThen <| gSeq <| gBlk <| gSeq <| gReg <| R rfl (mv rfl) <| R rfl (asg rfl) <| gNil <| eThen <| gSeq <| gReg <| R rfl (mv rfl) <| lBind fun x37 h38 => R rfl (ixB 4 rfl rfl rfl h38 Try.underlying143 ti142) <| R rfl (ld 4 rfl rfl ((Foc.here).part (.el h38)) ty142 rfl) <| R rfl (mv rfl) <| lBind fun u39 h40 => R rfl (U.shr rfl rfl (chk_some h40)) <| R rfl (U.and rfl rfl) <| R rfl (U.eql rfl rfl) <| gNil <| eThen <| gIf rfl rfl (fun h41 => ?_) (fun h41 => ?_)
                    · skip
                      refine gReg <| R rfl (mv rfl) <| R rfl (mv rfl) <| Ef rfl (lit ([s34.2] : List Int) 29 (pP rfl rfl <| pN) rfl Try.underlying147 ti3 rfl rfl) fun v42 => lBind fun x43 h44 => Ef rfl (apn 27 rfl rfl rfl (.own 29 rfl) h44 Try.underlying147 ti3 rfl rfl rfl) fun v45 => R rfl (asg rfl) <| gNil <| eBlk <| eThen <| gReg <| R rfl (I.add rfl rfl) <| R rfl (mv rfl) <| gNil <| eNext (fun aa ww h => ⟨nvl [v45], h.sub [4, 22, 27] (sS rfl <| sS rfl <| sS rfl <| sS rfl <| sS rfl <| sS rfl <| sS rfl <| sS rfl <| sS rfl <| sN) (rR rfl rfl <| rR rfl rfl <| rR rfl rfl <| rN)⟩)
                    · skip
                      refine gSkip <| eBlk <| eThen <| gReg <| R rfl (I.add rfl rfl) <| R rfl (mv rfl) <| gNil <| eNext (fun aa ww h => ⟨nvl [(n35 0)], h.sub [4, 22, 27] (sS rfl <| sS rfl <| sS rfl <| sS rfl <| sS rfl <| sS rfl <| sS rfl <| sS rfl <| sS rfl <| sN) (rR rfl rfl <| rR rfl rfl <| rR rfl rfl <| rN)⟩)
                  · skip
                    refine gExit <| eTexit <| eLeave <| eMid (fun aa ww h => ⟨nvl [(n35 0)], h.sub [4, 22, 27] (sS rfl <| sS rfl <| sS rfl <| sS rfl <| sS rfl <| sS rfl <| sN) (rR rfl rfl <| rR rfl rfl <| rR rfl rfl <| rN)⟩)
                · skip
                  refine gEx fun n46 => gReg <| R rfl (mv rfl) <| R rfl (mv rfl) <| lFrz 25 81 rfl rfl <| Ef rfl (lit ([s33] : List (List Int)) 30 (pP rfl rfl <| pN) rfl Try.underlying23 ti147 rfl rfl) fun v47 => lFrz 30 82 rfl rfl <| lBind fun x48 h49 => Ef rfl (apn 22 rfl rfl rfl .rd h49 Try.underlying23 ti147 rfl rfl rfl) fun v50 => R rfl (asg rfl) <| gNil <| eBlk <| eThen <| gReg <| R rfl (I.add rfl rfl) <| R rfl (mv rfl) <| gNil <| eNext (fun aa ww h => ⟨nvl [v50], h.sub [4, 22] (sS rfl <| sS rfl <| sS rfl <| sS rfl <| sS rfl <| sN) (rR rfl rfl <| rR rfl rfl <| rN)⟩)
              · skip
                refine gExit <| eTexit <| eLeave <| eMid (fun aa ww h => ⟨nvl [(n31 0)], h.sub [22] (sS rfl <| sN) (rR rfl rfl <| rN)⟩)
            · skip
              refine gEx fun n51 => gSeq <| gReg <| R rfl (mv rfl) <| R rfl (asg rfl) <| R rfl (asg rfl) <| gNil <| eThen <| gRet <| eRet [(n51 0)] [14] rfl (eE rfl <| eE rfl <| eN) (rR rfl rfl <| rN)


def braidref38_Two (a0 : Int) (a1 : api_Meet) : Option (Bool) :=
  if decide (0 ≤ a1.A) then
    if decide (a1.A < a0) then
      if decide (0 ≤ a1.B) then
        if decide (a1.B < a0) then
          some (a1.A != a1.B)
        else
          some false
      else
        some false
    else
      some false
  else
    some false
set_option maxRecDepth 100000 in
theorem braidref38_Two_ok (a0 : Int) (a1 : api_Meet) : Spec Try.prog 98 [.rd i64R a0, .rd R_api_Meet a1] [] (braidref38_Two a0 a1) (fun r nv => ⟨[.rd boolR r], []⟩) := by
  refine spec 32 Try.func98 rfl rfl rfl fun H w => ?_
  refine gSeq <| gReg <| Eb rfl (bx 1 rfl) fun v1 => R rfl (asg rfl) <| gNil <| eThen <| gSeq <| gReg <| R rfl (faB 1 rfl rfl Try.underlying145 rfl (by exact ti3)) <| R rfl (ld 1 rfl rfl ((Foc.here).part (pt_api_Meet_A _)) ty3 rfl) <| R rfl (I.geq rfl rfl) <| R rfl (mv rfl) <| lSplit 8 rfl (fun h2 => ?_) (fun h2 => ?_)
  · skip
    refine lKn 7 rfl h2 <| lRun (gd rfl rfl rfl rfl) rfl rfl (faB 1 rfl rfl Try.underlying145 rfl (by exact ti3)) <| lRun (gd rfl rfl rfl rfl) rfl rfl (ld 1 rfl rfl ((Foc.here).part (pt_api_Meet_A _)) ty3 rfl) <| lRun (gd rfl rfl rfl rfl) rfl rfl (mv rfl) <| lRun (gd rfl rfl rfl rfl) rfl rfl (I.lss rfl rfl) <| R rfl (pkT rfl rfl) <| R rfl (mv rfl) <| lSplit 14 rfl (fun h3 => ?_) (fun h3 => ?_)
    · skip
      refine lKn 12 rfl h3 <| lKn 13 rfl h3 <| lRun (gd rfl rfl rfl rfl) rfl rfl (faB 1 rfl rfl Try.underlying145 rfl (by exact ti3)) <| lRun (gd rfl rfl rfl rfl) rfl rfl (ld 1 rfl rfl ((Foc.here).part (pt_api_Meet_B _)) ty3 rfl) <| lRun (gd rfl rfl rfl rfl) rfl rfl (I.geq rfl rfl) <| R rfl (pkT rfl rfl) <| R rfl (mv rfl) <| lSplit 19 rfl (fun h4 => ?_) (fun h4 => ?_)
      · skip
        refine lKn 17 rfl h4 <| lKn 18 rfl h4 <| lRun (gd rfl rfl rfl rfl) rfl rfl (faB 1 rfl rfl Try.underlying145 rfl (by exact ti3)) <| lRun (gd rfl rfl rfl rfl) rfl rfl (ld 1 rfl rfl ((Foc.here).part (pt_api_Meet_B _)) ty3 rfl) <| lRun (gd rfl rfl rfl rfl) rfl rfl (mv rfl) <| lRun (gd rfl rfl rfl rfl) rfl rfl (I.lss rfl rfl) <| R rfl (pkT rfl rfl) <| R rfl (mv rfl) <| lSplit 25 rfl (fun h5 => ?_) (fun h5 => ?_)
        · skip
          refine lKn 23 rfl h5 <| lKn 24 rfl h5 <| lRun (gd rfl rfl rfl rfl) rfl rfl (faB 1 rfl rfl Try.underlying145 rfl (by exact ti3)) <| lRun (gd rfl rfl rfl rfl) rfl rfl (ld 1 rfl rfl ((Foc.here).part (pt_api_Meet_A _)) ty3 rfl) <| lRun (gd rfl rfl rfl rfl) rfl rfl (faB 1 rfl rfl Try.underlying145 rfl (by exact ti3)) <| lRun (gd rfl rfl rfl rfl) rfl rfl (ld 1 rfl rfl ((Foc.here).part (pt_api_Meet_B _)) ty3 rfl) <| lRun (gd rfl rfl rfl rfl) rfl rfl (I.neq rfl rfl) <| R rfl (pkT rfl rfl) <| R rfl (asg rfl) <| gNil <| eThen <| gRet <| eRet [] [] rfl (eE rfl <| eN) (rN)
        · skip
          refine lKn 23 rfl h5 <| lKn 24 rfl h5 <| lSkip (gd rfl rfl rfl rfl) rfl rfl <| lSkip (gd rfl rfl rfl rfl) rfl rfl <| lSkip (gd rfl rfl rfl rfl) rfl rfl <| lSkip (gd rfl rfl rfl rfl) rfl rfl <| lSkip (gd rfl rfl rfl rfl) rfl rfl <| R rfl (pkF rfl rfl) <| R rfl (asg rfl) <| gNil <| eThen <| gRet <| eRet [] [] rfl (eE rfl <| eN) (rN)
      · skip
        refine lKn 17 rfl h4 <| lKn 18 rfl h4 <| lSkip (gd rfl rfl rfl rfl) rfl rfl <| lSkip (gd rfl rfl rfl rfl) rfl rfl <| lSkip (gd rfl rfl rfl rfl) rfl rfl <| lSkip (gd rfl rfl rfl rfl) rfl rfl <| R rfl (pkF rfl rfl) <| R rfl (mv rfl) <| lSkip (gd rfl rfl rfl rfl) rfl rfl <| lSkip (gd rfl rfl rfl rfl) rfl rfl <| lSkip (gd rfl rfl rfl rfl) rfl rfl <| lSkip (gd rfl rfl rfl rfl) rfl rfl <| lSkip (gd rfl rfl rfl rfl) rfl rfl <| R rfl (pkF rfl rfl) <| R rfl (asg rfl) <| gNil <| eThen <| gRet <| eRet [] [] rfl (eE rfl <| eN) (rN)
    · skip
      refine lKn 12 rfl h3 <| lKn 13 rfl h3 <| lSkip (gd rfl rfl rfl rfl) rfl rfl <| lSkip (gd rfl rfl rfl rfl) rfl rfl <| lSkip (gd rfl rfl rfl rfl) rfl rfl <| R rfl (pkF rfl rfl) <| R rfl (mv rfl) <| lSkip (gd rfl rfl rfl rfl) rfl rfl <| lSkip (gd rfl rfl rfl rfl) rfl rfl <| lSkip (gd rfl rfl rfl rfl) rfl rfl <| lSkip (gd rfl rfl rfl rfl) rfl rfl <| R rfl (pkF rfl rfl) <| R rfl (mv rfl) <| lSkip (gd rfl rfl rfl rfl) rfl rfl <| lSkip (gd rfl rfl rfl rfl) rfl rfl <| lSkip (gd rfl rfl rfl rfl) rfl rfl <| lSkip (gd rfl rfl rfl rfl) rfl rfl <| lSkip (gd rfl rfl rfl rfl) rfl rfl <| R rfl (pkF rfl rfl) <| R rfl (asg rfl) <| gNil <| eThen <| gRet <| eRet [] [] rfl (eE rfl <| eN) (rN)
  · skip
    refine lKn 7 rfl h2 <| lSkip (gd rfl rfl rfl rfl) rfl rfl <| lSkip (gd rfl rfl rfl rfl) rfl rfl <| lSkip (gd rfl rfl rfl rfl) rfl rfl <| lSkip (gd rfl rfl rfl rfl) rfl rfl <| R rfl (pkF rfl rfl) <| R rfl (mv rfl) <| lSkip (gd rfl rfl rfl rfl) rfl rfl <| lSkip (gd rfl rfl rfl rfl) rfl rfl <| lSkip (gd rfl rfl rfl rfl) rfl rfl <| R rfl (pkF rfl rfl) <| R rfl (mv rfl) <| lSkip (gd rfl rfl rfl rfl) rfl rfl <| lSkip (gd rfl rfl rfl rfl) rfl rfl <| lSkip (gd rfl rfl rfl rfl) rfl rfl <| lSkip (gd rfl rfl rfl rfl) rfl rfl <| R rfl (pkF rfl rfl) <| R rfl (mv rfl) <| lSkip (gd rfl rfl rfl rfl) rfl rfl <| lSkip (gd rfl rfl rfl rfl) rfl rfl <| lSkip (gd rfl rfl rfl rfl) rfl rfl <| lSkip (gd rfl rfl rfl rfl) rfl rfl <| lSkip (gd rfl rfl rfl rfl) rfl rfl <| R rfl (pkF rfl rfl) <| R rfl (asg rfl) <| gNil <| eThen <| gRet <| eRet [] [] rfl (eE rfl <| eN) (rN)

def braidref38_Heard_L0 (a0 : Int) (a1 : List api_Meet) (s5 : Int) : Option (Sum (Sum ((List (List Int)) × Int) Unit) Int) :=
  if decide (s5 < (a1.length : Int)) then
    idx a1 s5 >>= fun x7 =>
    braidref38_Two a0 x7 >>= fun r9 =>
    if !r9 then
      some (.inl (.inl ([], 2)))
    else
      some (.inr (w64 (s5 + 1)))
  else
    some (.inl (.inr ()))
def braidref38_Heard_L2 (a0 : Int) (s14 : (Vector (Vector Bool 5) 5) × Int) : Option (Sum ((Vector (Vector Bool 5) 5)) ((Vector (Vector Bool 5) 5) × Int)) :=
  if decide (s14.2 < a0) then
    vidx s14.1 s14.2 >>= fun x16 =>
    vidx x16 s14.2 >>= fun x18 =>
    some (w64 (s14.2 + 1)) >>= fun y20 =>
    some (.inr (vset s14.1 s14.2 (vset x16 s14.2 true), y20))
  else
    some (.inl s14.1)
def braidref38_Heard_L6 (a0 : Int) (a1 : List api_Meet) (s22 : (Vector (Vector Bool 5) 5) × Int) (s25 : (Vector (Vector Bool 5) 5) × Int) : Option (Sum ((Vector (Vector Bool 5) 5)) ((Vector (Vector Bool 5) 5) × Int)) :=
  if decide (s25.2 < a0) then
    (idx a1 s22.2 >>= fun x28 =>
    vidx s25.1 x28.A >>= fun x30 =>
    vidx x30 s25.2 >>= fun x32 =>
    if x32 then
      some true
    else
      idx a1 s22.2 >>= fun x35 =>
      vidx s25.1 x35.B >>= fun x37 =>
      vidx x37 s25.2 >>= fun x39 =>
      some x39) >>= fun s27 =>
    idx a1 s22.2 >>= fun x41 =>
    idx a1 s22.2 >>= fun x43 =>
    vidx s25.1 x41.A >>= fun x45 =>
    vidx x45 s25.2 >>= fun x47 =>
    vidx s25.1 x43.B >>= fun x49 =>
    vidx (vset s25.1 x41.A (vset x45 s25.2 s27)) x43.B >>= fun x51 =>
    vidx x51 s25.2 >>= fun x53 =>
    vidx (vset s25.1 x41.A (vset x45 s25.2 s27)) x43.B >>= fun x55 =>
    vidx x55 s25.2 >>= fun x57 =>
    some (w64 (s25.2 + 1)) >>= fun y59 =>
    some (.inr (vset (vset s25.1 x41.A (vset x45 s25.2 s27)) x43.B (vset x55 s25.2 s27), y59))
  else
    some (.inl s25.1)
def braidref38_Heard_L4 (a0 : Int) (a1 : List api_Meet) (s22 : (Vector (Vector Bool 5) 5) × Int) : Option (Sum ((Vector (Vector Bool 5) 5)) ((Vector (Vector Bool 5) 5) × Int)) :=
  if decide (s22.2 < (a1.length : Int)) then
    (iter (braidref38_Heard_L6 a0 a1 s22) (s22.1, 0)) >>= fun s24 =>
    some (w64 (s22.2 + 1)) >>= fun y60 =>
    some (.inr (s24, y60))
  else
    some (.inl s22.1)
def braidref38_Heard_L10 (a0 : Int) (s21 : (Vector (Vector Bool 5) 5)) (s62 : (List (List Int)) × Int) (s66 : (List Int) × Int) : Option (Sum ((List Int)) ((List Int) × Int)) :=
  if decide (s66.2 < a0) then
    vidx s21 s62.2 >>= fun x69 =>
    vidx x69 s66.2 >>= fun x71 =>
    if x71 then
      app 8 s66.1 [s66.2] >>= fun x75 =>
      some (w64 (s66.2 + 1)) >>= fun y78 =>
      some (.inr (x75, y78))
    else
      some (w64 (s66.2 + 1)) >>= fun y79 =>
      some (.inr (s66.1, y79))
  else
    some (.inl s66.1)
def braidref38_Heard_L8 (a0 : Int) (s21 : (Vector (Vector Bool 5) 5)) (s62 : (List (List Int)) × Int) : Option (Sum ((List (List Int))) ((List (List Int)) × Int)) :=
  if decide (s62.2 < a0) then
    (iter (braidref38_Heard_L10 a0 s21 s62) ([], 0)) >>= fun s65 =>
    app 24 s62.1 [s65] >>= fun x82 =>
    some (w64 (s62.2 + 1)) >>= fun y85 =>
    some (.inr (x82, y85))
  else
    some (.inl s62.1)
def braidref38_Heard (a0 : Int) (a1 : List api_Meet) : Option ((List (List Int)) × Int) :=
  if decide (a0 < 0) then
    some ([], 2)
  else
    if decide (5 < a0) then
      some ([], 2)
    else
      if decide (100 < (a1.length : Int)) then
        some ([], 4)
      else
        orRet (iter (braidref38_Heard_L0 a0 a1) 0) fun s4 =>
        (iter (braidref38_Heard_L2 a0) ((Vector.replicate 5 (Vector.replicate 5 false)), 0)) >>= fun s13 =>
        (iter (braidref38_Heard_L4 a0 a1) (s13, 0)) >>= fun s21 =>
        (iter (braidref38_Heard_L8 a0 s21) ([], 0)) >>= fun s61 =>
        some (s61, 0)
set_option maxRecDepth 100000 in
theorem braidref38_Heard_ok (a0 : Int) (a1 : List api_Meet) : Spec Try.prog 24 [.rd i64R a0, .rd (sliceR R_api_Meet) a1] [] (braidref38_Heard a0 a1) (fun r nv => ⟨[.val (nv 0), .rd i64R r.2], [(0, some (nv 0, .list (sliceR i64R) 147 r.1))]⟩) := by
  refine spec 120 Try.func24 rfl rfl rfl fun H w => ?_
  refine gSeq <| gReg <| R rfl (asg rfl) <| R rfl (asg rfl) <| gNil <| eThen <| gSeq <| gSeq <| gReg <| R rfl (mv rfl) <| R rfl (I.lss rfl rfl) <| R rfl (mv rfl) <| lSplit 18 rfl (fun h1 => ?_) (fun h1 => ?_)
  · skip
    refine lKn 17 rfl h1 <| lSkip (gd rfl rfl rfl rfl) rfl rfl <| lSkip (gd rfl rfl rfl rfl) rfl rfl <| R rfl (pkT rfl rfl) <| gNil <| eThen <| gTrue rfl <| gSeq <| gReg <| R rfl (asg rfl) <| R rfl (asg rfl) <| gNil <| eThen <| gRet <| eTret <| eNew (sliceR i64R) 147 1 <| eRet [(.slice none 0 0)] [1] rfl (eE rfl <| eE rfl <| eN) (rR rfl rfl <| rN)
  · skip
    refine lKn 17 rfl h1 <| lRun (gd rfl rfl rfl rfl) rfl rfl (mv rfl) <| lRun (gd rfl rfl rfl rfl) rfl rfl (I.gtr rfl rfl) <| R rfl (pkF rfl rfl) <| gNil <| eThen <| gIf rfl rfl (fun h2 => ?_) (fun h2 => ?_)
    · skip
      refine gKn 20 rfl h2 <| gSeq <| gReg <| R rfl (asg rfl) <| R rfl (asg rfl) <| gNil <| eThen <| gRet <| eTret <| eNew (sliceR i64R) 147 2 <| eRet [(.slice none 0 0)] [2] rfl (eE rfl <| eE rfl <| eN) (rR rfl rfl <| rN)
    · skip
      refine gKn 20 rfl h2 <| gSkip <| eThen <| gSeq <| gSeq <| gReg <| R rfl (mv rfl) <| R rfl (len' rfl .rd rfl Try.underlying22) <| R rfl (I.gtr rfl rfl) <| gNil <| eThen <| gIf rfl rfl (fun h3 => ?_) (fun h3 => ?_)
      · skip
        refine gSeq <| gReg <| R rfl (asg rfl) <| R rfl (asg rfl) <| gNil <| eThen <| gRet <| eTret <| eNew (sliceR i64R) 147 3 <| eRet [(.slice none 0 0)] [3] rfl (eE rfl <| eE rfl <| eN) (rR rfl rfl <| rN)
      · skip
        refine gSkip <| eThen <| gMidR (fun (s4 : Unit) aa ww => Sta (ctx 120 H [] w) [(0, .rd i64R a0), (1, .rd (sliceR R_api_Meet) a1)] [] aa ww) ?_ (fun s4 => ?_)
        · skip
          refine gSeq <| gReg <| R rfl (asg rfl) <| gNil <| eThen <| gLoop (fun (s5 : Int) aa ww => Sta (ctx 120 H [] w) [(0, .rd i64R a0), (1, .rd (sliceR R_api_Meet) a1), (6, .rd i64R s5)] [] aa ww) (fun aa ww h => h.sub [] (sS rfl <| sS rfl <| sS rfl <| sN) (rN)) (fun s5 => ?_)
          refine gSeq <| gSeq <| gReg <| R rfl (mv rfl) <| R rfl (mv rfl) <| R rfl (len' rfl .rd rfl Try.underlying22) <| R rfl (I.lss rfl rfl) <| gNil <| eThen <| gIf rfl rfl (fun h6 => ?_) (fun h6 => ?_)
          · skip
            refine gSkip <| eThen <| gSeq <| gBlk <| gSeq <| gReg <| R rfl (mv rfl) <| R rfl (mv rfl) <| R rfl (mv rfl) <| lBind fun x7 h8 => R rfl (ixR rfl rfl h8 Try.underlying22 ti145 rfl) <| R rfl (ldR rfl ty145) <| call [] [] rfl Try.func98 rfl rfl (braidref38_Two_ok _ _) (aQ rfl <| aQ rfl <| aN) rN fun r9 n10 => R rfl (not' rfl) <| gNil <| eThen <| gIf rfl rfl (fun h11 => ?_) (fun h11 => ?_)
            · skip
              refine gSeq <| gReg <| R rfl (asg rfl) <| R rfl (asg rfl) <| gNil <| eThen <| gRet <| eBret <| eTret <| eLret <| eMret <| eNew (sliceR i64R) 147 4 <| eRet [(.slice none 0 0)] [4] rfl (eE rfl <| eE rfl <| eN) (rR rfl rfl <| rN)
            · skip
              refine gSkip <| eBlk <| eThen <| gReg <| R rfl (mv rfl) <| R rfl (I.add rfl rfl) <| R rfl (asg rfl) <| gNil <| eNext (fun aa ww h => h.sub [] (sS rfl <| sS rfl <| sS rfl <| sN) (rN))
          · skip
            refine gExit <| eTexit <| eLeave <| eMidR (fun aa ww h => h.sub [] (sS rfl <| sS rfl <| sN) (rN))
        · skip
          refine gSeq <| gReg <| Eb rfl (allc 5 ti149 (.zr zr149)) fun v12 => gNil <| eThen <| gMid (fun (s13 : (Vector (Vector Bool 5) 5)) aa ww => Sta (ctx 120 H [] w) [(0, .rd i64R a0), (1, .rd (sliceR R_api_Meet) a1), (7, .val (ptrTo v12 0))] [(5, some (v12, .box 149 [.rd (arrR 5 (arrR 5 boolR)) s13]))] aa ww) ?_ (fun s13 => ?_)
          · skip
            refine gSeq <| gReg <| R rfl (asg rfl) <| gNil <| eThen <| gLoop (fun (s14 : (Vector (Vector Bool 5) 5) × Int) aa ww => Sta (ctx 120 H [] w) [(0, .rd i64R a0), (1, .rd (sliceR R_api_Meet) a1), (7, .val (ptrTo v12 0)), (8, .rd i64R s14.2)] [(5, some (v12, .box 149 [.rd (arrR 5 (arrR 5 boolR)) s14.1]))] aa ww) (fun aa ww h => h.sub [5] (sS rfl <| sS rfl <| sS rfl <| sS rfl <| sN) (rR rfl rfl <| rN)) (fun s14 => ?_)
            refine gSeq <| gSeq <| gReg <| R rfl (mv rfl) <| R rfl (mv rfl) <| R rfl (I.lss rfl rfl) <| gNil <| eThen <| gIf rfl rfl (fun h15 => ?_) (fun h15 => ?_)
            · skip
              refine gSkip <| eThen <| gSeq <| gBlk <| gReg <| R rfl (mv rfl) <| R rfl (mv rfl) <| lBind fun x16 h17 => R rfl (ixB 5 rfl rfl rfl h17 Try.underlying149 ti148) <| lBind fun x18 h19 => R rfl (ixB 5 rfl rfl rfl h19 Try.underlying148 ti4) <| Es (sto 5 rfl rfl (((Foc.here).part (.el h17)).part (.el h19)) rfl ti4) <| gNil <| eBlk <| eThen <| gReg <| R rfl (mv rfl) <| R rfl (I.add rfl rfl) <| R rfl (asg rfl) <| lName 8 rfl fun y20 => gNil <| eNext (fun aa ww h => h.sub [5] (sS rfl <| sS rfl <| sS rfl <| sS rfl <| sN) (rR rfl rfl <| rN))
            · skip
              refine gExit <| eTexit <| eLeave <| eMid (fun aa ww h => h.sub [5] (sS rfl <| sS rfl <| sS rfl <| sN) (rR rfl rfl <| rN))
          · skip
            refine gMid (fun (s21 : (Vector (Vector Bool 5) 5)) aa ww => Sta (ctx 120 H [] w) [(0, .rd i64R a0), (7, .val (ptrTo v12 0))] [(5, some (v12, .box 149 [.rd (arrR 5 (arrR 5 boolR)) s21]))] aa ww) ?_ (fun s21 => ?_)
            · skip
              refine gSeq <| gReg <| R rfl (asg rfl) <| gNil <| eThen <| gLoop (fun (s22 : (Vector (Vector Bool 5) 5) × Int) aa ww => Sta (ctx 120 H [] w) [(0, .rd i64R a0), (1, .rd (sliceR R_api_Meet) a1), (7, .val (ptrTo v12 0)), (9, .rd i64R s22.2)] [(5, some (v12, .box 149 [.rd (arrR 5 (arrR 5 boolR)) s22.1]))] aa ww) (fun aa ww h => h.sub [5] (sS rfl <| sS rfl <| sS rfl <| sS rfl <| sN) (rR rfl rfl <| rN)) (fun s22 => ?_)
              refine gSeq <| gSeq <| gReg <| R rfl (mv rfl) <| R rfl (mv rfl) <| R rfl (len' rfl .rd rfl Try.underlying22) <| R rfl (I.lss rfl rfl) <| gNil <| eThen <| gIf rfl rfl (fun h23 => ?_) (fun h23 => ?_)
              · skip
                refine gSkip <| eThen <| gMid (fun (s24 : (Vector (Vector Bool 5) 5)) aa ww => Sta (ctx 120 H [] w) [(0, .rd i64R a0), (1, .rd (sliceR R_api_Meet) a1), (7, .val (ptrTo v12 0)), (9, .rd i64R s22.2)] [(5, some (v12, .box 149 [.rd (arrR 5 (arrR 5 boolR)) s24]))] aa ww) ?_ (fun s24 => ?_)
                · skip
                  refine gBlk <| gSeq <| gReg <| R rfl (asg rfl) <| gNil <| eThen <| gLoop (fun (s25 : (Vector (Vector Bool 5) 5) × Int) aa ww => Sta (ctx 120 H [] w) [(0, .rd i64R a0), (1, .rd (sliceR R_api_Meet) a1), (7, .val (ptrTo v12 0)), (9, .rd i64R s22.2), (10, .rd i64R s25.2)] [(5, some (v12, .box 149 [.rd (arrR 5 (arrR 5 boolR)) s25.1]))] aa ww) (fun aa ww h => h.sub [5] (sS rfl <| sS rfl <| sS rfl <| sS rfl <| sS rfl <| sN) (rR rfl rfl <| rN)) (fun s25 => ?_)
                  refine gSeq <| gSeq <| gReg <| R rfl (mv rfl) <| R rfl (mv rfl) <| R rfl (I.lss rfl rfl) <| gNil <| eThen <| gIf rfl rfl (fun h26 => ?_) (fun h26 => ?_)
                  · skip
                    refine gSkip <| eThen <| gSeq <| gBlk <| gMid (fun (s27 : Bool) aa ww => Sta (ctx 120 H [] w) [(0, .rd i64R a0), (1, .rd (sliceR R_api_Meet) a1), (7, .val (ptrTo v12 0)), (9, .rd i64R s22.2), (10, .rd i64R s25.2), (11, .rd boolR s27)] [(5, some (v12, .box 149 [.rd (arrR 5 (arrR 5 boolR)) s25.1]))] aa ww) ?_ (fun s27 => ?_)
                    · skip
                      refine gReg <| R rfl (mv rfl) <| R rfl (mv rfl) <| lBind fun x28 h29 => R rfl (ixR rfl rfl h29 Try.underlying22 ti145 rfl) <| R rfl (faR rfl (pt_api_Meet_A _) Try.underlying145 rfl rfl (by exact ti3)) <| R rfl (ldR rfl ty3) <| R rfl (mv rfl) <| lBind fun x30 h31 => R rfl (ixB 5 rfl rfl rfl h31 Try.underlying149 ti148) <| lBind fun x32 h33 => R rfl (ixB 5 rfl rfl rfl h33 Try.underlying148 ti4) <| R rfl (ld 5 rfl rfl (((Foc.here).part (.el h31)).part (.el h33)) ty4 rfl) <| R rfl (mv rfl) <| lSplit 67 rfl (fun h34 => ?_) (fun h34 => ?_)
                      · skip
                        refine lKn 66 rfl h34 <| lSkip (gd rfl rfl rfl rfl) rfl rfl <| lSkip (gd rfl rfl rfl rfl) rfl rfl <| lSkip (gd rfl rfl rfl rfl) rfl rfl <| lSkip (gd rfl rfl rfl rfl) rfl rfl <| lSkip (gd rfl rfl rfl rfl) rfl rfl <| lSkip (gd rfl rfl rfl rfl) rfl rfl <| lSkip (gd rfl rfl rfl rfl) rfl rfl <| lSkip (gd rfl rfl rfl rfl) rfl rfl <| lSkip (gd rfl rfl rfl rfl) rfl rfl <| R rfl (pkT rfl rfl) <| R rfl (asg rfl) <| gNil <| eMid (fun aa ww h => h.sub [5] (sS rfl <| sS rfl <| sS rfl <| sS rfl <| sS rfl <| sS rfl <| sN) (rR rfl rfl <| rN))
                      · skip
                        refine lKn 66 rfl h34 <| lRun (gd rfl rfl rfl rfl) rfl rfl (mv rfl) <| lRun (gd rfl rfl rfl rfl) rfl rfl (mv rfl) <| lBind fun x35 h36 => lRun (gd rfl rfl rfl rfl) rfl rfl (ixR rfl rfl h36 Try.underlying22 ti145 rfl) <| lRun (gd rfl rfl rfl rfl) rfl rfl (faR rfl (pt_api_Meet_B _) Try.underlying145 rfl rfl (by exact ti3)) <| lRun (gd rfl rfl rfl rfl) rfl rfl (ldR rfl ty3) <| lRun (gd rfl rfl rfl rfl) rfl rfl (mv rfl) <| lBind fun x37 h38 => lRun (gd rfl rfl rfl rfl) rfl rfl (ixB 5 rfl rfl rfl h38 Try.underlying149 ti148) <| lBind fun x39 h40 => lRun (gd rfl rfl rfl rfl) rfl rfl (ixB 5 rfl rfl rfl h40 Try.underlying148 ti4) <| lRun (gd rfl rfl rfl rfl) rfl rfl (ld 5 rfl rfl (((Foc.here).part (.el h38)).part (.el h40)) ty4 rfl) <| R rfl (pkF rfl rfl) <| R rfl (asg rfl) <| gNil <| eMid (fun aa ww h => h.sub [5] (sS rfl <| sS rfl <| sS rfl <| sS rfl <| sS rfl <| sS rfl <| sN) (rR rfl rfl <| rN))
                    · skip
                      refine gRegH [5] mixed rfl rfl <| hTake 0 rfl (by kernel_rfl) (by kernel_rfl) (by kernel_rfl) (gd0 rfl) rfl rfl (mv rfl) <| hTake 1 rfl (by kernel_rfl) (by kernel_rfl) (by kernel_rfl) (gd0 rfl) rfl rfl (mv rfl) <| hBind fun x41 h42 => hTake 2 rfl (by kernel_rfl) (by kernel_rfl) (by kernel_rfl) (gd0 rfl) rfl rfl (ixR rfl rfl h42 Try.underlying22 ti145 rfl) <| hTake 3 rfl (by kernel_rfl) (by kernel_rfl) (by kernel_rfl) (gd0 rfl) rfl rfl (faR rfl (pt_api_Meet_A _) Try.underlying145 rfl rfl (by exact ti3)) <| hTake 4 rfl (by kernel_rfl) (by kernel_rfl) (by kernel_rfl) (gd0 rfl) rfl rfl (ldR rfl ty3) <| hTake 5 rfl (by kernel_rfl) (by kernel_rfl) (by kernel_rfl) (gd0 rfl) rfl rfl (mv rfl) <| hTake 6 rfl (by kernel_rfl) (by kernel_rfl) (by kernel_rfl) (gd0 rfl) rfl rfl (mv rfl) <| hTake 7 rfl (by kernel_rfl) (by kernel_rfl) (by kernel_rfl) (gd0 rfl) rfl rfl (mv rfl) <| hBind fun x43 h44 => hTake 8 rfl (by kernel_rfl) (by kernel_rfl) (by kernel_rfl) (gd0 rfl) rfl rfl (ixR rfl rfl h44 Try.underlying22 ti145 rfl) <| hTake 9 rfl (by kernel_rfl) (by kernel_rfl) (by kernel_rfl) (gd0 rfl) rfl rfl (faR rfl (pt_api_Meet_B _) Try.underlying145 rfl rfl (by exact ti3)) <| hTake 10 rfl (by kernel_rfl) (by kernel_rfl) (by kernel_rfl) (gd0 rfl) rfl rfl (ldR rfl ty3) <| hTake 11 rfl (by kernel_rfl) (by kernel_rfl) (by kernel_rfl) (gd0 rfl) rfl rfl (mv rfl) <| hTake 12 rfl (by kernel_rfl) (by kernel_rfl) (by kernel_rfl) (gd0 rfl) rfl rfl (mv rfl) <| hTake 13 rfl (by kernel_rfl) (by kernel_rfl) (by kernel_rfl) (gd0 rfl) rfl rfl (mv rfl) <| hBind fun x45 h46 => hTake 14 rfl (by kernel_rfl) (by kernel_rfl) (by kernel_rfl) (gd0 rfl) rfl rfl (ixB 5 rfl rfl rfl h46 Try.underlying149 ti148) <| hBind fun x47 h48 => hTake 15 rfl (by kernel_rfl) (by kernel_rfl) (by kernel_rfl) (gd0 rfl) rfl rfl (ixB 5 rfl rfl rfl h48 Try.underlying148 ti4) <| hBind fun x49 h50 => hTake 17 rfl (by kernel_rfl) (by kernel_rfl) (by kernel_rfl) (gd0 rfl) rfl rfl (ixB 5 rfl rfl rfl h50 Try.underlying149 ti148) <| hDoS 16 rfl (by kernel_rfl) (gd0 rfl) rfl rfl rfl rfl (sto 5 rfl rfl (((Foc.here).part (.el h46)).part (.el h48)) rfl ti4) <| hBind fun x51 h52 => hBind fun x53 h54 => hTakeF 18 rfl (by kernel_rfl) (by kernel_rfl) (by kernel_rfl) (gd0 rfl) rfl rfl flat_val (ixB 5 rfl rfl rfl h54 Try.underlying148 ti4) <| hBind fun x55 h56 => hBind fun x57 h58 => hDoS 19 rfl (by kernel_rfl) (gd0 rfl) rfl rfl rfl rfl (sto 5 rfl rfl (((Foc.here).part (.el h56)).part (.el h58)) rfl ti4) <| hDone (by kernel_rfl) <| eBlk <| eThen <| gReg <| R rfl (mv rfl) <| R rfl (I.add rfl rfl) <| R rfl (asg rfl) <| lName 10 rfl fun y59 => gNil <| eNext (fun aa ww h => h.sub [5] (sS rfl <| sS rfl <| sS rfl <| sS rfl <| sS rfl <| sN) (rR rfl rfl <| rN))
                  · skip
                    refine gExit <| eTexit <| eLeave <| eBlk <| eMid (fun aa ww h => h.sub [5] (sS rfl <| sS rfl <| sS rfl <| sS rfl <| sN) (rR rfl rfl <| rN))
                · skip
                  refine gReg <| R rfl (mv rfl) <| R rfl (I.add rfl rfl) <| R rfl (asg rfl) <| lName 9 rfl fun y60 => gNil <| eNext (fun aa ww h => h.sub [5] (sS rfl <| sS rfl <| sS rfl <| sS rfl <| sN) (rR rfl rfl <| rN))
              · skip
                refine gExit <| eTexit <| eLeave <| eMid (fun aa ww h => h.sub [5] (sS rfl <| sS rfl <| sN) (rR rfl rfl <| rN))
            · skip
              refine gSeq <| gReg <| R rfl (asg rfl) <| gNil <| eThen <| gMid (fun (s61 : (List (List Int))) aa ww => ∃ nv : Nat → Value, Sta (ctx 120 H [] w) [(12, .val (nv 0))] [(13, some ((nv 0), .list (sliceR i64R) 147 s61))] aa ww) ?_ (fun s61 => ?_)
              · skip
                refine gSeq <| gReg <| R rfl (asg rfl) <| gNil <| eThen <| gNew (sliceR i64R) 147 22 <| gLoop (fun (s62 : (List (List Int)) × Int) aa ww => ∃ nv : Nat → Value, Sta (ctx 120 H [] w) [(0, .rd i64R a0), (7, .val (ptrTo v12 0)), (12, .val (nv 0)), (13, .rd i64R s62.2)] [(5, some (v12, .box 149 [.rd (arrR 5 (arrR 5 boolR)) s21])), (21, some ((nv 0), .list (sliceR i64R) 147 s62.1))] aa ww) (fun aa ww h => ⟨nvl [(.slice none 0 0)], h.sub [5, 22] (sS rfl <| sS rfl <| sS rfl <| sS rfl <| sN) (rR rfl rfl <| rR rfl rfl <| rN)⟩) (fun s62 => ?_)
                refine gEx fun n63 => gSeq <| gSeq <| gReg <| R rfl (mv rfl) <| R rfl (mv rfl) <| R rfl (I.lss rfl rfl) <| gNil <| eThen <| gIf rfl rfl (fun h64 => ?_) (fun h64 => ?_)
                · skip
                  refine gSkip <| eThen <| gSeq <| gBlk <| gSeq <| gReg <| R rfl (asg rfl) <| gNil <| eThen <| gMid (fun (s65 : (List Int)) aa ww => ∃ nv : Nat → Value, Sta (ctx 120 H [] w) [(0, .rd i64R a0), (7, .val (ptrTo v12 0)), (12, .val (n63 0)), (13, .rd i64R s62.2), (14, .val (nv 0))] [(5, some (v12, .box 149 [.rd (arrR 5 (arrR 5 boolR)) s21])), (21, some ((n63 0), .list (sliceR i64R) 147 s62.1)), (24, some ((nv 0), .list i64R 3 s65))] aa ww) ?_ (fun s65 => ?_)
                  · skip
                    refine gSeq <| gReg <| R rfl (asg rfl) <| gNil <| eThen <| gNew i64R 3 27 <| gLoop (fun (s66 : (List Int) × Int) aa ww => ∃ nv : Nat → Value, Sta (ctx 120 H [] w) [(0, .rd i64R a0), (7, .val (ptrTo v12 0)), (12, .val (n63 0)), (13, .rd i64R s62.2), (14, .val (nv 0)), (15, .rd i64R s66.2)] [(5, some (v12, .box 149 [.rd (arrR 5 (arrR 5 boolR)) s21])), (21, some ((n63 0), .list (sliceR i64R) 147 s62.1)), (26, some ((nv 0), .list i64R 3 s66.1))] aa ww) (fun aa ww h => ⟨nvl [(.slice none 0 0)], h.sub [5, 21, 27] (sS rfl <| sS rfl <| sS rfl <| sS rfl <| sS rfl <| sS rfl <| sN) (rR rfl rfl <| rR rfl rfl <| rR rfl rfl <| rN)⟩) (fun s66 => ?_)
                    refine gEx fun n67 => gSeq <| gSeq <| gReg <| R rfl (mv rfl) <| R rfl (mv rfl) <| R rfl (I.lss rfl rfl) <| gNil <| eThen <| gIf rfl rfl (fun h68 => ?_) (fun h68 => ?_)
                    · skip
                      refine gSkip <| eThen <| gSeq <| gBlk <| gSeq <| gReg <| R rfl (mv rfl) <| R rfl (mv rfl) <| lBind fun x69 h70 => R rfl (ixB 5 rfl rfl rfl h70 Try.underlying149 ti148) <| lBind fun x71 h72 => R rfl (ixB 5 rfl rfl rfl h72 Try.underlying148 ti4) <| R rfl (ld 5 rfl rfl (((Foc.here).part (.el h70)).part (.el h72)) ty4 rfl) <| gNil <| eThen <| gIf rfl rfl (fun h73 => ?_) (fun h73 => ?_)
                      · skip
                        refine gReg <| R rfl (mv rfl) <| R rfl (mv rfl) <| Ef rfl (lit ([s66.2] : List Int) 28 (pP rfl rfl <| pN) rfl Try.underlying147 ti3 rfl rfl) fun v74 => lBind fun x75 h76 => Ef rfl (apn 26 rfl rfl rfl (.own 28 rfl) h76 Try.underlying147 ti3 rfl rfl rfl) fun v77 => R rfl (asg rfl) <| gNil <| eBlk <| eThen <| gReg <| R rfl (mv rfl) <| R rfl (I.add rfl rfl) <| R rfl (asg rfl) <| lName 15 rfl fun y78 => gNil <| eNext (fun aa ww h => ⟨nvl [v77], h.sub [5, 21, 26] (sS rfl <| sS rfl <| sS rfl <| sS rfl <| sS rfl <| sS rfl <| sN) (rR rfl rfl <| rR rfl rfl <| rR rfl rfl <| rN)⟩)
                      · skip
                        refine gSkip <| eBlk <| eThen <| gReg <| R rfl (mv rfl) <| R rfl (I.add rfl rfl) <| R rfl (asg rfl) <| lName 15 rfl fun y79 => gNil <| eNext (fun aa ww h => ⟨nvl [(n67 0)], h.sub [5, 21, 26] (sS rfl <| sS rfl <| sS rfl <| sS rfl <| sS rfl <| sS rfl <| sN) (rR rfl rfl <| rR rfl rfl <| rR rfl rfl <| rN)⟩)
                    · skip
                      refine gExit <| eTexit <| eLeave <| eMid (fun aa ww h => ⟨nvl [(n67 0)], h.sub [5, 21, 26] (sS rfl <| sS rfl <| sS rfl <| sS rfl <| sS rfl <| sN) (rR rfl rfl <| rR rfl rfl <| rR rfl rfl <| rN)⟩)
                  · skip
                    refine gEx fun n80 => gReg <| R rfl (mv rfl) <| R rfl (mv rfl) <| lFrz 24 116 rfl rfl <| Ef rfl (lit ([s65] : List (List Int)) 29 (pP rfl rfl <| pN) rfl Try.underlying23 ti147 rfl rfl) fun v81 => lFrz 29 117 rfl rfl <| lBind fun x82 h83 => Ef rfl (apn 21 rfl rfl rfl .rd h83 Try.underlying23 ti147 rfl rfl rfl) fun v84 => R rfl (asg rfl) <| gNil <| eBlk <| eThen <| gReg <| R rfl (mv rfl) <| R rfl (I.add rfl rfl) <| R rfl (asg rfl) <| lName 13 rfl fun y85 => gNil <| eNext (fun aa ww h => ⟨nvl [v84], h.sub [5, 21] (sS rfl <| sS rfl <| sS rfl <| sS rfl <| sN) (rR rfl rfl <| rR rfl rfl <| rN)⟩)
                · skip
                  refine gExit <| eTexit <| eLeave <| eMid (fun aa ww h => ⟨nvl [(n63 0)], h.sub [21] (sS rfl <| sN) (rR rfl rfl <| rN)⟩)
              · skip
                refine gEx fun n86 => gSeq <| gReg <| R rfl (mv rfl) <| R rfl (asg rfl) <| R rfl (asg rfl) <| gNil <| eThen <| gRet <| eRet [(n86 0)] [13] rfl (eE rfl <| eE rfl <| eN) (rR rfl rfl <| rN)

def braidref38_SameInts_L2 (a0 : List (List Int)) (a1 : List (List Int)) (s3 : Int) (s11 : Int) : Option (Sum (Sum (Sum (Sum Bool Unit) Int) Unit) Int) :=
  idx a0 s3 >>= fun x12 =>
  if decide (s11 < (x12.length : Int)) then
    idx a0 s3 >>= fun x15 =>
    idx x15 s11 >>= fun x17 =>
    idx a1 s3 >>= fun x19 =>
    idx x19 s11 >>= fun x21 =>
    if x17 != x21 then
      some (.inl (.inl (.inl (.inl false))))
    else
      some (w64 (s11 + 1)) >>= fun y24 =>
      some (.inr y24)
  else
    some (.inl (.inr ()))
def braidref38_SameInts_L0 (a0 : List (List Int)) (a1 : List (List Int)) (s3 : Int) : Option (Sum (Sum Bool Unit) Int) :=
  if decide (s3 < (a0.length : Int)) then
    orRet (idx a0 s3 >>= fun x6 =>
    idx a1 s3 >>= fun x8 =>
    if (x6.length : Int) != (x8.length : Int) then
      some (.inl (.inl (.inl false)))
    else
      iter (braidref38_SameInts_L2 a0 a1 s3) 0) fun s5 =>
    some (.inr (w64 (s3 + 1)))
  else
    some (.inl (.inr ()))
def braidref38_SameInts (a0 : List (List Int)) (a1 : List (List Int)) : Option (Bool) :=
  if (a0.length : Int) != (a1.length : Int) then
    some false
  else
    orRet (iter (braidref38_SameInts_L0 a0 a1) 0) fun s2 =>
    some true
set_option maxRecDepth 100000 in
theorem braidref38_SameInts_ok (a0 : List (List Int)) (a1 : List (List Int)) : Spec Try.prog 25 [.rd (sliceR (sliceR i64R)) a0, .rd (sliceR (sliceR i64R)) a1] [] (braidref38_SameInts a0 a1) (fun r nv => ⟨[.rd boolR r], []⟩) := by
  refine spec 53 Try.func25 rfl rfl rfl fun H w => ?_
  refine gSeq <| gReg <| R rfl (asg rfl) <| gNil <| eThen <| gSeq <| gSeq <| gReg <| R rfl (mv rfl) <| R rfl (len' rfl .rd rfl Try.underlying23) <| R rfl (mv rfl) <| R rfl (len' rfl .rd rfl Try.underlying23) <| R rfl (I.neq rfl rfl) <| gNil <| eThen <| gIf rfl rfl (fun h1 => ?_) (fun h1 => ?_)
  · skip
    refine gSeq <| gReg <| R rfl (asg rfl) <| gNil <| eThen <| gRet <| eTret <| eRet [] [] rfl (eE rfl <| eN) (rN)
  · skip
    refine gSkip <| eThen <| gMidR (fun (s2 : Unit) aa ww => Sta (ctx 53 H [] w) [] [] aa ww) ?_ (fun s2 => ?_)
    · skip
      refine gSeq <| gReg <| R rfl (asg rfl) <| gNil <| eThen <| gLoop (fun (s3 : Int) aa ww => Sta (ctx 53 H [] w) [(0, .rd (sliceR (sliceR i64R)) a0), (1, .rd (sliceR (sliceR i64R)) a1), (5, .rd i64R s3)] [] aa ww) (fun aa ww h => h.sub [] (sS rfl <| sS rfl <| sS rfl <| sN) (rN)) (fun s3 => ?_)
      refine gSeq <| gSeq <| gReg <| R rfl (mv rfl) <| R rfl (mv rfl) <| R rfl (len' rfl .rd rfl Try.underlying23) <| R rfl (I.lss rfl rfl) <| gNil <| eThen <| gIf rfl rfl (fun h4 => ?_) (fun h4 => ?_)
      · skip
        refine gSkip <| eThen <| gMidR (fun (s5 : Unit) aa ww => Sta (ctx 53 H [] w) [(0, .rd (sliceR (sliceR i64R)) a0), (1, .rd (sliceR (sliceR i64R)) a1), (5, .rd i64R s3)] [] aa ww) ?_ (fun s5 => ?_)
        · skip
          refine gBlk <| gSeq <| gSeq <| gRegQ mixed (by kernel_rfl) <| Rq rfl (mv rfl) <| Rq rfl (mv rfl) <| qBind fun x6 h7 => Rq rfl (ixR rfl rfl h7 Try.underlying23 ti147 rfl) <| Rq rfl (ldR rfl ty147) <| Rq rfl (len' rfl .rd rfl Try.underlying147) <| Rq rfl (mv rfl) <| Rq rfl (mv rfl) <| qBind fun x8 h9 => Rq rfl (ixR rfl rfl h9 Try.underlying23 ti147 rfl) <| Rq rfl (ldR rfl ty147) <| Rq rfl (len' rfl .rd rfl Try.underlying147) <| Rq rfl (I.neq rfl rfl) <| qNil <| eThen <| gIf rfl rfl (fun h10 => ?_) (fun h10 => ?_)
          · skip
            refine gSeq <| gReg <| R rfl (asg rfl) <| gNil <| eThen <| gRet <| eTret <| eBret <| eMret <| eLret <| eMret <| eRet [] [] rfl (eE rfl <| eN) (rN)
          · skip
            refine gSkip <| eThen <| gSeq <| gReg <| R rfl (asg rfl) <| gNil <| eThen <| gLoop (fun (s11 : Int) aa ww => Sta (ctx 53 H [] w) [(0, .rd (sliceR (sliceR i64R)) a0), (1, .rd (sliceR (sliceR i64R)) a1), (5, .rd i64R s3), (6, .rd i64R s11)] [] aa ww) (fun aa ww h => h.sub [] (sS rfl <| sS rfl <| sS rfl <| sS rfl <| sN) (rN)) (fun s11 => ?_)
            refine gSeq <| gSeq <| gReg <| R rfl (mv rfl) <| R rfl (mv rfl) <| R rfl (mv rfl) <| lBind fun x12 h13 => R rfl (ixR rfl rfl h13 Try.underlying23 ti147 rfl) <| R rfl (ldR rfl ty147) <| R rfl (len' rfl .rd rfl Try.underlying147) <| R rfl (I.lss rfl rfl) <| gNil <| eThen <| gIf rfl rfl (fun h14 => ?_) (fun h14 => ?_)
            · skip
              refine gSkip <| eThen <| gSeq <| gBlk <| gSeq <| gRegQ mixed (by kernel_rfl) <| Rq rfl (mv rfl) <| Rq rfl (mv rfl) <| qBind fun x15 h16 => Rq rfl (ixR rfl rfl h16 Try.underlying23 ti147 rfl) <| Rq rfl (ldR rfl ty147) <| Rq rfl (mv rfl) <| qBind fun x17 h18 => Rq rfl (ixR rfl rfl h18 Try.underlying147 ti3 rfl) <| Rq rfl (ldR rfl ty3) <| Rq rfl (mv rfl) <| Rq rfl (mv rfl) <| qBind fun x19 h20 => Rq rfl (ixR rfl rfl h20 Try.underlying23 ti147 rfl) <| Rq rfl (ldR rfl ty147) <| Rq rfl (mv rfl) <| qBind fun x21 h22 => Rq rfl (ixR rfl rfl h22 Try.underlying147 ti3 rfl) <| Rq rfl (ldR rfl ty3) <| Rq rfl (I.neq rfl rfl) <| qNil <| eThen <| gIf rfl rfl (fun h23 => ?_) (fun h23 => ?_)
              · skip
                refine gSeq <| gReg <| R rfl (asg rfl) <| gNil <| eThen <| gRet <| eBret <| eTret <| eLret <| eBret <| eMret <| eLret <| eMret <| eRet [] [] rfl (eE rfl <| eN) (rN)
              · skip
                refine gSkip <| eBlk <| eThen <| gReg <| R rfl (mv rfl) <| R rfl (I.add rfl rfl) <| R rfl (asg rfl) <| lName 6 rfl fun y24 => gNil <| eNext (fun aa ww h => h.sub [] (sS rfl <| sS rfl <| sS rfl <| sS rfl <| sN) (rN))
            · skip
              refine gExit <| eTexit <| eLeave <| eBlk <| eMidR (fun aa ww h => h.sub [] (sS rfl <| sS rfl <| sS rfl <| sN) (rN))
        · skip
          refine gReg <| R rfl (mv rfl) <| R rfl (I.add rfl rfl) <| R rfl (asg rfl) <| gNil <| eNext (fun aa ww h => h.sub [] (sS rfl <| sS rfl <| sS rfl <| sN) (rN))
      · skip
        refine gExit <| eTexit <| eLeave <| eMidR (fun aa ww h => h.sub [] (sN) (rN))
    · skip
      refine gSeq <| gReg <| R rfl (asg rfl) <| gNil <| eThen <| gRet <| eRet [] [] rfl (eE rfl <| eN) (rN)


def braidlaw38_GossipHears (a0 : Int) (a1 : List api_Meet) : Option (Bool) :=
  if decide (150 < (a1.length : Int)) then
    some true
  else
    gossip_Heard a0 a1 >>= fun r2 =>
    braidref38_Heard a0 a1 >>= fun r4 =>
    braidref38_SameInts r2.1 r4.1 >>= fun r6 =>
    if r6 then
      some (r2.2 == r4.2)
    else
      some false
set_option maxRecDepth 100000 in
theorem braidlaw38_GossipHears_ok (a0 : Int) (a1 : List api_Meet) : Spec Try.prog 3 [.rd i64R a0, .rd (sliceR R_api_Meet) a1] [] (braidlaw38_GossipHears a0 a1) (fun r nv => ⟨[.rd boolR r], []⟩) := by
  refine spec 32 Try.func3 rfl rfl rfl fun H w => ?_
  refine gSeq <| gReg <| R rfl (asg rfl) <| gNil <| eThen <| gSeq <| gSeq <| gReg <| R rfl (mv rfl) <| R rfl (len' rfl .rd rfl Try.underlying22) <| R rfl (I.gtr rfl rfl) <| gNil <| eThen <| gIf rfl rfl (fun h1 => ?_) (fun h1 => ?_)
  · skip
    refine gSeq <| gReg <| R rfl (asg rfl) <| gNil <| eThen <| gRet <| eTret <| eRet [] [] rfl (eE rfl <| eN) (rN)
  · skip
    refine gSkip <| eThen <| gSeq <| gReg <| R rfl (mv rfl) <| R rfl (mv rfl) <| call [] [(0, 1)] rfl Try.func23 rfl rfl (gossip_Heard_ok _ _) (aQ rfl <| aQ rfl <| aN) rN fun r2 n3 => R rfl (mv rfl) <| R rfl (ext rfl rfl) <| R rfl (ext rfl rfl) <| R rfl (asg rfl) <| R rfl (asg rfl) <| gNil <| eThen <| gSeq <| gReg <| R rfl (mv rfl) <| R rfl (mv rfl) <| call [] [(0, 2)] rfl Try.func24 rfl rfl (braidref38_Heard_ok _ _) (aQ rfl <| aQ rfl <| aN) rN fun r4 n5 => R rfl (mv rfl) <| R rfl (ext rfl rfl) <| R rfl (ext rfl rfl) <| R rfl (asg rfl) <| R rfl (asg rfl) <| gNil <| eThen <| gSeq <| gReg <| R rfl (mv rfl) <| R rfl (mv rfl) <| lFrz 1 24 rfl rfl <| lFrz 2 25 rfl rfl <| call [] [] rfl Try.func25 rfl rfl (braidref38_SameInts_ok _ _) (aQ rfl <| aQ rfl <| aN) rN fun r6 n7 => R rfl (mv rfl) <| lSplit 27 rfl (fun h8 => ?_) (fun h8 => ?_)
    · skip
      refine lKn 26 rfl h8 <| lRun (gd rfl rfl rfl rfl) rfl rfl (mv rfl) <| lRun (gd rfl rfl rfl rfl) rfl rfl (mv rfl) <| lRun (gd rfl rfl rfl rfl) rfl rfl (I.eql rfl rfl) <| R rfl (pkT rfl rfl) <| R rfl (asg rfl) <| gNil <| eThen <| gRet <| eRet [] [] rfl (eE rfl <| eN) (rN)
    · skip
      refine lKn 26 rfl h8 <| lSkip (gd rfl rfl rfl rfl) rfl rfl <| lSkip (gd rfl rfl rfl rfl) rfl rfl <| lSkip (gd rfl rfl rfl rfl) rfl rfl <| R rfl (pkF rfl rfl) <| R rfl (asg rfl) <| gNil <| eThen <| gRet <| eRet [] [] rfl (eE rfl <| eN) (rN)

end Go.Proofs.Ytklfgpdfongaeaa
