import Derived.Test.YtjnheeekdadcpaaGreatDoorFc
namespace Go.Proofs.YtjnheeekdadcpaaGreatDoor
open Go Go.RowKit
set_option maxRecDepth 100000
set_option linter.unusedSimpArgs false
set_option linter.unusedVariables false
theorem braidref01_Ground_ok (a0 : Vector UInt32 8) (a1 : List UInt8) : Spec Tryz.prog 141 [.rd (arrR 8 u32R) a0, .rd (sliceR u8R) a1] [] (braidref01_Ground a0 a1) (fun r nv => ⟨[.rd (arrR 8 u32R) r], []⟩) := by
 refine spec 203 Tryz.func141 rfl rfl rfl fun H w => ?_
 refine gSR <| Eb rfl (bx 1 rfl) fun v1 => Eb rfl (allc 2 ti141 (.zr (R := (arrR 8 u32R)) (x := (Vector.replicate 8 0)) zr141)) fun v2 => gNil <| eThen <| gSR <| R rfl (asg rfl) <| gNil <| eThen <| gMid (fun (s3 : (List UInt32)) aa ww => ∃ nv : Nat → Value, Sta (ctx 203 H [] w) [(2, .val (ptrTo v1 0)), (4, .val (ptrTo v2 0)), (5, .val (nv 0))] [(1, some (v1, .box 141 [.rd (arrR 8 u32R) a0])), (2, some (v2, .box 141 [.rd (arrR 8 u32R) (Vector.replicate 8 0)])), (108, some ((nv 0), .list u32R 56 s3))] aa ww) ?_ (fun s3 => ?_)
 ·
  refine gSR <| R rfl (asg rfl) <| gNil <| eThen <| gNew u32R 56 215 <| gLoop (fun (s4 : (List UInt32) × Int) aa ww => ∃ nv : Nat → Value, Sta (ctx 203 H [] w) [(1, .rd (sliceR u8R) a1), (2, .val (ptrTo v1 0)), (4, .val (ptrTo v2 0)), (5, .val (nv 0)), (6, .rd i64R s4.2)] [(1, some (v1, .box 141 [.rd (arrR 8 u32R) a0])), (2, some (v2, .box 141 [.rd (arrR 8 u32R) (Vector.replicate 8 0)])), (214, some ((nv 0), .list u32R 56 s4.1))] aa ww) (fun aa ww h => ⟨nvl [(.slice none 0 0)], h.sub [1, 2, 215] (sS rfl <| sS rfl <| sS rfl <| sS rfl <| sS rfl <| sN) (rR rfl rfl <| rR rfl rfl <| rR rfl rfl <| rN)⟩) (fun s4 => ?_)
  refine gEx fun n5 => gSeq <| gSR <| R rfl (mv rfl) <| R rfl (I.lss rfl rfl) <| gNil <| eThen <| gIf rfl rfl (fun h6 => ?_) (fun h6 => ?_)
  ·
   refine gSkip <| eThen <| gSeq <| gBlk <| gRegH [214, 318] mixed rfl rfl <| hTk 0 rfl rfl (mv rfl) <| hTk 1 rfl rfl (mv rfl) <| hTk 2 rfl rfl (mv rfl) <| hTk 3 rfl rfl (I.mul rfl rfl) <| hBind fun x7 h8 => hTk 4 rfl rfl (ixR rfl rfl h8 Tryz.underlying103 ti5 rfl) <| hTk 5 rfl rfl (ldR rfl ty5) <| hTk 6 rfl rfl (B.toW rfl Tryz.underlying5 Tryz.underlying56) <| hTk 7 rfl rfl (W.mul rfl rfl) <| hTk 8 rfl rfl (mv rfl) <| hTk 9 rfl rfl (mv rfl) <| hTk 10 rfl rfl (I.mul rfl rfl) <| hTk 11 rfl rfl (I.add rfl rfl) <| hBind fun x9 h10 => hTk 12 rfl rfl (ixR rfl rfl h10 Tryz.underlying103 ti5 rfl) <| hTk 13 rfl rfl (ldR rfl ty5) <| hTk 14 rfl rfl (B.toW rfl Tryz.underlying5 Tryz.underlying56) <| hTk 15 rfl rfl (W.add rfl rfl) <| hTk 16 rfl rfl (W.mul rfl rfl) <| hTk 17 rfl rfl (mv rfl) <| hTk 18 rfl rfl (mv rfl) <| hTk 19 rfl rfl (I.mul rfl rfl) <| hTk 20 rfl rfl (I.add rfl rfl) <| hBind fun x11 h12 => hTk 21 rfl rfl (ixR rfl rfl h12 Tryz.underlying103 ti5 rfl) <| hTk 22 rfl rfl (ldR rfl ty5) <| hTk 23 rfl rfl (B.toW rfl Tryz.underlying5 Tryz.underlying56) <| hTk 24 rfl rfl (W.add rfl rfl) <| hTk 25 rfl rfl (W.mul rfl rfl) <| hTk 26 rfl rfl (mv rfl) <| hTk 27 rfl rfl (mv rfl) <| hTk 28 rfl rfl (I.mul rfl rfl) <| hTk 29 rfl rfl (I.add rfl rfl) <| hBind fun x13 h14 => hTk 30 rfl rfl (ixR rfl rfl h14 Tryz.underlying103 ti5 rfl) <| hTk 31 rfl rfl (ldR rfl ty5) <| hTk 32 rfl rfl (B.toW rfl Tryz.underlying5 Tryz.underlying56) <| hTk 33 rfl rfl (W.add rfl rfl) <| hDo 34 rfl (by kernel_rfl) (gd0 rfl) rfl rfl rfl (lit (R := u32R) ([(((((x7.toUInt32 * 256) + x9.toUInt32) * 256) + x11.toUInt32) * 256) + x13.toUInt32] : List UInt32) 318 (pP rfl rfl <| pN) rfl Tryz.underlying188 ti56 rfl rfl) (fun _ => rfl) fun v15 => hBind fun x16 h17 => hDo 35 rfl (by kernel_rfl) (gd0 rfl) rfl rfl rfl (apn 214 rfl rfl rfl (.own 318 rfl) h17 Tryz.underlying188 ti56 rfl rfl rfl) (fun _ => rfl) fun v18 => hTakeF 36 rfl (by kernel_rfl) (by kernel_rfl) (by kernel_rfl) (gd0 rfl) rfl rfl flat_val (asg rfl) <| hDone (by kernel_rfl) <| eBlk <| eThen <| gReg <| R rfl (mv rfl) <| R rfl (I.add rfl rfl) <| R rfl (asg rfl) <| lName 6 rfl fun y19 => gNil <| eNext (fun aa ww h => ⟨nvl [v18], h.sub [1, 2, 214] (sS rfl <| sS rfl <| sS rfl <| sS rfl <| sS rfl <| sN) (rR rfl rfl <| rR rfl rfl <| rR rfl rfl <| rN)⟩)
  ·
   refine gExit <| eTexit <| eLeave <| eMid (fun aa ww h => ⟨nvl [(n5 0)], h.sub [1, 2, 214] (sS rfl <| sS rfl <| sS rfl <| sN) (rR rfl rfl <| rR rfl rfl <| rR rfl rfl <| rN)⟩)
 ·
  refine gEx fun n20 => gMid (fun (s21 : (List UInt32)) aa ww => ∃ nv : Nat → Value, Sta (ctx 203 H [] w) [(2, .val (ptrTo v1 0)), (4, .val (ptrTo v2 0)), (5, .val (nv 0))] [(1, some (v1, .box 141 [.rd (arrR 8 u32R) a0])), (2, some (v2, .box 141 [.rd (arrR 8 u32R) (Vector.replicate 8 0)])), (108, some ((nv 0), .list u32R 56 s21))] aa ww) ?_ (fun s21 => ?_)
  ·
   refine gSR <| R rfl (asg rfl) <| gNil <| eThen <| gLoop (fun (s22 : (List UInt32) × Int) aa ww => ∃ nv : Nat → Value, Sta (ctx 203 H [] w) [(2, .val (ptrTo v1 0)), (4, .val (ptrTo v2 0)), (5, .val (nv 0)), (7, .rd i64R s22.2)] [(1, some (v1, .box 141 [.rd (arrR 8 u32R) a0])), (2, some (v2, .box 141 [.rd (arrR 8 u32R) (Vector.replicate 8 0)])), (108, some ((nv 0), .list u32R 56 s22.1))] aa ww) (fun aa ww h => ⟨nvl [(n20 0)], h.sub [1, 2, 108] (sS rfl <| sS rfl <| sS rfl <| sS rfl <| sN) (rR rfl rfl <| rR rfl rfl <| rR rfl rfl <| rN)⟩) (fun s22 => ?_)
   refine gEx fun n23 => gSeq <| gSR <| R rfl (mv rfl) <| R rfl (I.lss rfl rfl) <| gNil <| eThen <| gIf rfl rfl (fun h24 => ?_) (fun h24 => ?_)
   ·
    refine gSkip <| eThen <| gSeq <| gBlk <| gSeq <| gRegQ mixed (by kernel_rfl) <| Rq rfl (mv rfl) <| Rq rfl (mv rfl) <| Rq rfl (I.sub rfl rfl) <| qBind fun x25 h26 => Rq rfl (ixO 108 rfl rfl rfl h26 Tryz.underlying188 ti56) <| Rq rfl (ld 108 rfl rfl (Foc.el h26) ty56 rfl) <| Rq rfl (mv rfl) <| Rq rfl (mv rfl) <| Rq rfl (I.sub rfl rfl) <| qBind fun x27 h28 => Rq rfl (ixO 108 rfl rfl rfl h28 Tryz.underlying188 ti56) <| Rq rfl (ld 108 rfl rfl (Foc.el h28) ty56 rfl) <| Rq rfl (asg rfl) <| Rq rfl (asg rfl) <| qNil <| eThen <| gRegH [108, 420] mixed rfl rfl <| hTk 0 rfl rfl (mv rfl) <| hTk 1 rfl rfl (mv rfl) <| hTk 2 rfl rfl (mv rfl) <| hTk 3 rfl rfl (I.sub rfl rfl) <| hBind fun x29 h30 => hTk 4 rfl rfl (ixO 108 rfl rfl rfl h30 Tryz.underlying188 ti56) <| hTk 6 rfl rfl (mv rfl) <| hTk 7 rfl rfl (mv rfl) <| hTk 8 rfl rfl (I.sub rfl rfl) <| hBind fun x31 h32 => hTk 9 rfl rfl (ixO 108 rfl rfl rfl h32 Tryz.underlying188 ti56) <| hTk 12 rfl rfl (mv rfl) <| hTk 14 rfl rfl (mv rfl) <| hTk 17 rfl rfl (mv rfl) <| hTk 18 rfl rfl (W.shr rfl rfl (Int.natCast_nonneg _)) <| hTk 21 rfl rfl (mv rfl) <| hTk 23 rfl rfl (mv rfl) <| hTk 26 rfl rfl (mv rfl) <| hTk 27 rfl rfl (W.shr rfl rfl (Int.natCast_nonneg _)) <| hAlt [5, 10, 13] (by kernel_rfl) rfl ⟨?_, ?_, ?_, trivial⟩
    ·
     refine oRun 5 rfl (gd0 rfl) rfl rfl flat_num (ld 108 rfl rfl (Foc.el h30) ty56 rfl) <| hAlt [10, 13] (by kernel_rfl) rfl ⟨?_, ?_, trivial⟩
     ·
      refine oRun 10 rfl (gd0 rfl) rfl rfl flat_num (ld 108 rfl rfl (Foc.el h32) ty56 rfl) <| hTk 11 rfl rfl (W.add rfl rfl) <| hCallF 13 [] [] rfl (by kernel_rfl) rfl (gd0 rfl) rfl Tryz.func159 rfl rfl (braidref01_turn_ok _ _) (aQ rfl <| aQ rfl <| aN) rN rfl (fun _ _ => flat_num) fun r33 n34 => hCallF 15 [] [] rfl (by kernel_rfl) rfl (gd0 rfl) rfl Tryz.func159 rfl rfl (braidref01_turn_ok _ _) (aQ rfl <| aQ rfl <| aN) rN rfl (fun _ _ => flat_num) fun r35 n36 => hTk 16 rfl rfl (W.xor rfl rfl) <| hTk 19 rfl rfl (W.xor rfl rfl) <| hTk 20 rfl rfl (W.add rfl rfl) <| hCallF 22 [] [] rfl (by kernel_rfl) rfl (gd0 rfl) rfl Tryz.func159 rfl rfl (braidref01_turn_ok _ _) (aQ rfl <| aQ rfl <| aN) rN rfl (fun _ _ => flat_num) fun r37 n38 => hCallF 24 [] [] rfl (by kernel_rfl) rfl (gd0 rfl) rfl Tryz.func159 rfl rfl (braidref01_turn_ok _ _) (aQ rfl <| aQ rfl <| aN) rN rfl (fun _ _ => flat_num) fun r39 n40 => hTk 25 rfl rfl (W.xor rfl rfl) <| hTk 28 rfl rfl (W.xor rfl rfl) <| hTk 29 rfl rfl (W.add rfl rfl) <| hDo 30 rfl (by kernel_rfl) (gd0 rfl) rfl rfl rfl (lit (R := u32R) ([((x29 + x31) + ((r33 ^^^ r35) ^^^ (shr32 x25 3))) + ((r37 ^^^ r39) ^^^ (shr32 x27 10))] : List UInt32) 420 (pP rfl rfl <| pN) rfl Tryz.underlying188 ti56 rfl rfl) (fun _ => rfl) fun v41 => hBind fun x42 h43 => hDo 31 rfl (by kernel_rfl) (gd0 rfl) rfl rfl rfl (apn 108 rfl rfl rfl (.own 420 rfl) h43 Tryz.underlying188 ti56 rfl rfl rfl) (fun _ => rfl) fun v44 => hTakeF 32 rfl (by kernel_rfl) (by kernel_rfl) (by kernel_rfl) (gd0 rfl) rfl rfl flat_val (asg rfl) <| hDone (by kernel_rfl) <| eBlk <| eThen <| gReg <| R rfl (mv rfl) <| R rfl (I.add rfl rfl) <| R rfl (asg rfl) <| lName 7 rfl fun y45 => gNil <| eNext (fun aa ww h => ⟨nvl [v44], h.sub [1, 2, 108] (sS rfl <| sS rfl <| sS rfl <| sS rfl <| sN) (rR rfl rfl <| rR rfl rfl <| rR rfl rfl <| rN)⟩)
     ·
      refine oCallF 13 [] [] rfl rfl (gd0 rfl) rfl Tryz.func159 rfl rfl (braidref01_turn_ok _ _) (aQ rfl <| aQ rfl <| aN) rN rfl (fun _ _ => flat_num) fun r46 n47 => hAlt [10, 15] (by kernel_rfl) rfl ⟨?_, ?_, trivial⟩
      ·
       refine oRun 10 rfl (gd0 rfl) rfl rfl flat_num (ld 108 rfl rfl (Foc.el h32) ty56 rfl) <| hTk 11 rfl rfl (W.add rfl rfl) <| hCallF 15 [] [] rfl (by kernel_rfl) rfl (gd0 rfl) rfl Tryz.func159 rfl rfl (braidref01_turn_ok _ _) (aQ rfl <| aQ rfl <| aN) rN rfl (fun _ _ => flat_num) fun r48 n49 => hTk 16 rfl rfl (W.xor rfl rfl) <| hTk 19 rfl rfl (W.xor rfl rfl) <| hTk 20 rfl rfl (W.add rfl rfl) <| hCallF 22 [] [] rfl (by kernel_rfl) rfl (gd0 rfl) rfl Tryz.func159 rfl rfl (braidref01_turn_ok _ _) (aQ rfl <| aQ rfl <| aN) rN rfl (fun _ _ => flat_num) fun r50 n51 => hCallF 24 [] [] rfl (by kernel_rfl) rfl (gd0 rfl) rfl Tryz.func159 rfl rfl (braidref01_turn_ok _ _) (aQ rfl <| aQ rfl <| aN) rN rfl (fun _ _ => flat_num) fun r52 n53 => hTk 25 rfl rfl (W.xor rfl rfl) <| hTk 28 rfl rfl (W.xor rfl rfl) <| hTk 29 rfl rfl (W.add rfl rfl) <| hDo 30 rfl (by kernel_rfl) (gd0 rfl) rfl rfl rfl (lit (R := u32R) ([((x29 + x31) + ((r46 ^^^ r48) ^^^ (shr32 x25 3))) + ((r50 ^^^ r52) ^^^ (shr32 x27 10))] : List UInt32) 420 (pP rfl rfl <| pN) rfl Tryz.underlying188 ti56 rfl rfl) (fun _ => rfl) fun v54 => hBind fun x55 h56 => hDo 31 rfl (by kernel_rfl) (gd0 rfl) rfl rfl rfl (apn 108 rfl rfl rfl (.own 420 rfl) h56 Tryz.underlying188 ti56 rfl rfl rfl) (fun _ => rfl) fun v57 => hTakeF 32 rfl (by kernel_rfl) (by kernel_rfl) (by kernel_rfl) (gd0 rfl) rfl rfl flat_val (asg rfl) <| hDone (by kernel_rfl) <| eBlk <| eThen <| gReg <| R rfl (mv rfl) <| R rfl (I.add rfl rfl) <| R rfl (asg rfl) <| lName 7 rfl fun y58 => gNil <| eNext (fun aa ww h => ⟨nvl [v57], h.sub [1, 2, 108] (sS rfl <| sS rfl <| sS rfl <| sS rfl <| sN) (rR rfl rfl <| rR rfl rfl <| rR rfl rfl <| rN)⟩)
      ·
       refine oCallF 15 [] [] rfl rfl (gd0 rfl) rfl Tryz.func159 rfl rfl (braidref01_turn_ok _ _) (aQ rfl <| aQ rfl <| aN) rN rfl (fun _ _ => flat_num) fun r59 n60 => hTk 16 rfl rfl (W.xor rfl rfl) <| hTk 19 rfl rfl (W.xor rfl rfl) <| hAlt [10, 22] (by kernel_rfl) rfl ⟨?_, ?_, trivial⟩
       ·
        refine oRun 10 rfl (gd0 rfl) rfl rfl flat_num (ld 108 rfl rfl (Foc.el h32) ty56 rfl) <| hTk 11 rfl rfl (W.add rfl rfl) <| hTk 20 rfl rfl (W.add rfl rfl) <| hCallF 22 [] [] rfl (by kernel_rfl) rfl (gd0 rfl) rfl Tryz.func159 rfl rfl (braidref01_turn_ok _ _) (aQ rfl <| aQ rfl <| aN) rN rfl (fun _ _ => flat_num) fun r61 n62 => hCallF 24 [] [] rfl (by kernel_rfl) rfl (gd0 rfl) rfl Tryz.func159 rfl rfl (braidref01_turn_ok _ _) (aQ rfl <| aQ rfl <| aN) rN rfl (fun _ _ => flat_num) fun r63 n64 => hTk 25 rfl rfl (W.xor rfl rfl) <| hTk 28 rfl rfl (W.xor rfl rfl) <| hTk 29 rfl rfl (W.add rfl rfl) <| hDo 30 rfl (by kernel_rfl) (gd0 rfl) rfl rfl rfl (lit (R := u32R) ([((x29 + x31) + ((r46 ^^^ r59) ^^^ (shr32 x25 3))) + ((r61 ^^^ r63) ^^^ (shr32 x27 10))] : List UInt32) 420 (pP rfl rfl <| pN) rfl Tryz.underlying188 ti56 rfl rfl) (fun _ => rfl) fun v65 => hBind fun x66 h67 => hDo 31 rfl (by kernel_rfl) (gd0 rfl) rfl rfl rfl (apn 108 rfl rfl rfl (.own 420 rfl) h67 Tryz.underlying188 ti56 rfl rfl rfl) (fun _ => rfl) fun v68 => hTakeF 32 rfl (by kernel_rfl) (by kernel_rfl) (by kernel_rfl) (gd0 rfl) rfl rfl flat_val (asg rfl) <| hDone (by kernel_rfl) <| eBlk <| eThen <| gReg <| R rfl (mv rfl) <| R rfl (I.add rfl rfl) <| R rfl (asg rfl) <| lName 7 rfl fun y69 => gNil <| eNext (fun aa ww h => ⟨nvl [v68], h.sub [1, 2, 108] (sS rfl <| sS rfl <| sS rfl <| sS rfl <| sN) (rR rfl rfl <| rR rfl rfl <| rR rfl rfl <| rN)⟩)
       ·
        refine oCallF 22 [] [] rfl rfl (gd0 rfl) rfl Tryz.func159 rfl rfl (braidref01_turn_ok _ _) (aQ rfl <| aQ rfl <| aN) rN rfl (fun _ _ => flat_num) fun r70 n71 => hAlt [10, 24] (by kernel_rfl) rfl ⟨?_, ?_, trivial⟩
        ·
         refine oRun 10 rfl (gd0 rfl) rfl rfl flat_num (ld 108 rfl rfl (Foc.el h32) ty56 rfl) <| hTk 11 rfl rfl (W.add rfl rfl) <| hTk 20 rfl rfl (W.add rfl rfl) <| hCallF 24 [] [] rfl (by kernel_rfl) rfl (gd0 rfl) rfl Tryz.func159 rfl rfl (braidref01_turn_ok _ _) (aQ rfl <| aQ rfl <| aN) rN rfl (fun _ _ => flat_num) fun r72 n73 => hTk 25 rfl rfl (W.xor rfl rfl) <| hTk 28 rfl rfl (W.xor rfl rfl) <| hTk 29 rfl rfl (W.add rfl rfl) <| hDo 30 rfl (by kernel_rfl) (gd0 rfl) rfl rfl rfl (lit (R := u32R) ([((x29 + x31) + ((r46 ^^^ r59) ^^^ (shr32 x25 3))) + ((r70 ^^^ r72) ^^^ (shr32 x27 10))] : List UInt32) 420 (pP rfl rfl <| pN) rfl Tryz.underlying188 ti56 rfl rfl) (fun _ => rfl) fun v74 => hBind fun x75 h76 => hDo 31 rfl (by kernel_rfl) (gd0 rfl) rfl rfl rfl (apn 108 rfl rfl rfl (.own 420 rfl) h76 Tryz.underlying188 ti56 rfl rfl rfl) (fun _ => rfl) fun v77 => hTakeF 32 rfl (by kernel_rfl) (by kernel_rfl) (by kernel_rfl) (gd0 rfl) rfl rfl flat_val (asg rfl) <| hDone (by kernel_rfl) <| eBlk <| eThen <| gReg <| R rfl (mv rfl) <| R rfl (I.add rfl rfl) <| R rfl (asg rfl) <| lName 7 rfl fun y78 => gNil <| eNext (fun aa ww h => ⟨nvl [v77], h.sub [1, 2, 108] (sS rfl <| sS rfl <| sS rfl <| sS rfl <| sN) (rR rfl rfl <| rR rfl rfl <| rR rfl rfl <| rN)⟩)
        ·
         refine oCallF 24 [] [] rfl rfl (gd0 rfl) rfl Tryz.func159 rfl rfl (braidref01_turn_ok _ _) (aQ rfl <| aQ rfl <| aN) rN rfl (fun _ _ => flat_num) fun r79 n80 => hTk 25 rfl rfl (W.xor rfl rfl) <| hTk 28 rfl rfl (W.xor rfl rfl) <| hRun 10 rfl (by kernel_rfl) (gd0 rfl) rfl rfl flat_num (ld 108 rfl rfl (Foc.el h32) ty56 rfl) <| hTk 11 rfl rfl (W.add rfl rfl) <| hTk 20 rfl rfl (W.add rfl rfl) <| hTk 29 rfl rfl (W.add rfl rfl) <| hDo 30 rfl (by kernel_rfl) (gd0 rfl) rfl rfl rfl (lit (R := u32R) ([((x29 + x31) + ((r46 ^^^ r59) ^^^ (shr32 x25 3))) + ((r70 ^^^ r79) ^^^ (shr32 x27 10))] : List UInt32) 420 (pP rfl rfl <| pN) rfl Tryz.underlying188 ti56 rfl rfl) (fun _ => rfl) fun v81 => hBind fun x82 h83 => hDo 31 rfl (by kernel_rfl) (gd0 rfl) rfl rfl rfl (apn 108 rfl rfl rfl (.own 420 rfl) h83 Tryz.underlying188 ti56 rfl rfl rfl) (fun _ => rfl) fun v84 => hTakeF 32 rfl (by kernel_rfl) (by kernel_rfl) (by kernel_rfl) (gd0 rfl) rfl rfl flat_val (asg rfl) <| hDone (by kernel_rfl) <| eBlk <| eThen <| gReg <| R rfl (mv rfl) <| R rfl (I.add rfl rfl) <| R rfl (asg rfl) <| lName 7 rfl fun y85 => gNil <| eNext (fun aa ww h => ⟨nvl [v84], h.sub [1, 2, 108] (sS rfl <| sS rfl <| sS rfl <| sS rfl <| sN) (rR rfl rfl <| rR rfl rfl <| rR rfl rfl <| rN)⟩)
    ·
     refine oRun 10 rfl (gd0 rfl) rfl rfl flat_num (ld 108 rfl rfl (Foc.el h32) ty56 rfl) <| hAlt [5, 13] (by kernel_rfl) rfl ⟨?_, ?_, trivial⟩
     ·
      refine oRun 5 rfl (gd0 rfl) rfl rfl flat_num (ld 108 rfl rfl (Foc.el h30) ty56 rfl) <| hTk 11 rfl rfl (W.add rfl rfl) <| hCallF 13 [] [] rfl (by kernel_rfl) rfl (gd0 rfl) rfl Tryz.func159 rfl rfl (braidref01_turn_ok _ _) (aQ rfl <| aQ rfl <| aN) rN rfl (fun _ _ => flat_num) fun r86 n87 => hCallF 15 [] [] rfl (by kernel_rfl) rfl (gd0 rfl) rfl Tryz.func159 rfl rfl (braidref01_turn_ok _ _) (aQ rfl <| aQ rfl <| aN) rN rfl (fun _ _ => flat_num) fun r88 n89 => hTk 16 rfl rfl (W.xor rfl rfl) <| hTk 19 rfl rfl (W.xor rfl rfl) <| hTk 20 rfl rfl (W.add rfl rfl) <| hCallF 22 [] [] rfl (by kernel_rfl) rfl (gd0 rfl) rfl Tryz.func159 rfl rfl (braidref01_turn_ok _ _) (aQ rfl <| aQ rfl <| aN) rN rfl (fun _ _ => flat_num) fun r90 n91 => hCallF 24 [] [] rfl (by kernel_rfl) rfl (gd0 rfl) rfl Tryz.func159 rfl rfl (braidref01_turn_ok _ _) (aQ rfl <| aQ rfl <| aN) rN rfl (fun _ _ => flat_num) fun r92 n93 => hTk 25 rfl rfl (W.xor rfl rfl) <| hTk 28 rfl rfl (W.xor rfl rfl) <| hTk 29 rfl rfl (W.add rfl rfl) <| hDo 30 rfl (by kernel_rfl) (gd0 rfl) rfl rfl rfl (lit (R := u32R) ([((x29 + x31) + ((r86 ^^^ r88) ^^^ (shr32 x25 3))) + ((r90 ^^^ r92) ^^^ (shr32 x27 10))] : List UInt32) 420 (pP rfl rfl <| pN) rfl Tryz.underlying188 ti56 rfl rfl) (fun _ => rfl) fun v94 => hBind fun x95 h96 => hDo 31 rfl (by kernel_rfl) (gd0 rfl) rfl rfl rfl (apn 108 rfl rfl rfl (.own 420 rfl) h96 Tryz.underlying188 ti56 rfl rfl rfl) (fun _ => rfl) fun v97 => hTakeF 32 rfl (by kernel_rfl) (by kernel_rfl) (by kernel_rfl) (gd0 rfl) rfl rfl flat_val (asg rfl) <| hDone (by kernel_rfl) <| eBlk <| eThen <| gReg <| R rfl (mv rfl) <| R rfl (I.add rfl rfl) <| R rfl (asg rfl) <| lName 7 rfl fun y98 => gNil <| eNext (fun aa ww h => ⟨nvl [v97], h.sub [1, 2, 108] (sS rfl <| sS rfl <| sS rfl <| sS rfl <| sN) (rR rfl rfl <| rR rfl rfl <| rR rfl rfl <| rN)⟩)
     ·
      refine oCallF 13 [] [] rfl rfl (gd0 rfl) rfl Tryz.func159 rfl rfl (braidref01_turn_ok _ _) (aQ rfl <| aQ rfl <| aN) rN rfl (fun _ _ => flat_num) fun r99 n100 => hAlt [5, 15] (by kernel_rfl) rfl ⟨?_, ?_, trivial⟩
      ·
       refine oRun 5 rfl (gd0 rfl) rfl rfl flat_num (ld 108 rfl rfl (Foc.el h30) ty56 rfl) <| hTk 11 rfl rfl (W.add rfl rfl) <| hCallF 15 [] [] rfl (by kernel_rfl) rfl (gd0 rfl) rfl Tryz.func159 rfl rfl (braidref01_turn_ok _ _) (aQ rfl <| aQ rfl <| aN) rN rfl (fun _ _ => flat_num) fun r101 n102 => hTk 16 rfl rfl (W.xor rfl rfl) <| hTk 19 rfl rfl (W.xor rfl rfl) <| hTk 20 rfl rfl (W.add rfl rfl) <| hCallF 22 [] [] rfl (by kernel_rfl) rfl (gd0 rfl) rfl Tryz.func159 rfl rfl (braidref01_turn_ok _ _) (aQ rfl <| aQ rfl <| aN) rN rfl (fun _ _ => flat_num) fun r103 n104 => hCallF 24 [] [] rfl (by kernel_rfl) rfl (gd0 rfl) rfl Tryz.func159 rfl rfl (braidref01_turn_ok _ _) (aQ rfl <| aQ rfl <| aN) rN rfl (fun _ _ => flat_num) fun r105 n106 => hTk 25 rfl rfl (W.xor rfl rfl) <| hTk 28 rfl rfl (W.xor rfl rfl) <| hTk 29 rfl rfl (W.add rfl rfl) <| hDo 30 rfl (by kernel_rfl) (gd0 rfl) rfl rfl rfl (lit (R := u32R) ([((x29 + x31) + ((r99 ^^^ r101) ^^^ (shr32 x25 3))) + ((r103 ^^^ r105) ^^^ (shr32 x27 10))] : List UInt32) 420 (pP rfl rfl <| pN) rfl Tryz.underlying188 ti56 rfl rfl) (fun _ => rfl) fun v107 => hBind fun x108 h109 => hDo 31 rfl (by kernel_rfl) (gd0 rfl) rfl rfl rfl (apn 108 rfl rfl rfl (.own 420 rfl) h109 Tryz.underlying188 ti56 rfl rfl rfl) (fun _ => rfl) fun v110 => hTakeF 32 rfl (by kernel_rfl) (by kernel_rfl) (by kernel_rfl) (gd0 rfl) rfl rfl flat_val (asg rfl) <| hDone (by kernel_rfl) <| eBlk <| eThen <| gReg <| R rfl (mv rfl) <| R rfl (I.add rfl rfl) <| R rfl (asg rfl) <| lName 7 rfl fun y111 => gNil <| eNext (fun aa ww h => ⟨nvl [v110], h.sub [1, 2, 108] (sS rfl <| sS rfl <| sS rfl <| sS rfl <| sN) (rR rfl rfl <| rR rfl rfl <| rR rfl rfl <| rN)⟩)
      ·
       refine oCallF 15 [] [] rfl rfl (gd0 rfl) rfl Tryz.func159 rfl rfl (braidref01_turn_ok _ _) (aQ rfl <| aQ rfl <| aN) rN rfl (fun _ _ => flat_num) fun r112 n113 => hTk 16 rfl rfl (W.xor rfl rfl) <| hTk 19 rfl rfl (W.xor rfl rfl) <| hAlt [5, 22] (by kernel_rfl) rfl ⟨?_, ?_, trivial⟩
       ·
        refine oRun 5 rfl (gd0 rfl) rfl rfl flat_num (ld 108 rfl rfl (Foc.el h30) ty56 rfl) <| hTk 11 rfl rfl (W.add rfl rfl) <| hTk 20 rfl rfl (W.add rfl rfl) <| hCallF 22 [] [] rfl (by kernel_rfl) rfl (gd0 rfl) rfl Tryz.func159 rfl rfl (braidref01_turn_ok _ _) (aQ rfl <| aQ rfl <| aN) rN rfl (fun _ _ => flat_num) fun r114 n115 => hCallF 24 [] [] rfl (by kernel_rfl) rfl (gd0 rfl) rfl Tryz.func159 rfl rfl (braidref01_turn_ok _ _) (aQ rfl <| aQ rfl <| aN) rN rfl (fun _ _ => flat_num) fun r116 n117 => hTk 25 rfl rfl (W.xor rfl rfl) <| hTk 28 rfl rfl (W.xor rfl rfl) <| hTk 29 rfl rfl (W.add rfl rfl) <| hDo 30 rfl (by kernel_rfl) (gd0 rfl) rfl rfl rfl (lit (R := u32R) ([((x29 + x31) + ((r99 ^^^ r112) ^^^ (shr32 x25 3))) + ((r114 ^^^ r116) ^^^ (shr32 x27 10))] : List UInt32) 420 (pP rfl rfl <| pN) rfl Tryz.underlying188 ti56 rfl rfl) (fun _ => rfl) fun v118 => hBind fun x119 h120 => hDo 31 rfl (by kernel_rfl) (gd0 rfl) rfl rfl rfl (apn 108 rfl rfl rfl (.own 420 rfl) h120 Tryz.underlying188 ti56 rfl rfl rfl) (fun _ => rfl) fun v121 => hTakeF 32 rfl (by kernel_rfl) (by kernel_rfl) (by kernel_rfl) (gd0 rfl) rfl rfl flat_val (asg rfl) <| hDone (by kernel_rfl) <| eBlk <| eThen <| gReg <| R rfl (mv rfl) <| R rfl (I.add rfl rfl) <| R rfl (asg rfl) <| lName 7 rfl fun y122 => gNil <| eNext (fun aa ww h => ⟨nvl [v121], h.sub [1, 2, 108] (sS rfl <| sS rfl <| sS rfl <| sS rfl <| sN) (rR rfl rfl <| rR rfl rfl <| rR rfl rfl <| rN)⟩)
       ·
        refine oCallF 22 [] [] rfl rfl (gd0 rfl) rfl Tryz.func159 rfl rfl (braidref01_turn_ok _ _) (aQ rfl <| aQ rfl <| aN) rN rfl (fun _ _ => flat_num) fun r123 n124 => hAlt [5, 24] (by kernel_rfl) rfl ⟨?_, ?_, trivial⟩
        ·
         refine oRun 5 rfl (gd0 rfl) rfl rfl flat_num (ld 108 rfl rfl (Foc.el h30) ty56 rfl) <| hTk 11 rfl rfl (W.add rfl rfl) <| hTk 20 rfl rfl (W.add rfl rfl) <| hCallF 24 [] [] rfl (by kernel_rfl) rfl (gd0 rfl) rfl Tryz.func159 rfl rfl (braidref01_turn_ok _ _) (aQ rfl <| aQ rfl <| aN) rN rfl (fun _ _ => flat_num) fun r125 n126 => hTk 25 rfl rfl (W.xor rfl rfl) <| hTk 28 rfl rfl (W.xor rfl rfl) <| hTk 29 rfl rfl (W.add rfl rfl) <| hDo 30 rfl (by kernel_rfl) (gd0 rfl) rfl rfl rfl (lit (R := u32R) ([((x29 + x31) + ((r99 ^^^ r112) ^^^ (shr32 x25 3))) + ((r123 ^^^ r125) ^^^ (shr32 x27 10))] : List UInt32) 420 (pP rfl rfl <| pN) rfl Tryz.underlying188 ti56 rfl rfl) (fun _ => rfl) fun v127 => hBind fun x128 h129 => hDo 31 rfl (by kernel_rfl) (gd0 rfl) rfl rfl rfl (apn 108 rfl rfl rfl (.own 420 rfl) h129 Tryz.underlying188 ti56 rfl rfl rfl) (fun _ => rfl) fun v130 => hTakeF 32 rfl (by kernel_rfl) (by kernel_rfl) (by kernel_rfl) (gd0 rfl) rfl rfl flat_val (asg rfl) <| hDone (by kernel_rfl) <| eBlk <| eThen <| gReg <| R rfl (mv rfl) <| R rfl (I.add rfl rfl) <| R rfl (asg rfl) <| lName 7 rfl fun y131 => gNil <| eNext (fun aa ww h => ⟨nvl [v130], h.sub [1, 2, 108] (sS rfl <| sS rfl <| sS rfl <| sS rfl <| sN) (rR rfl rfl <| rR rfl rfl <| rR rfl rfl <| rN)⟩)
        ·
         refine oCallF 24 [] [] rfl rfl (gd0 rfl) rfl Tryz.func159 rfl rfl (braidref01_turn_ok _ _) (aQ rfl <| aQ rfl <| aN) rN rfl (fun _ _ => flat_num) fun r132 n133 => hTk 25 rfl rfl (W.xor rfl rfl) <| hTk 28 rfl rfl (W.xor rfl rfl) <| hRun 5 rfl (by kernel_rfl) (gd0 rfl) rfl rfl flat_num (ld 108 rfl rfl (Foc.el h30) ty56 rfl) <| hTk 11 rfl rfl (W.add rfl rfl) <| hTk 20 rfl rfl (W.add rfl rfl) <| hTk 29 rfl rfl (W.add rfl rfl) <| hDo 30 rfl (by kernel_rfl) (gd0 rfl) rfl rfl rfl (lit (R := u32R) ([((x29 + x31) + ((r99 ^^^ r112) ^^^ (shr32 x25 3))) + ((r123 ^^^ r132) ^^^ (shr32 x27 10))] : List UInt32) 420 (pP rfl rfl <| pN) rfl Tryz.underlying188 ti56 rfl rfl) (fun _ => rfl) fun v134 => hBind fun x135 h136 => hDo 31 rfl (by kernel_rfl) (gd0 rfl) rfl rfl rfl (apn 108 rfl rfl rfl (.own 420 rfl) h136 Tryz.underlying188 ti56 rfl rfl rfl) (fun _ => rfl) fun v137 => hTakeF 32 rfl (by kernel_rfl) (by kernel_rfl) (by kernel_rfl) (gd0 rfl) rfl rfl flat_val (asg rfl) <| hDone (by kernel_rfl) <| eBlk <| eThen <| gReg <| R rfl (mv rfl) <| R rfl (I.add rfl rfl) <| R rfl (asg rfl) <| lName 7 rfl fun y138 => gNil <| eNext (fun aa ww h => ⟨nvl [v137], h.sub [1, 2, 108] (sS rfl <| sS rfl <| sS rfl <| sS rfl <| sN) (rR rfl rfl <| rR rfl rfl <| rR rfl rfl <| rN)⟩)
    ·
     refine oCallF 13 [] [] rfl rfl (gd0 rfl) rfl Tryz.func159 rfl rfl (braidref01_turn_ok _ _) (aQ rfl <| aQ rfl <| aN) rN rfl (fun _ _ => flat_num) fun r139 n140 => hAlt [5, 10, 15] (by kernel_rfl) rfl ⟨?_, ?_, ?_, trivial⟩
     ·
      refine oRun 5 rfl (gd0 rfl) rfl rfl flat_num (ld 108 rfl rfl (Foc.el h30) ty56 rfl) <| hAlt [10, 15] (by kernel_rfl) rfl ⟨?_, ?_, trivial⟩
      ·
       refine oRun 10 rfl (gd0 rfl) rfl rfl flat_num (ld 108 rfl rfl (Foc.el h32) ty56 rfl) <| hTk 11 rfl rfl (W.add rfl rfl) <| hCallF 15 [] [] rfl (by kernel_rfl) rfl (gd0 rfl) rfl Tryz.func159 rfl rfl (braidref01_turn_ok _ _) (aQ rfl <| aQ rfl <| aN) rN rfl (fun _ _ => flat_num) fun r141 n142 => hTk 16 rfl rfl (W.xor rfl rfl) <| hTk 19 rfl rfl (W.xor rfl rfl) <| hTk 20 rfl rfl (W.add rfl rfl) <| hCallF 22 [] [] rfl (by kernel_rfl) rfl (gd0 rfl) rfl Tryz.func159 rfl rfl (braidref01_turn_ok _ _) (aQ rfl <| aQ rfl <| aN) rN rfl (fun _ _ => flat_num) fun r143 n144 => hCallF 24 [] [] rfl (by kernel_rfl) rfl (gd0 rfl) rfl Tryz.func159 rfl rfl (braidref01_turn_ok _ _) (aQ rfl <| aQ rfl <| aN) rN rfl (fun _ _ => flat_num) fun r145 n146 => hTk 25 rfl rfl (W.xor rfl rfl) <| hTk 28 rfl rfl (W.xor rfl rfl) <| hTk 29 rfl rfl (W.add rfl rfl) <| hDo 30 rfl (by kernel_rfl) (gd0 rfl) rfl rfl rfl (lit (R := u32R) ([((x29 + x31) + ((r139 ^^^ r141) ^^^ (shr32 x25 3))) + ((r143 ^^^ r145) ^^^ (shr32 x27 10))] : List UInt32) 420 (pP rfl rfl <| pN) rfl Tryz.underlying188 ti56 rfl rfl) (fun _ => rfl) fun v147 => hBind fun x148 h149 => hDo 31 rfl (by kernel_rfl) (gd0 rfl) rfl rfl rfl (apn 108 rfl rfl rfl (.own 420 rfl) h149 Tryz.underlying188 ti56 rfl rfl rfl) (fun _ => rfl) fun v150 => hTakeF 32 rfl (by kernel_rfl) (by kernel_rfl) (by kernel_rfl) (gd0 rfl) rfl rfl flat_val (asg rfl) <| hDone (by kernel_rfl) <| eBlk <| eThen <| gReg <| R rfl (mv rfl) <| R rfl (I.add rfl rfl) <| R rfl (asg rfl) <| lName 7 rfl fun y151 => gNil <| eNext (fun aa ww h => ⟨nvl [v150], h.sub [1, 2, 108] (sS rfl <| sS rfl <| sS rfl <| sS rfl <| sN) (rR rfl rfl <| rR rfl rfl <| rR rfl rfl <| rN)⟩)
      ·
       refine oCallF 15 [] [] rfl rfl (gd0 rfl) rfl Tryz.func159 rfl rfl (braidref01_turn_ok _ _) (aQ rfl <| aQ rfl <| aN) rN rfl (fun _ _ => flat_num) fun r152 n153 => hTk 16 rfl rfl (W.xor rfl rfl) <| hTk 19 rfl rfl (W.xor rfl rfl) <| hAlt [10, 22] (by kernel_rfl) rfl ⟨?_, ?_, trivial⟩
       ·
        refine oRun 10 rfl (gd0 rfl) rfl rfl flat_num (ld 108 rfl rfl (Foc.el h32) ty56 rfl) <| hTk 11 rfl rfl (W.add rfl rfl) <| hTk 20 rfl rfl (W.add rfl rfl) <| hCallF 22 [] [] rfl (by kernel_rfl) rfl (gd0 rfl) rfl Tryz.func159 rfl rfl (braidref01_turn_ok _ _) (aQ rfl <| aQ rfl <| aN) rN rfl (fun _ _ => flat_num) fun r154 n155 => hCallF 24 [] [] rfl (by kernel_rfl) rfl (gd0 rfl) rfl Tryz.func159 rfl rfl (braidref01_turn_ok _ _) (aQ rfl <| aQ rfl <| aN) rN rfl (fun _ _ => flat_num) fun r156 n157 => hTk 25 rfl rfl (W.xor rfl rfl) <| hTk 28 rfl rfl (W.xor rfl rfl) <| hTk 29 rfl rfl (W.add rfl rfl) <| hDo 30 rfl (by kernel_rfl) (gd0 rfl) rfl rfl rfl (lit (R := u32R) ([((x29 + x31) + ((r139 ^^^ r152) ^^^ (shr32 x25 3))) + ((r154 ^^^ r156) ^^^ (shr32 x27 10))] : List UInt32) 420 (pP rfl rfl <| pN) rfl Tryz.underlying188 ti56 rfl rfl) (fun _ => rfl) fun v158 => hBind fun x159 h160 => hDo 31 rfl (by kernel_rfl) (gd0 rfl) rfl rfl rfl (apn 108 rfl rfl rfl (.own 420 rfl) h160 Tryz.underlying188 ti56 rfl rfl rfl) (fun _ => rfl) fun v161 => hTakeF 32 rfl (by kernel_rfl) (by kernel_rfl) (by kernel_rfl) (gd0 rfl) rfl rfl flat_val (asg rfl) <| hDone (by kernel_rfl) <| eBlk <| eThen <| gReg <| R rfl (mv rfl) <| R rfl (I.add rfl rfl) <| R rfl (asg rfl) <| lName 7 rfl fun y162 => gNil <| eNext (fun aa ww h => ⟨nvl [v161], h.sub [1, 2, 108] (sS rfl <| sS rfl <| sS rfl <| sS rfl <| sN) (rR rfl rfl <| rR rfl rfl <| rR rfl rfl <| rN)⟩)
       ·
        refine oCallF 22 [] [] rfl rfl (gd0 rfl) rfl Tryz.func159 rfl rfl (braidref01_turn_ok _ _) (aQ rfl <| aQ rfl <| aN) rN rfl (fun _ _ => flat_num) fun r163 n164 => hAlt [10, 24] (by kernel_rfl) rfl ⟨?_, ?_, trivial⟩
        ·
         refine oRun 10 rfl (gd0 rfl) rfl rfl flat_num (ld 108 rfl rfl (Foc.el h32) ty56 rfl) <| hTk 11 rfl rfl (W.add rfl rfl) <| hTk 20 rfl rfl (W.add rfl rfl) <| hCallF 24 [] [] rfl (by kernel_rfl) rfl (gd0 rfl) rfl Tryz.func159 rfl rfl (braidref01_turn_ok _ _) (aQ rfl <| aQ rfl <| aN) rN rfl (fun _ _ => flat_num) fun r165 n166 => hTk 25 rfl rfl (W.xor rfl rfl) <| hTk 28 rfl rfl (W.xor rfl rfl) <| hTk 29 rfl rfl (W.add rfl rfl) <| hDo 30 rfl (by kernel_rfl) (gd0 rfl) rfl rfl rfl (lit (R := u32R) ([((x29 + x31) + ((r139 ^^^ r152) ^^^ (shr32 x25 3))) + ((r163 ^^^ r165) ^^^ (shr32 x27 10))] : List UInt32) 420 (pP rfl rfl <| pN) rfl Tryz.underlying188 ti56 rfl rfl) (fun _ => rfl) fun v167 => hBind fun x168 h169 => hDo 31 rfl (by kernel_rfl) (gd0 rfl) rfl rfl rfl (apn 108 rfl rfl rfl (.own 420 rfl) h169 Tryz.underlying188 ti56 rfl rfl rfl) (fun _ => rfl) fun v170 => hTakeF 32 rfl (by kernel_rfl) (by kernel_rfl) (by kernel_rfl) (gd0 rfl) rfl rfl flat_val (asg rfl) <| hDone (by kernel_rfl) <| eBlk <| eThen <| gReg <| R rfl (mv rfl) <| R rfl (I.add rfl rfl) <| R rfl (asg rfl) <| lName 7 rfl fun y171 => gNil <| eNext (fun aa ww h => ⟨nvl [v170], h.sub [1, 2, 108] (sS rfl <| sS rfl <| sS rfl <| sS rfl <| sN) (rR rfl rfl <| rR rfl rfl <| rR rfl rfl <| rN)⟩)
        ·
         refine oCallF 24 [] [] rfl rfl (gd0 rfl) rfl Tryz.func159 rfl rfl (braidref01_turn_ok _ _) (aQ rfl <| aQ rfl <| aN) rN rfl (fun _ _ => flat_num) fun r172 n173 => hTk 25 rfl rfl (W.xor rfl rfl) <| hTk 28 rfl rfl (W.xor rfl rfl) <| hRun 10 rfl (by kernel_rfl) (gd0 rfl) rfl rfl flat_num (ld 108 rfl rfl (Foc.el h32) ty56 rfl) <| hTk 11 rfl rfl (W.add rfl rfl) <| hTk 20 rfl rfl (W.add rfl rfl) <| hTk 29 rfl rfl (W.add rfl rfl) <| hDo 30 rfl (by kernel_rfl) (gd0 rfl) rfl rfl rfl (lit (R := u32R) ([((x29 + x31) + ((r139 ^^^ r152) ^^^ (shr32 x25 3))) + ((r163 ^^^ r172) ^^^ (shr32 x27 10))] : List UInt32) 420 (pP rfl rfl <| pN) rfl Tryz.underlying188 ti56 rfl rfl) (fun _ => rfl) fun v174 => hBind fun x175 h176 => hDo 31 rfl (by kernel_rfl) (gd0 rfl) rfl rfl rfl (apn 108 rfl rfl rfl (.own 420 rfl) h176 Tryz.underlying188 ti56 rfl rfl rfl) (fun _ => rfl) fun v177 => hTakeF 32 rfl (by kernel_rfl) (by kernel_rfl) (by kernel_rfl) (gd0 rfl) rfl rfl flat_val (asg rfl) <| hDone (by kernel_rfl) <| eBlk <| eThen <| gReg <| R rfl (mv rfl) <| R rfl (I.add rfl rfl) <| R rfl (asg rfl) <| lName 7 rfl fun y178 => gNil <| eNext (fun aa ww h => ⟨nvl [v177], h.sub [1, 2, 108] (sS rfl <| sS rfl <| sS rfl <| sS rfl <| sN) (rR rfl rfl <| rR rfl rfl <| rR rfl rfl <| rN)⟩)
     ·
      refine oRun 10 rfl (gd0 rfl) rfl rfl flat_num (ld 108 rfl rfl (Foc.el h32) ty56 rfl) <| hAlt [5, 15] (by kernel_rfl) rfl ⟨?_, ?_, trivial⟩
      ·
       refine oRun 5 rfl (gd0 rfl) rfl rfl flat_num (ld 108 rfl rfl (Foc.el h30) ty56 rfl) <| hTk 11 rfl rfl (W.add rfl rfl) <| hCallF 15 [] [] rfl (by kernel_rfl) rfl (gd0 rfl) rfl Tryz.func159 rfl rfl (braidref01_turn_ok _ _) (aQ rfl <| aQ rfl <| aN) rN rfl (fun _ _ => flat_num) fun r179 n180 => hTk 16 rfl rfl (W.xor rfl rfl) <| hTk 19 rfl rfl (W.xor rfl rfl) <| hTk 20 rfl rfl (W.add rfl rfl) <| hCallF 22 [] [] rfl (by kernel_rfl) rfl (gd0 rfl) rfl Tryz.func159 rfl rfl (braidref01_turn_ok _ _) (aQ rfl <| aQ rfl <| aN) rN rfl (fun _ _ => flat_num) fun r181 n182 => hCallF 24 [] [] rfl (by kernel_rfl) rfl (gd0 rfl) rfl Tryz.func159 rfl rfl (braidref01_turn_ok _ _) (aQ rfl <| aQ rfl <| aN) rN rfl (fun _ _ => flat_num) fun r183 n184 => hTk 25 rfl rfl (W.xor rfl rfl) <| hTk 28 rfl rfl (W.xor rfl rfl) <| hTk 29 rfl rfl (W.add rfl rfl) <| hDo 30 rfl (by kernel_rfl) (gd0 rfl) rfl rfl rfl (lit (R := u32R) ([((x29 + x31) + ((r139 ^^^ r179) ^^^ (shr32 x25 3))) + ((r181 ^^^ r183) ^^^ (shr32 x27 10))] : List UInt32) 420 (pP rfl rfl <| pN) rfl Tryz.underlying188 ti56 rfl rfl) (fun _ => rfl) fun v185 => hBind fun x186 h187 => hDo 31 rfl (by kernel_rfl) (gd0 rfl) rfl rfl rfl (apn 108 rfl rfl rfl (.own 420 rfl) h187 Tryz.underlying188 ti56 rfl rfl rfl) (fun _ => rfl) fun v188 => hTakeF 32 rfl (by kernel_rfl) (by kernel_rfl) (by kernel_rfl) (gd0 rfl) rfl rfl flat_val (asg rfl) <| hDone (by kernel_rfl) <| eBlk <| eThen <| gReg <| R rfl (mv rfl) <| R rfl (I.add rfl rfl) <| R rfl (asg rfl) <| lName 7 rfl fun y189 => gNil <| eNext (fun aa ww h => ⟨nvl [v188], h.sub [1, 2, 108] (sS rfl <| sS rfl <| sS rfl <| sS rfl <| sN) (rR rfl rfl <| rR rfl rfl <| rR rfl rfl <| rN)⟩)
      ·
       refine oCallF 15 [] [] rfl rfl (gd0 rfl) rfl Tryz.func159 rfl rfl (braidref01_turn_ok _ _) (aQ rfl <| aQ rfl <| aN) rN rfl (fun _ _ => flat_num) fun r190 n191 => hTk 16 rfl rfl (W.xor rfl rfl) <| hTk 19 rfl rfl (W.xor rfl rfl) <| hAlt [5, 22] (by kernel_rfl) rfl ⟨?_, ?_, trivial⟩
       ·
        refine oRun 5 rfl (gd0 rfl) rfl rfl flat_num (ld 108 rfl rfl (Foc.el h30) ty56 rfl) <| hTk 11 rfl rfl (W.add rfl rfl) <| hTk 20 rfl rfl (W.add rfl rfl) <| hCallF 22 [] [] rfl (by kernel_rfl) rfl (gd0 rfl) rfl Tryz.func159 rfl rfl (braidref01_turn_ok _ _) (aQ rfl <| aQ rfl <| aN) rN rfl (fun _ _ => flat_num) fun r192 n193 => hCallF 24 [] [] rfl (by kernel_rfl) rfl (gd0 rfl) rfl Tryz.func159 rfl rfl (braidref01_turn_ok _ _) (aQ rfl <| aQ rfl <| aN) rN rfl (fun _ _ => flat_num) fun r194 n195 => hTk 25 rfl rfl (W.xor rfl rfl) <| hTk 28 rfl rfl (W.xor rfl rfl) <| hTk 29 rfl rfl (W.add rfl rfl) <| hDo 30 rfl (by kernel_rfl) (gd0 rfl) rfl rfl rfl (lit (R := u32R) ([((x29 + x31) + ((r139 ^^^ r190) ^^^ (shr32 x25 3))) + ((r192 ^^^ r194) ^^^ (shr32 x27 10))] : List UInt32) 420 (pP rfl rfl <| pN) rfl Tryz.underlying188 ti56 rfl rfl) (fun _ => rfl) fun v196 => hBind fun x197 h198 => hDo 31 rfl (by kernel_rfl) (gd0 rfl) rfl rfl rfl (apn 108 rfl rfl rfl (.own 420 rfl) h198 Tryz.underlying188 ti56 rfl rfl rfl) (fun _ => rfl) fun v199 => hTakeF 32 rfl (by kernel_rfl) (by kernel_rfl) (by kernel_rfl) (gd0 rfl) rfl rfl flat_val (asg rfl) <| hDone (by kernel_rfl) <| eBlk <| eThen <| gReg <| R rfl (mv rfl) <| R rfl (I.add rfl rfl) <| R rfl (asg rfl) <| lName 7 rfl fun y200 => gNil <| eNext (fun aa ww h => ⟨nvl [v199], h.sub [1, 2, 108] (sS rfl <| sS rfl <| sS rfl <| sS rfl <| sN) (rR rfl rfl <| rR rfl rfl <| rR rfl rfl <| rN)⟩)
       ·
        refine oCallF 22 [] [] rfl rfl (gd0 rfl) rfl Tryz.func159 rfl rfl (braidref01_turn_ok _ _) (aQ rfl <| aQ rfl <| aN) rN rfl (fun _ _ => flat_num) fun r201 n202 => hAlt [5, 24] (by kernel_rfl) rfl ⟨?_, ?_, trivial⟩
        ·
         refine oRun 5 rfl (gd0 rfl) rfl rfl flat_num (ld 108 rfl rfl (Foc.el h30) ty56 rfl) <| hTk 11 rfl rfl (W.add rfl rfl) <| hTk 20 rfl rfl (W.add rfl rfl) <| hCallF 24 [] [] rfl (by kernel_rfl) rfl (gd0 rfl) rfl Tryz.func159 rfl rfl (braidref01_turn_ok _ _) (aQ rfl <| aQ rfl <| aN) rN rfl (fun _ _ => flat_num) fun r203 n204 => hTk 25 rfl rfl (W.xor rfl rfl) <| hTk 28 rfl rfl (W.xor rfl rfl) <| hTk 29 rfl rfl (W.add rfl rfl) <| hDo 30 rfl (by kernel_rfl) (gd0 rfl) rfl rfl rfl (lit (R := u32R) ([((x29 + x31) + ((r139 ^^^ r190) ^^^ (shr32 x25 3))) + ((r201 ^^^ r203) ^^^ (shr32 x27 10))] : List UInt32) 420 (pP rfl rfl <| pN) rfl Tryz.underlying188 ti56 rfl rfl) (fun _ => rfl) fun v205 => hBind fun x206 h207 => hDo 31 rfl (by kernel_rfl) (gd0 rfl) rfl rfl rfl (apn 108 rfl rfl rfl (.own 420 rfl) h207 Tryz.underlying188 ti56 rfl rfl rfl) (fun _ => rfl) fun v208 => hTakeF 32 rfl (by kernel_rfl) (by kernel_rfl) (by kernel_rfl) (gd0 rfl) rfl rfl flat_val (asg rfl) <| hDone (by kernel_rfl) <| eBlk <| eThen <| gReg <| R rfl (mv rfl) <| R rfl (I.add rfl rfl) <| R rfl (asg rfl) <| lName 7 rfl fun y209 => gNil <| eNext (fun aa ww h => ⟨nvl [v208], h.sub [1, 2, 108] (sS rfl <| sS rfl <| sS rfl <| sS rfl <| sN) (rR rfl rfl <| rR rfl rfl <| rR rfl rfl <| rN)⟩)
        ·
         refine oCallF 24 [] [] rfl rfl (gd0 rfl) rfl Tryz.func159 rfl rfl (braidref01_turn_ok _ _) (aQ rfl <| aQ rfl <| aN) rN rfl (fun _ _ => flat_num) fun r210 n211 => hTk 25 rfl rfl (W.xor rfl rfl) <| hTk 28 rfl rfl (W.xor rfl rfl) <| hRun 5 rfl (by kernel_rfl) (gd0 rfl) rfl rfl flat_num (ld 108 rfl rfl (Foc.el h30) ty56 rfl) <| hTk 11 rfl rfl (W.add rfl rfl) <| hTk 20 rfl rfl (W.add rfl rfl) <| hTk 29 rfl rfl (W.add rfl rfl) <| hDo 30 rfl (by kernel_rfl) (gd0 rfl) rfl rfl rfl (lit (R := u32R) ([((x29 + x31) + ((r139 ^^^ r190) ^^^ (shr32 x25 3))) + ((r201 ^^^ r210) ^^^ (shr32 x27 10))] : List UInt32) 420 (pP rfl rfl <| pN) rfl Tryz.underlying188 ti56 rfl rfl) (fun _ => rfl) fun v212 => hBind fun x213 h214 => hDo 31 rfl (by kernel_rfl) (gd0 rfl) rfl rfl rfl (apn 108 rfl rfl rfl (.own 420 rfl) h214 Tryz.underlying188 ti56 rfl rfl rfl) (fun _ => rfl) fun v215 => hTakeF 32 rfl (by kernel_rfl) (by kernel_rfl) (by kernel_rfl) (gd0 rfl) rfl rfl flat_val (asg rfl) <| hDone (by kernel_rfl) <| eBlk <| eThen <| gReg <| R rfl (mv rfl) <| R rfl (I.add rfl rfl) <| R rfl (asg rfl) <| lName 7 rfl fun y216 => gNil <| eNext (fun aa ww h => ⟨nvl [v215], h.sub [1, 2, 108] (sS rfl <| sS rfl <| sS rfl <| sS rfl <| sN) (rR rfl rfl <| rR rfl rfl <| rR rfl rfl <| rN)⟩)
     ·
      refine oCallF 15 [] [] rfl rfl (gd0 rfl) rfl Tryz.func159 rfl rfl (braidref01_turn_ok _ _) (aQ rfl <| aQ rfl <| aN) rN rfl (fun _ _ => flat_num) fun r217 n218 => hTk 16 rfl rfl (W.xor rfl rfl) <| hTk 19 rfl rfl (W.xor rfl rfl) <| hAlt [5, 10, 22] (by kernel_rfl) rfl ⟨?_, ?_, ?_, trivial⟩
      ·
       refine oRun 5 rfl (gd0 rfl) rfl rfl flat_num (ld 108 rfl rfl (Foc.el h30) ty56 rfl) <| hAlt [10, 22] (by kernel_rfl) rfl ⟨?_, ?_, trivial⟩
       ·
        refine oRun 10 rfl (gd0 rfl) rfl rfl flat_num (ld 108 rfl rfl (Foc.el h32) ty56 rfl) <| hTk 11 rfl rfl (W.add rfl rfl) <| hTk 20 rfl rfl (W.add rfl rfl) <| hCallF 22 [] [] rfl (by kernel_rfl) rfl (gd0 rfl) rfl Tryz.func159 rfl rfl (braidref01_turn_ok _ _) (aQ rfl <| aQ rfl <| aN) rN rfl (fun _ _ => flat_num) fun r219 n220 => hCallF 24 [] [] rfl (by kernel_rfl) rfl (gd0 rfl) rfl Tryz.func159 rfl rfl (braidref01_turn_ok _ _) (aQ rfl <| aQ rfl <| aN) rN rfl (fun _ _ => flat_num) fun r221 n222 => hTk 25 rfl rfl (W.xor rfl rfl) <| hTk 28 rfl rfl (W.xor rfl rfl) <| hTk 29 rfl rfl (W.add rfl rfl) <| hDo 30 rfl (by kernel_rfl) (gd0 rfl) rfl rfl rfl (lit (R := u32R) ([((x29 + x31) + ((r139 ^^^ r217) ^^^ (shr32 x25 3))) + ((r219 ^^^ r221) ^^^ (shr32 x27 10))] : List UInt32) 420 (pP rfl rfl <| pN) rfl Tryz.underlying188 ti56 rfl rfl) (fun _ => rfl) fun v223 => hBind fun x224 h225 => hDo 31 rfl (by kernel_rfl) (gd0 rfl) rfl rfl rfl (apn 108 rfl rfl rfl (.own 420 rfl) h225 Tryz.underlying188 ti56 rfl rfl rfl) (fun _ => rfl) fun v226 => hTakeF 32 rfl (by kernel_rfl) (by kernel_rfl) (by kernel_rfl) (gd0 rfl) rfl rfl flat_val (asg rfl) <| hDone (by kernel_rfl) <| eBlk <| eThen <| gReg <| R rfl (mv rfl) <| R rfl (I.add rfl rfl) <| R rfl (asg rfl) <| lName 7 rfl fun y227 => gNil <| eNext (fun aa ww h => ⟨nvl [v226], h.sub [1, 2, 108] (sS rfl <| sS rfl <| sS rfl <| sS rfl <| sN) (rR rfl rfl <| rR rfl rfl <| rR rfl rfl <| rN)⟩)
       ·
        refine oCallF 22 [] [] rfl rfl (gd0 rfl) rfl Tryz.func159 rfl rfl (braidref01_turn_ok _ _) (aQ rfl <| aQ rfl <| aN) rN rfl (fun _ _ => flat_num) fun r228 n229 => hAlt [10, 24] (by kernel_rfl) rfl ⟨?_, ?_, trivial⟩
        ·
         refine oRun 10 rfl (gd0 rfl) rfl rfl flat_num (ld 108 rfl rfl (Foc.el h32) ty56 rfl) <| hTk 11 rfl rfl (W.add rfl rfl) <| hTk 20 rfl rfl (W.add rfl rfl) <| hCallF 24 [] [] rfl (by kernel_rfl) rfl (gd0 rfl) rfl Tryz.func159 rfl rfl (braidref01_turn_ok _ _) (aQ rfl <| aQ rfl <| aN) rN rfl (fun _ _ => flat_num) fun r230 n231 => hTk 25 rfl rfl (W.xor rfl rfl) <| hTk 28 rfl rfl (W.xor rfl rfl) <| hTk 29 rfl rfl (W.add rfl rfl) <| hDo 30 rfl (by kernel_rfl) (gd0 rfl) rfl rfl rfl (lit (R := u32R) ([((x29 + x31) + ((r139 ^^^ r217) ^^^ (shr32 x25 3))) + ((r228 ^^^ r230) ^^^ (shr32 x27 10))] : List UInt32) 420 (pP rfl rfl <| pN) rfl Tryz.underlying188 ti56 rfl rfl) (fun _ => rfl) fun v232 => hBind fun x233 h234 => hDo 31 rfl (by kernel_rfl) (gd0 rfl) rfl rfl rfl (apn 108 rfl rfl rfl (.own 420 rfl) h234 Tryz.underlying188 ti56 rfl rfl rfl) (fun _ => rfl) fun v235 => hTakeF 32 rfl (by kernel_rfl) (by kernel_rfl) (by kernel_rfl) (gd0 rfl) rfl rfl flat_val (asg rfl) <| hDone (by kernel_rfl) <| eBlk <| eThen <| gReg <| R rfl (mv rfl) <| R rfl (I.add rfl rfl) <| R rfl (asg rfl) <| lName 7 rfl fun y236 => gNil <| eNext (fun aa ww h => ⟨nvl [v235], h.sub [1, 2, 108] (sS rfl <| sS rfl <| sS rfl <| sS rfl <| sN) (rR rfl rfl <| rR rfl rfl <| rR rfl rfl <| rN)⟩)
        ·
         refine oCallF 24 [] [] rfl rfl (gd0 rfl) rfl Tryz.func159 rfl rfl (braidref01_turn_ok _ _) (aQ rfl <| aQ rfl <| aN) rN rfl (fun _ _ => flat_num) fun r237 n238 => hTk 25 rfl rfl (W.xor rfl rfl) <| hTk 28 rfl rfl (W.xor rfl rfl) <| hRun 10 rfl (by kernel_rfl) (gd0 rfl) rfl rfl flat_num (ld 108 rfl rfl (Foc.el h32) ty56 rfl) <| hTk 11 rfl rfl (W.add rfl rfl) <| hTk 20 rfl rfl (W.add rfl rfl) <| hTk 29 rfl rfl (W.add rfl rfl) <| hDo 30 rfl (by kernel_rfl) (gd0 rfl) rfl rfl rfl (lit (R := u32R) ([((x29 + x31) + ((r139 ^^^ r217) ^^^ (shr32 x25 3))) + ((r228 ^^^ r237) ^^^ (shr32 x27 10))] : List UInt32) 420 (pP rfl rfl <| pN) rfl Tryz.underlying188 ti56 rfl rfl) (fun _ => rfl) fun v239 => hBind fun x240 h241 => hDo 31 rfl (by kernel_rfl) (gd0 rfl) rfl rfl rfl (apn 108 rfl rfl rfl (.own 420 rfl) h241 Tryz.underlying188 ti56 rfl rfl rfl) (fun _ => rfl) fun v242 => hTakeF 32 rfl (by kernel_rfl) (by kernel_rfl) (by kernel_rfl) (gd0 rfl) rfl rfl flat_val (asg rfl) <| hDone (by kernel_rfl) <| eBlk <| eThen <| gReg <| R rfl (mv rfl) <| R rfl (I.add rfl rfl) <| R rfl (asg rfl) <| lName 7 rfl fun y243 => gNil <| eNext (fun aa ww h => ⟨nvl [v242], h.sub [1, 2, 108] (sS rfl <| sS rfl <| sS rfl <| sS rfl <| sN) (rR rfl rfl <| rR rfl rfl <| rR rfl rfl <| rN)⟩)
      ·
       refine oRun 10 rfl (gd0 rfl) rfl rfl flat_num (ld 108 rfl rfl (Foc.el h32) ty56 rfl) <| hAlt [5, 22] (by kernel_rfl) rfl ⟨?_, ?_, trivial⟩
       ·
        refine oRun 5 rfl (gd0 rfl) rfl rfl flat_num (ld 108 rfl rfl (Foc.el h30) ty56 rfl) <| hTk 11 rfl rfl (W.add rfl rfl) <| hTk 20 rfl rfl (W.add rfl rfl) <| hCallF 22 [] [] rfl (by kernel_rfl) rfl (gd0 rfl) rfl Tryz.func159 rfl rfl (braidref01_turn_ok _ _) (aQ rfl <| aQ rfl <| aN) rN rfl (fun _ _ => flat_num) fun r244 n245 => hCallF 24 [] [] rfl (by kernel_rfl) rfl (gd0 rfl) rfl Tryz.func159 rfl rfl (braidref01_turn_ok _ _) (aQ rfl <| aQ rfl <| aN) rN rfl (fun _ _ => flat_num) fun r246 n247 => hTk 25 rfl rfl (W.xor rfl rfl) <| hTk 28 rfl rfl (W.xor rfl rfl) <| hTk 29 rfl rfl (W.add rfl rfl) <| hDo 30 rfl (by kernel_rfl) (gd0 rfl) rfl rfl rfl (lit (R := u32R) ([((x29 + x31) + ((r139 ^^^ r217) ^^^ (shr32 x25 3))) + ((r244 ^^^ r246) ^^^ (shr32 x27 10))] : List UInt32) 420 (pP rfl rfl <| pN) rfl Tryz.underlying188 ti56 rfl rfl) (fun _ => rfl) fun v248 => hBind fun x249 h250 => hDo 31 rfl (by kernel_rfl) (gd0 rfl) rfl rfl rfl (apn 108 rfl rfl rfl (.own 420 rfl) h250 Tryz.underlying188 ti56 rfl rfl rfl) (fun _ => rfl) fun v251 => hTakeF 32 rfl (by kernel_rfl) (by kernel_rfl) (by kernel_rfl) (gd0 rfl) rfl rfl flat_val (asg rfl) <| hDone (by kernel_rfl) <| eBlk <| eThen <| gReg <| R rfl (mv rfl) <| R rfl (I.add rfl rfl) <| R rfl (asg rfl) <| lName 7 rfl fun y252 => gNil <| eNext (fun aa ww h => ⟨nvl [v251], h.sub [1, 2, 108] (sS rfl <| sS rfl <| sS rfl <| sS rfl <| sN) (rR rfl rfl <| rR rfl rfl <| rR rfl rfl <| rN)⟩)
       ·
        refine oCallF 22 [] [] rfl rfl (gd0 rfl) rfl Tryz.func159 rfl rfl (braidref01_turn_ok _ _) (aQ rfl <| aQ rfl <| aN) rN rfl (fun _ _ => flat_num) fun r253 n254 => hAlt [5, 24] (by kernel_rfl) rfl ⟨?_, ?_, trivial⟩
        ·
         refine oRun 5 rfl (gd0 rfl) rfl rfl flat_num (ld 108 rfl rfl (Foc.el h30) ty56 rfl) <| hTk 11 rfl rfl (W.add rfl rfl) <| hTk 20 rfl rfl (W.add rfl rfl) <| hCallF 24 [] [] rfl (by kernel_rfl) rfl (gd0 rfl) rfl Tryz.func159 rfl rfl (braidref01_turn_ok _ _) (aQ rfl <| aQ rfl <| aN) rN rfl (fun _ _ => flat_num) fun r255 n256 => hTk 25 rfl rfl (W.xor rfl rfl) <| hTk 28 rfl rfl (W.xor rfl rfl) <| hTk 29 rfl rfl (W.add rfl rfl) <| hDo 30 rfl (by kernel_rfl) (gd0 rfl) rfl rfl rfl (lit (R := u32R) ([((x29 + x31) + ((r139 ^^^ r217) ^^^ (shr32 x25 3))) + ((r253 ^^^ r255) ^^^ (shr32 x27 10))] : List UInt32) 420 (pP rfl rfl <| pN) rfl Tryz.underlying188 ti56 rfl rfl) (fun _ => rfl) fun v257 => hBind fun x258 h259 => hDo 31 rfl (by kernel_rfl) (gd0 rfl) rfl rfl rfl (apn 108 rfl rfl rfl (.own 420 rfl) h259 Tryz.underlying188 ti56 rfl rfl rfl) (fun _ => rfl) fun v260 => hTakeF 32 rfl (by kernel_rfl) (by kernel_rfl) (by kernel_rfl) (gd0 rfl) rfl rfl flat_val (asg rfl) <| hDone (by kernel_rfl) <| eBlk <| eThen <| gReg <| R rfl (mv rfl) <| R rfl (I.add rfl rfl) <| R rfl (asg rfl) <| lName 7 rfl fun y261 => gNil <| eNext (fun aa ww h => ⟨nvl [v260], h.sub [1, 2, 108] (sS rfl <| sS rfl <| sS rfl <| sS rfl <| sN) (rR rfl rfl <| rR rfl rfl <| rR rfl rfl <| rN)⟩)
        ·
         refine oCallF 24 [] [] rfl rfl (gd0 rfl) rfl Tryz.func159 rfl rfl (braidref01_turn_ok _ _) (aQ rfl <| aQ rfl <| aN) rN rfl (fun _ _ => flat_num) fun r262 n263 => hTk 25 rfl rfl (W.xor rfl rfl) <| hTk 28 rfl rfl (W.xor rfl rfl) <| hRun 5 rfl (by kernel_rfl) (gd0 rfl) rfl rfl flat_num (ld 108 rfl rfl (Foc.el h30) ty56 rfl) <| hTk 11 rfl rfl (W.add rfl rfl) <| hTk 20 rfl rfl (W.add rfl rfl) <| hTk 29 rfl rfl (W.add rfl rfl) <| hDo 30 rfl (by kernel_rfl) (gd0 rfl) rfl rfl rfl (lit (R := u32R) ([((x29 + x31) + ((r139 ^^^ r217) ^^^ (shr32 x25 3))) + ((r253 ^^^ r262) ^^^ (shr32 x27 10))] : List UInt32) 420 (pP rfl rfl <| pN) rfl Tryz.underlying188 ti56 rfl rfl) (fun _ => rfl) fun v264 => hBind fun x265 h266 => hDo 31 rfl (by kernel_rfl) (gd0 rfl) rfl rfl rfl (apn 108 rfl rfl rfl (.own 420 rfl) h266 Tryz.underlying188 ti56 rfl rfl rfl) (fun _ => rfl) fun v267 => hTakeF 32 rfl (by kernel_rfl) (by kernel_rfl) (by kernel_rfl) (gd0 rfl) rfl rfl flat_val (asg rfl) <| hDone (by kernel_rfl) <| eBlk <| eThen <| gReg <| R rfl (mv rfl) <| R rfl (I.add rfl rfl) <| R rfl (asg rfl) <| lName 7 rfl fun y268 => gNil <| eNext (fun aa ww h => ⟨nvl [v267], h.sub [1, 2, 108] (sS rfl <| sS rfl <| sS rfl <| sS rfl <| sN) (rR rfl rfl <| rR rfl rfl <| rR rfl rfl <| rN)⟩)
      ·
       refine oCallF 22 [] [] rfl rfl (gd0 rfl) rfl Tryz.func159 rfl rfl (braidref01_turn_ok _ _) (aQ rfl <| aQ rfl <| aN) rN rfl (fun _ _ => flat_num) fun r269 n270 => hAlt [5, 10, 24] (by kernel_rfl) rfl ⟨?_, ?_, ?_, trivial⟩
       ·
        refine oRun 5 rfl (gd0 rfl) rfl rfl flat_num (ld 108 rfl rfl (Foc.el h30) ty56 rfl) <| hAlt [10, 24] (by kernel_rfl) rfl ⟨?_, ?_, trivial⟩
        ·
         refine oRun 10 rfl (gd0 rfl) rfl rfl flat_num (ld 108 rfl rfl (Foc.el h32) ty56 rfl) <| hTk 11 rfl rfl (W.add rfl rfl) <| hTk 20 rfl rfl (W.add rfl rfl) <| hCallF 24 [] [] rfl (by kernel_rfl) rfl (gd0 rfl) rfl Tryz.func159 rfl rfl (braidref01_turn_ok _ _) (aQ rfl <| aQ rfl <| aN) rN rfl (fun _ _ => flat_num) fun r271 n272 => hTk 25 rfl rfl (W.xor rfl rfl) <| hTk 28 rfl rfl (W.xor rfl rfl) <| hTk 29 rfl rfl (W.add rfl rfl) <| hDo 30 rfl (by kernel_rfl) (gd0 rfl) rfl rfl rfl (lit (R := u32R) ([((x29 + x31) + ((r139 ^^^ r217) ^^^ (shr32 x25 3))) + ((r269 ^^^ r271) ^^^ (shr32 x27 10))] : List UInt32) 420 (pP rfl rfl <| pN) rfl Tryz.underlying188 ti56 rfl rfl) (fun _ => rfl) fun v273 => hBind fun x274 h275 => hDo 31 rfl (by kernel_rfl) (gd0 rfl) rfl rfl rfl (apn 108 rfl rfl rfl (.own 420 rfl) h275 Tryz.underlying188 ti56 rfl rfl rfl) (fun _ => rfl) fun v276 => hTakeF 32 rfl (by kernel_rfl) (by kernel_rfl) (by kernel_rfl) (gd0 rfl) rfl rfl flat_val (asg rfl) <| hDone (by kernel_rfl) <| eBlk <| eThen <| gReg <| R rfl (mv rfl) <| R rfl (I.add rfl rfl) <| R rfl (asg rfl) <| lName 7 rfl fun y277 => gNil <| eNext (fun aa ww h => ⟨nvl [v276], h.sub [1, 2, 108] (sS rfl <| sS rfl <| sS rfl <| sS rfl <| sN) (rR rfl rfl <| rR rfl rfl <| rR rfl rfl <| rN)⟩)
        ·
         refine oCallF 24 [] [] rfl rfl (gd0 rfl) rfl Tryz.func159 rfl rfl (braidref01_turn_ok _ _) (aQ rfl <| aQ rfl <| aN) rN rfl (fun _ _ => flat_num) fun r278 n279 => hTk 25 rfl rfl (W.xor rfl rfl) <| hTk 28 rfl rfl (W.xor rfl rfl) <| hRun 10 rfl (by kernel_rfl) (gd0 rfl) rfl rfl flat_num (ld 108 rfl rfl (Foc.el h32) ty56 rfl) <| hTk 11 rfl rfl (W.add rfl rfl) <| hTk 20 rfl rfl (W.add rfl rfl) <| hTk 29 rfl rfl (W.add rfl rfl) <| hDo 30 rfl (by kernel_rfl) (gd0 rfl) rfl rfl rfl (lit (R := u32R) ([((x29 + x31) + ((r139 ^^^ r217) ^^^ (shr32 x25 3))) + ((r269 ^^^ r278) ^^^ (shr32 x27 10))] : List UInt32) 420 (pP rfl rfl <| pN) rfl Tryz.underlying188 ti56 rfl rfl) (fun _ => rfl) fun v280 => hBind fun x281 h282 => hDo 31 rfl (by kernel_rfl) (gd0 rfl) rfl rfl rfl (apn 108 rfl rfl rfl (.own 420 rfl) h282 Tryz.underlying188 ti56 rfl rfl rfl) (fun _ => rfl) fun v283 => hTakeF 32 rfl (by kernel_rfl) (by kernel_rfl) (by kernel_rfl) (gd0 rfl) rfl rfl flat_val (asg rfl) <| hDone (by kernel_rfl) <| eBlk <| eThen <| gReg <| R rfl (mv rfl) <| R rfl (I.add rfl rfl) <| R rfl (asg rfl) <| lName 7 rfl fun y284 => gNil <| eNext (fun aa ww h => ⟨nvl [v283], h.sub [1, 2, 108] (sS rfl <| sS rfl <| sS rfl <| sS rfl <| sN) (rR rfl rfl <| rR rfl rfl <| rR rfl rfl <| rN)⟩)
       ·
        refine oRun 10 rfl (gd0 rfl) rfl rfl flat_num (ld 108 rfl rfl (Foc.el h32) ty56 rfl) <| hAlt [5, 24] (by kernel_rfl) rfl ⟨?_, ?_, trivial⟩
        ·
         refine oRun 5 rfl (gd0 rfl) rfl rfl flat_num (ld 108 rfl rfl (Foc.el h30) ty56 rfl) <| hTk 11 rfl rfl (W.add rfl rfl) <| hTk 20 rfl rfl (W.add rfl rfl) <| hCallF 24 [] [] rfl (by kernel_rfl) rfl (gd0 rfl) rfl Tryz.func159 rfl rfl (braidref01_turn_ok _ _) (aQ rfl <| aQ rfl <| aN) rN rfl (fun _ _ => flat_num) fun r285 n286 => hTk 25 rfl rfl (W.xor rfl rfl) <| hTk 28 rfl rfl (W.xor rfl rfl) <| hTk 29 rfl rfl (W.add rfl rfl) <| hDo 30 rfl (by kernel_rfl) (gd0 rfl) rfl rfl rfl (lit (R := u32R) ([((x29 + x31) + ((r139 ^^^ r217) ^^^ (shr32 x25 3))) + ((r269 ^^^ r285) ^^^ (shr32 x27 10))] : List UInt32) 420 (pP rfl rfl <| pN) rfl Tryz.underlying188 ti56 rfl rfl) (fun _ => rfl) fun v287 => hBind fun x288 h289 => hDo 31 rfl (by kernel_rfl) (gd0 rfl) rfl rfl rfl (apn 108 rfl rfl rfl (.own 420 rfl) h289 Tryz.underlying188 ti56 rfl rfl rfl) (fun _ => rfl) fun v290 => hTakeF 32 rfl (by kernel_rfl) (by kernel_rfl) (by kernel_rfl) (gd0 rfl) rfl rfl flat_val (asg rfl) <| hDone (by kernel_rfl) <| eBlk <| eThen <| gReg <| R rfl (mv rfl) <| R rfl (I.add rfl rfl) <| R rfl (asg rfl) <| lName 7 rfl fun y291 => gNil <| eNext (fun aa ww h => ⟨nvl [v290], h.sub [1, 2, 108] (sS rfl <| sS rfl <| sS rfl <| sS rfl <| sN) (rR rfl rfl <| rR rfl rfl <| rR rfl rfl <| rN)⟩)
        ·
         refine oCallF 24 [] [] rfl rfl (gd0 rfl) rfl Tryz.func159 rfl rfl (braidref01_turn_ok _ _) (aQ rfl <| aQ rfl <| aN) rN rfl (fun _ _ => flat_num) fun r292 n293 => hTk 25 rfl rfl (W.xor rfl rfl) <| hTk 28 rfl rfl (W.xor rfl rfl) <| hRun 5 rfl (by kernel_rfl) (gd0 rfl) rfl rfl flat_num (ld 108 rfl rfl (Foc.el h30) ty56 rfl) <| hTk 11 rfl rfl (W.add rfl rfl) <| hTk 20 rfl rfl (W.add rfl rfl) <| hTk 29 rfl rfl (W.add rfl rfl) <| hDo 30 rfl (by kernel_rfl) (gd0 rfl) rfl rfl rfl (lit (R := u32R) ([((x29 + x31) + ((r139 ^^^ r217) ^^^ (shr32 x25 3))) + ((r269 ^^^ r292) ^^^ (shr32 x27 10))] : List UInt32) 420 (pP rfl rfl <| pN) rfl Tryz.underlying188 ti56 rfl rfl) (fun _ => rfl) fun v294 => hBind fun x295 h296 => hDo 31 rfl (by kernel_rfl) (gd0 rfl) rfl rfl rfl (apn 108 rfl rfl rfl (.own 420 rfl) h296 Tryz.underlying188 ti56 rfl rfl rfl) (fun _ => rfl) fun v297 => hTakeF 32 rfl (by kernel_rfl) (by kernel_rfl) (by kernel_rfl) (gd0 rfl) rfl rfl flat_val (asg rfl) <| hDone (by kernel_rfl) <| eBlk <| eThen <| gReg <| R rfl (mv rfl) <| R rfl (I.add rfl rfl) <| R rfl (asg rfl) <| lName 7 rfl fun y298 => gNil <| eNext (fun aa ww h => ⟨nvl [v297], h.sub [1, 2, 108] (sS rfl <| sS rfl <| sS rfl <| sS rfl <| sN) (rR rfl rfl <| rR rfl rfl <| rR rfl rfl <| rN)⟩)
       ·
        refine oCallF 24 [] [] rfl rfl (gd0 rfl) rfl Tryz.func159 rfl rfl (braidref01_turn_ok _ _) (aQ rfl <| aQ rfl <| aN) rN rfl (fun _ _ => flat_num) fun r299 n300 => hTk 25 rfl rfl (W.xor rfl rfl) <| hTk 28 rfl rfl (W.xor rfl rfl) <| hAlt [5, 10] (by kernel_rfl) rfl ⟨?_, ?_, trivial⟩
        ·
         refine oRun 5 rfl (gd0 rfl) rfl rfl flat_num (ld 108 rfl rfl (Foc.el h30) ty56 rfl) <| hRun 10 rfl (by kernel_rfl) (gd0 rfl) rfl rfl flat_num (ld 108 rfl rfl (Foc.el h32) ty56 rfl) <| hTk 11 rfl rfl (W.add rfl rfl) <| hTk 20 rfl rfl (W.add rfl rfl) <| hTk 29 rfl rfl (W.add rfl rfl) <| hDo 30 rfl (by kernel_rfl) (gd0 rfl) rfl rfl rfl (lit (R := u32R) ([((x29 + x31) + ((r139 ^^^ r217) ^^^ (shr32 x25 3))) + ((r269 ^^^ r299) ^^^ (shr32 x27 10))] : List UInt32) 420 (pP rfl rfl <| pN) rfl Tryz.underlying188 ti56 rfl rfl) (fun _ => rfl) fun v301 => hBind fun x302 h303 => hDo 31 rfl (by kernel_rfl) (gd0 rfl) rfl rfl rfl (apn 108 rfl rfl rfl (.own 420 rfl) h303 Tryz.underlying188 ti56 rfl rfl rfl) (fun _ => rfl) fun v304 => hTakeF 32 rfl (by kernel_rfl) (by kernel_rfl) (by kernel_rfl) (gd0 rfl) rfl rfl flat_val (asg rfl) <| hDone (by kernel_rfl) <| eBlk <| eThen <| gReg <| R rfl (mv rfl) <| R rfl (I.add rfl rfl) <| R rfl (asg rfl) <| lName 7 rfl fun y305 => gNil <| eNext (fun aa ww h => ⟨nvl [v304], h.sub [1, 2, 108] (sS rfl <| sS rfl <| sS rfl <| sS rfl <| sN) (rR rfl rfl <| rR rfl rfl <| rR rfl rfl <| rN)⟩)
        ·
         refine oRun 10 rfl (gd0 rfl) rfl rfl flat_num (ld 108 rfl rfl (Foc.el h32) ty56 rfl) <| hRun 5 rfl (by kernel_rfl) (gd0 rfl) rfl rfl flat_num (ld 108 rfl rfl (Foc.el h30) ty56 rfl) <| hTk 11 rfl rfl (W.add rfl rfl) <| hTk 20 rfl rfl (W.add rfl rfl) <| hTk 29 rfl rfl (W.add rfl rfl) <| hDo 30 rfl (by kernel_rfl) (gd0 rfl) rfl rfl rfl (lit (R := u32R) ([((x29 + x31) + ((r139 ^^^ r217) ^^^ (shr32 x25 3))) + ((r269 ^^^ r299) ^^^ (shr32 x27 10))] : List UInt32) 420 (pP rfl rfl <| pN) rfl Tryz.underlying188 ti56 rfl rfl) (fun _ => rfl) fun v306 => hBind fun x307 h308 => hDo 31 rfl (by kernel_rfl) (gd0 rfl) rfl rfl rfl (apn 108 rfl rfl rfl (.own 420 rfl) h308 Tryz.underlying188 ti56 rfl rfl rfl) (fun _ => rfl) fun v309 => hTakeF 32 rfl (by kernel_rfl) (by kernel_rfl) (by kernel_rfl) (gd0 rfl) rfl rfl flat_val (asg rfl) <| hDone (by kernel_rfl) <| eBlk <| eThen <| gReg <| R rfl (mv rfl) <| R rfl (I.add rfl rfl) <| R rfl (asg rfl) <| lName 7 rfl fun y310 => gNil <| eNext (fun aa ww h => ⟨nvl [v309], h.sub [1, 2, 108] (sS rfl <| sS rfl <| sS rfl <| sS rfl <| sN) (rR rfl rfl <| rR rfl rfl <| rR rfl rfl <| rN)⟩)
   ·
    refine gExit <| eTexit <| eLeave <| eMid (fun aa ww h => ⟨nvl [(n23 0)], h.sub [1, 2, 108] (sS rfl <| sS rfl <| sS rfl <| sN) (rR rfl rfl <| rR rfl rfl <| rR rfl rfl <| rN)⟩)
  ·
   refine gEx fun n311 => gSR <| call [] [(100, 432)] rfl Tryz.func160 rfl rfl (braidref01_constants_ok) (aN) rN fun r312 n313 => R rfl (asg rfl) <| gNil <| eThen <| gSR <| R rfl (ld 1 rfl rfl Foc.here ty141 rfl) <| Eb rfl (allc 433 ti141 (.zr (R := (arrR 8 u32R)) (x := (Vector.replicate 8 0)) zr141)) fun v314 => Es (sto 433 rfl rfl Foc.here rfl ti141) <| gNil <| eThen <| gMid (fun (s315 : (Vector UInt32 8)) aa ww => Sta (ctx 203 H [] w) [(2, .val (ptrTo v1 0)), (4, .val (ptrTo v2 0)), (11, .val (ptrTo v314 0))] [(1, some (v1, .box 141 [.rd (arrR 8 u32R) a0])), (2, some (v2, .box 141 [.rd (arrR 8 u32R) (Vector.replicate 8 0)])), (433, some (v314, .box 141 [.rd (arrR 8 u32R) s315]))] aa ww) ?_ (fun s315 => ?_)
   ·
    refine gSR <| R rfl (asg rfl) <| gNil <| eThen <| gLoop (fun (s316 : (Vector UInt32 8) × Int) aa ww => Sta (ctx 203 H [] w) [(2, .val (ptrTo v1 0)), (4, .val (ptrTo v2 0)), (5, .val (n311 0)), (10, .val (n313 0)), (11, .val (ptrTo v314 0)), (12, .rd i64R s316.2)] [(1, some (v1, .box 141 [.rd (arrR 8 u32R) a0])), (2, some (v2, .box 141 [.rd (arrR 8 u32R) (Vector.replicate 8 0)])), (108, some ((n311 0), .list u32R 56 s21)), (432, some ((n313 0), .list u32R 56 r312)), (433, some (v314, .box 141 [.rd (arrR 8 u32R) s316.1]))] aa ww) (fun aa ww h => h.sub [1, 2, 108, 432, 433] (sS rfl <| sS rfl <| sS rfl <| sS rfl <| sS rfl <| sS rfl <| sN) (rR rfl rfl <| rR rfl rfl <| rR rfl rfl <| rR rfl rfl <| rR rfl rfl <| rN)) (fun s316 => ?_)
    refine gSeq <| gSR <| R rfl (mv rfl) <| R rfl (I.lss rfl rfl) <| gNil <| eThen <| gIf rfl rfl (fun h317 => ?_) (fun h317 => ?_)
    ·
     refine gSkip <| eThen <| gSeq <| gBlk <| gSeq <| gRegQ mixed (by kernel_rfl) <| qBind fun x318 h319 => Rq rfl (ixB 433 rfl rfl rfl h319 Tryz.underlying141 ti56) <| Rq rfl (ld 433 rfl rfl ((Foc.here).part (.el h319)) ty56 rfl) <| qBind fun x320 h321 => Rq rfl (ixB 433 rfl rfl rfl h321 Tryz.underlying141 ti56) <| Rq rfl (ld 433 rfl rfl ((Foc.here).part (.el h321)) ty56 rfl) <| qBind fun x322 h323 => Rq rfl (ixB 433 rfl rfl rfl h323 Tryz.underlying141 ti56) <| Rq rfl (ld 433 rfl rfl ((Foc.here).part (.el h323)) ty56 rfl) <| qBind fun x324 h325 => Rq rfl (ixB 433 rfl rfl rfl h325 Tryz.underlying141 ti56) <| Rq rfl (ld 433 rfl rfl ((Foc.here).part (.el h325)) ty56 rfl) <| qBind fun x326 h327 => Rq rfl (ixB 433 rfl rfl rfl h327 Tryz.underlying141 ti56) <| Rq rfl (ld 433 rfl rfl ((Foc.here).part (.el h327)) ty56 rfl) <| qBind fun x328 h329 => Rq rfl (ixB 433 rfl rfl rfl h329 Tryz.underlying141 ti56) <| Rq rfl (ld 433 rfl rfl ((Foc.here).part (.el h329)) ty56 rfl) <| Rq rfl (asg rfl) <| Rq rfl (asg rfl) <| Rq rfl (asg rfl) <| Rq rfl (asg rfl) <| Rq rfl (asg rfl) <| Rq rfl (asg rfl) <| qNil <| eThen <| gSeq <| gRegH [] mixed rfl rfl <| hBind fun x330 h331 => hTk 0 rfl rfl (ixB 433 rfl rfl rfl h331 Tryz.underlying141 ti56) <| hTk 1 rfl rfl (ld 433 rfl rfl ((Foc.here).part (.el h331)) ty56 rfl) <| hTk 2 rfl rfl (mv rfl) <| hTk 4 rfl rfl (mv rfl) <| hTk 7 rfl rfl (mv rfl) <| hTk 11 rfl rfl (mv rfl) <| hTk 12 rfl rfl (mv rfl) <| hTk 13 rfl rfl (W.and rfl rfl) <| hTk 14 rfl rfl (mv rfl) <| hTk 15 rfl rfl (W.cpl rfl) <| hTk 16 rfl rfl (mv rfl) <| hTk 17 rfl rfl (W.and rfl rfl) <| hTk 18 rfl rfl (W.xor rfl rfl) <| hTk 20 rfl rfl (mv rfl) <| hTk 21 rfl rfl (mv rfl) <| hBind fun x332 h333 => hTk 22 rfl rfl (ixO 432 rfl rfl rfl h333 Tryz.underlying188 ti56) <| hTk 23 rfl rfl (ld 432 rfl rfl (Foc.el h333) ty56 rfl) <| hTk 25 rfl rfl (mv rfl) <| hTk 26 rfl rfl (mv rfl) <| hBind fun x334 h335 => hTk 27 rfl rfl (ixO 108 rfl rfl rfl h335 Tryz.underlying188 ti56) <| hTk 28 rfl rfl (ld 108 rfl rfl (Foc.el h335) ty56 rfl) <| hCallF 3 [] [] rfl (by kernel_rfl) rfl (gd0 rfl) rfl Tryz.func159 rfl rfl (braidref01_turn_ok _ _) (aQ rfl <| aQ rfl <| aN) rN rfl (fun _ _ => flat_num) fun r336 n337 => hCallF 5 [] [] rfl (by kernel_rfl) rfl (gd0 rfl) rfl Tryz.func159 rfl rfl (braidref01_turn_ok _ _) (aQ rfl <| aQ rfl <| aN) rN rfl (fun _ _ => flat_num) fun r338 n339 => hTk 6 rfl rfl (W.xor rfl rfl) <| hCallF 8 [] [] rfl (by kernel_rfl) rfl (gd0 rfl) rfl Tryz.func159 rfl rfl (braidref01_turn_ok _ _) (aQ rfl <| aQ rfl <| aN) rN rfl (fun _ _ => flat_num) fun r340 n341 => hTk 9 rfl rfl (W.xor rfl rfl) <| hTk 10 rfl rfl (W.add rfl rfl) <| hTk 19 rfl rfl (W.add rfl rfl) <| hTk 24 rfl rfl (W.add rfl rfl) <| hTk 29 rfl rfl (W.add rfl rfl) <| hTk 30 rfl rfl (asg rfl) <| hName 19 rfl rfl fun y342 => hDone (by kernel_rfl) <| eThen <| gSR <| R rfl (mv rfl) <| call [] [] rfl Tryz.func159 rfl rfl (braidref01_turn_ok _ _) (aQ rfl <| aQ rfl <| aN) rN fun r343 n344 => R rfl (mv rfl) <| call [] [] rfl Tryz.func159 rfl rfl (braidref01_turn_ok _ _) (aQ rfl <| aQ rfl <| aN) rN fun r345 n346 => R rfl (W.xor rfl rfl) <| R rfl (mv rfl) <| call [] [] rfl Tryz.func159 rfl rfl (braidref01_turn_ok _ _) (aQ rfl <| aQ rfl <| aN) rN fun r347 n348 => R rfl (W.xor rfl rfl) <| R rfl (mv rfl) <| R rfl (mv rfl) <| R rfl (W.and rfl rfl) <| R rfl (mv rfl) <| R rfl (mv rfl) <| R rfl (W.and rfl rfl) <| R rfl (W.xor rfl rfl) <| R rfl (mv rfl) <| R rfl (mv rfl) <| R rfl (W.and rfl rfl) <| R rfl (W.xor rfl rfl) <| R rfl (W.add rfl rfl) <| R rfl (asg rfl) <| lName 20 rfl fun y349 => gNil <| eThen <| gReg <| R rfl (mv rfl) <| R rfl (mv rfl) <| R rfl (W.add rfl rfl) <| R rfl (mv rfl) <| R rfl (mv rfl) <| R rfl (mv rfl) <| lBind fun x350 h351 => R rfl (ixB 433 rfl rfl rfl h351 Tryz.underlying141 ti56) <| R rfl (ld 433 rfl rfl ((Foc.here).part (.el h351)) ty56 rfl) <| R rfl (mv rfl) <| R rfl (W.add rfl rfl) <| R rfl (mv rfl) <| R rfl (mv rfl) <| R rfl (mv rfl) <| R rfl (litA (R := u32R) [y342 + y349, x318, x320, x322, x350 + y342, x324, x326, x328] (#v[y342 + y349, x318, x320, x322, x350 + y342, x324, x326, x328] : Vector UInt32 8) (pP rfl rfl <| pP rfl rfl <| pP rfl rfl <| pP rfl rfl <| pP rfl rfl <| pP rfl rfl <| pP rfl rfl <| pP rfl rfl <| pN) rfl Tryz.underlying141 ti141 rfl ti56) <| Es (sto 433 rfl rfl Foc.here rfl ti141) <| gNil <| eBlk <| eThen <| gReg <| R rfl (mv rfl) <| R rfl (I.add rfl rfl) <| R rfl (asg rfl) <| lName 12 rfl fun y352 => gNil <| eNext (fun aa ww h => h.sub [1, 2, 108, 432, 433] (sS rfl <| sS rfl <| sS rfl <| sS rfl <| sS rfl <| sS rfl <| sN) (rR rfl rfl <| rR rfl rfl <| rR rfl rfl <| rR rfl rfl <| rR rfl rfl <| rN))
    ·
     refine gExit <| eTexit <| eLeave <| eMid (fun aa ww h => h.sub [1, 2, 433] (sS rfl <| sS rfl <| sS rfl <| sN) (rR rfl rfl <| rR rfl rfl <| rR rfl rfl <| rN))
   ·
    refine gMid (fun (s353 : (Vector UInt32 8)) aa ww => Sta (ctx 203 H [] w) [(2, .val (ptrTo v1 0)), (4, .val (ptrTo v2 0))] [(1, some (v1, .box 141 [.rd (arrR 8 u32R) s353])), (2, some (v2, .box 141 [.rd (arrR 8 u32R) (Vector.replicate 8 0)]))] aa ww) ?_ (fun s353 => ?_)
    ·
     refine gSR <| R rfl (asg rfl) <| gNil <| eThen <| gLoop (fun (s354 : (Vector UInt32 8) × Int) aa ww => Sta (ctx 203 H [] w) [(2, .val (ptrTo v1 0)), (4, .val (ptrTo v2 0)), (11, .val (ptrTo v314 0)), (21, .rd i64R s354.2)] [(1, some (v1, .box 141 [.rd (arrR 8 u32R) s354.1])), (2, some (v2, .box 141 [.rd (arrR 8 u32R) (Vector.replicate 8 0)])), (433, some (v314, .box 141 [.rd (arrR 8 u32R) s315]))] aa ww) (fun aa ww h => h.sub [1, 2, 433] (sS rfl <| sS rfl <| sS rfl <| sS rfl <| sN) (rR rfl rfl <| rR rfl rfl <| rR rfl rfl <| rN)) (fun s354 => ?_)
     refine gSeq <| gSR <| R rfl (mv rfl) <| R rfl (I.lss rfl rfl) <| gNil <| eThen <| gIf rfl rfl (fun h355 => ?_) (fun h355 => ?_)
     ·
      refine gSkip <| eThen <| gSeq <| gBlk <| gRegH [1] mixed rfl rfl <| hTk 0 rfl rfl (mv rfl) <| hBind fun x356 h357 => hTk 1 rfl rfl (ixB 1 rfl rfl rfl h357 Tryz.underlying141 ti56) <| hTk 3 rfl rfl (mv rfl) <| hBind fun x358 h359 => hTk 4 rfl rfl (ixB 433 rfl rfl rfl h359 Tryz.underlying141 ti56) <| hTk 5 rfl rfl (ld 433 rfl rfl ((Foc.here).part (.el h359)) ty56 rfl) <| hRun 2 rfl (by kernel_rfl) (gd0 rfl) rfl rfl flat_num (ld 1 rfl rfl ((Foc.here).part (.el h357)) ty56 rfl) <| hTk 6 rfl rfl (W.add rfl rfl) <| hBind fun x360 h361 => hTk 7 rfl rfl (ixB 1 rfl rfl rfl h361 Tryz.underlying141 ti56) <| hDoS 8 rfl (by kernel_rfl) (gd0 rfl) rfl rfl rfl rfl (sto 1 rfl rfl ((Foc.here).part (.el h361)) rfl ti56) <| hDone (by kernel_rfl) <| eBlk <| eThen <| gReg <| R rfl (mv rfl) <| R rfl (I.add rfl rfl) <| R rfl (asg rfl) <| lName 21 rfl fun y362 => gNil <| eNext (fun aa ww h => h.sub [1, 2, 433] (sS rfl <| sS rfl <| sS rfl <| sS rfl <| sN) (rR rfl rfl <| rR rfl rfl <| rR rfl rfl <| rN))
     ·
      refine gExit <| eTexit <| eLeave <| eMid (fun aa ww h => h.sub [1, 2] (sS rfl <| sS rfl <| sN) (rR rfl rfl <| rR rfl rfl <| rN))
    ·
     refine gSR <| R rfl (ld 1 rfl rfl Foc.here ty141 rfl) <| Es (sto 2 rfl rfl Foc.here rfl ti141) <| gNil <| eThen <| gRet <| eRet [] [] rfl (eC 2 rfl rfl ty141 <| eN) (rN)
def braidref01_blocks_L0 (a1 : List UInt8) (s4 : (Vector UInt32 8) × Int) : Option (Sum ((Vector UInt32 8)) ((Vector UInt32 8) × Int)) :=
 if decide ((w64 (s4.2 + 64)) ≤ (a1.length : Int)) then
  cut a1 s4.2 (w64 (s4.2 + 64)) >>= fun x6 =>
  braidref01_Ground s4.1 x6 >>= fun r8 =>
  some (w64 (s4.2 + 64)) >>= fun y10 =>
  some (.inr (r8, y10))
 else
  some (.inl s4.1)
def braidref01_blocks (a0 : Vector UInt32 8) (a1 : List UInt8) : Option ((Vector UInt32 8)) :=
 (iter (braidref01_blocks_L0 a1) (a0, 0)) >>= fun s3 =>
 some s3
theorem braidref01_blocks_ok (a0 : Vector UInt32 8) (a1 : List UInt8) : Spec Tryz.prog 107 [.rd (arrR 8 u32R) a0, .rd (sliceR u8R) a1] [] (braidref01_blocks a0 a1) (fun r nv => ⟨[.rd (arrR 8 u32R) r], []⟩) := by
 refine spec 21 Tryz.func107 rfl rfl rfl fun H w => ?_
 refine gSR <| Eb rfl (bx 1 rfl) fun v1 => Eb rfl (allc 2 ti141 (.zr (R := (arrR 8 u32R)) (x := (Vector.replicate 8 0)) zr141)) fun v2 => gNil <| eThen <| gMid (fun (s3 : (Vector UInt32 8)) aa ww => Sta (ctx 21 H [] w) [(2, .val (ptrTo v1 0)), (4, .val (ptrTo v2 0))] [(1, some (v1, .box 141 [.rd (arrR 8 u32R) s3])), (2, some (v2, .box 141 [.rd (arrR 8 u32R) (Vector.replicate 8 0)]))] aa ww) ?_ (fun s3 => ?_)
 ·
  refine gSR <| R rfl (asg rfl) <| gNil <| eThen <| gLoop (fun (s4 : (Vector UInt32 8) × Int) aa ww => Sta (ctx 21 H [] w) [(1, .rd (sliceR u8R) a1), (2, .val (ptrTo v1 0)), (4, .val (ptrTo v2 0)), (5, .rd i64R s4.2)] [(1, some (v1, .box 141 [.rd (arrR 8 u32R) s4.1])), (2, some (v2, .box 141 [.rd (arrR 8 u32R) (Vector.replicate 8 0)]))] aa ww) (fun aa ww h => h.sub [1, 2] (sS rfl <| sS rfl <| sS rfl <| sS rfl <| sN) (rR rfl rfl <| rR rfl rfl <| rN)) (fun s4 => ?_)
  refine gSeq <| gSR <| R rfl (mv rfl) <| R rfl (I.add rfl rfl) <| R rfl (mv rfl) <| R rfl (len' rfl .rd rfl Tryz.underlying103) <| R rfl (I.leq rfl rfl) <| gNil <| eThen <| gIf rfl rfl (fun h5 => ?_) (fun h5 => ?_)
  ·
   refine gSkip <| eThen <| gSeq <| gBlk <| gRegH [1] mixed rfl rfl <| hTk 1 rfl rfl (mv rfl) <| hTk 2 rfl rfl (mv rfl) <| hTk 3 rfl rfl (mv rfl) <| hTk 4 rfl rfl (I.add rfl rfl) <| hBind fun x6 h7 => hTk 5 rfl rfl (cut' rfl (.to rfl) (.to rfl) h7 Tryz.underlying103 ti5) <| hRun 0 rfl (by kernel_rfl) (gd0 rfl) rfl rfl anyJ (ld 1 rfl rfl Foc.here ty141 rfl) <| hCallJ 6 [] [] rfl (by kernel_rfl) rfl (gd0 rfl) rfl Tryz.func141 rfl rfl (braidref01_Ground_ok _ _) (aQ rfl <| aQ rfl <| aN) rN rfl fun r8 n9 => hDoS 7 rfl (by kernel_rfl) (gd0 rfl) rfl rfl rfl rfl (sto 1 rfl rfl Foc.here rfl ti141) <| hDone (by kernel_rfl) <| eBlk <| eThen <| gReg <| R rfl (mv rfl) <| R rfl (I.add rfl rfl) <| R rfl (asg rfl) <| lName 5 rfl fun y10 => gNil <| eNext (fun aa ww h => h.sub [1, 2] (sS rfl <| sS rfl <| sS rfl <| sS rfl <| sN) (rR rfl rfl <| rR rfl rfl <| rN))
  ·
   refine gExit <| eTexit <| eLeave <| eMid (fun aa ww h => h.sub [1, 2] (sS rfl <| sS rfl <| sN) (rR rfl rfl <| rR rfl rfl <| rN))
 ·
  refine gSR <| R rfl (ld 1 rfl rfl Foc.here ty141 rfl) <| Es (sto 2 rfl rfl Foc.here rfl ti141) <| gNil <| eThen <| gRet <| eRet [] [] rfl (eC 2 rfl rfl ty141 <| eN) (rN)
def braidref01_written_L0 (a0 : Vector UInt32 8) (s5 : (Vector UInt8 32) × Int) : Option (Sum ((Vector UInt8 32)) ((Vector UInt8 32) × Int)) :=
 if decide (s5.2 < 32) then
  vidx a0 (w64 (Int.tdiv s5.2 4)) >>= fun x7 =>
  chk (0 ≤ w64 (24 - (w64 (8 * (Int.tmod s5.2 4))))) >>= fun u9 =>
  vidx s5.1 s5.2 >>= fun x11 =>
  some (w64 (s5.2 + 1)) >>= fun y13 =>
  some (.inr (vset s5.1 s5.2 ((shr32 x7 ((w64 (24 - (w64 (8 * (Int.tmod s5.2 4)))) : Int).toNat)).toUInt8), y13))
 else
  some (.inl s5.1)
def braidref01_written (a0 : Vector UInt32 8) : Option ((Vector UInt8 32)) :=
 (iter (braidref01_written_L0 a0) ((Vector.replicate 32 0), 0)) >>= fun s4 =>
 some s4
theorem braidref01_written_ok (a0 : Vector UInt32 8) : Spec Tryz.prog 106 [.rd (arrR 8 u32R) a0] [] (braidref01_written a0) (fun r nv => ⟨[.rd (arrR 32 u8R) r], []⟩) := by
 refine spec 22 Tryz.func106 rfl rfl rfl fun H w => ?_
 refine gSR <| Eb rfl (bx 1 rfl) fun v1 => Eb rfl (allc 2 ti27 (.zr (R := (arrR 32 u8R)) (x := (Vector.replicate 32 0)) zr26)) fun v2 => gNil <| eThen <| gSR <| Eb rfl (allc 3 ti27 (.zr (R := (arrR 32 u8R)) (x := (Vector.replicate 32 0)) zr26)) fun v3 => gNil <| eThen <| gMid (fun (s4 : (Vector UInt8 32)) aa ww => Sta (ctx 22 H [] w) [(2, .val (ptrTo v2 0)), (3, .val (ptrTo v3 0))] [(2, some (v2, .box 27 [.rd (arrR 32 u8R) (Vector.replicate 32 0)])), (3, some (v3, .box 27 [.rd (arrR 32 u8R) s4]))] aa ww) ?_ (fun s4 => ?_)
 ·
  refine gSR <| R rfl (asg rfl) <| gNil <| eThen <| gLoop (fun (s5 : (Vector UInt8 32) × Int) aa ww => Sta (ctx 22 H [] w) [(1, .val (ptrTo v1 0)), (2, .val (ptrTo v2 0)), (3, .val (ptrTo v3 0)), (4, .rd i64R s5.2)] [(1, some (v1, .box 141 [.rd (arrR 8 u32R) a0])), (2, some (v2, .box 27 [.rd (arrR 32 u8R) (Vector.replicate 32 0)])), (3, some (v3, .box 27 [.rd (arrR 32 u8R) s5.1]))] aa ww) (fun aa ww h => h.sub [1, 2, 3] (sS rfl <| sS rfl <| sS rfl <| sS rfl <| sN) (rR rfl rfl <| rR rfl rfl <| rR rfl rfl <| rN)) (fun s5 => ?_)
  refine gSeq <| gSR <| R rfl (mv rfl) <| R rfl (I.lss rfl rfl) <| gNil <| eThen <| gIf rfl rfl (fun h6 => ?_) (fun h6 => ?_)
  ·
   refine gSkip <| eThen <| gSeq <| gBlk <| gReg <| R rfl (mv rfl) <| R rfl (mv rfl) <| R rfl (I.quo rfl rfl (by decide)) <| lBind fun x7 h8 => R rfl (ixB 1 rfl rfl rfl h8 Tryz.underlying141 ti56) <| R rfl (ld 1 rfl rfl ((Foc.here).part (.el h8)) ty56 rfl) <| R rfl (mv rfl) <| R rfl (I.rem rfl rfl (by decide)) <| R rfl (I.mul rfl rfl) <| R rfl (I.sub rfl rfl) <| lBind fun u9 h10 => R rfl (W.shr rfl rfl (chk_some h10)) <| R rfl (W.toB rfl Tryz.underlying56 Tryz.underlying5) <| lBind fun x11 h12 => R rfl (ixB 3 rfl rfl rfl h12 Tryz.underlying27 ti5) <| Es (sto 3 rfl rfl ((Foc.here).part (.el h12)) rfl ti5) <| gNil <| eBlk <| eThen <| gReg <| R rfl (mv rfl) <| R rfl (I.add rfl rfl) <| R rfl (asg rfl) <| lName 4 rfl fun y13 => gNil <| eNext (fun aa ww h => h.sub [1, 2, 3] (sS rfl <| sS rfl <| sS rfl <| sS rfl <| sN) (rR rfl rfl <| rR rfl rfl <| rR rfl rfl <| rN))
  ·
   refine gExit <| eTexit <| eLeave <| eMid (fun aa ww h => h.sub [2, 3] (sS rfl <| sS rfl <| sN) (rR rfl rfl <| rR rfl rfl <| rN))
 ·
  refine gSR <| R rfl (ld 3 rfl rfl Foc.here ty27 rfl) <| Es (sto 2 rfl rfl Foc.here rfl ti27) <| gNil <| eThen <| gRet <| eRet [] [] rfl (eC 2 rfl rfl ty27 <| eN) (rN)
def braidref01_Of (a0 : List UInt8) : Option ((Vector UInt8 32)) :=
 braidref01_First >>= fun r2 =>
 app 1 ([] : List UInt8) a0 >>= fun x5 =>
 braidref01_tail (a0.length : Int) >>= fun r8 =>
 app 1 x5 r8 >>= fun x10 =>
 braidref01_blocks r2 x10 >>= fun r13 =>
 braidref01_written r13 >>= fun r15 =>
 some r15
theorem braidref01_Of_ok (a0 : List UInt8) : Spec Tryz.prog 74 [.rd (sliceR u8R) a0] [] (braidref01_Of a0) (fun r nv => ⟨[.rd (arrR 32 u8R) r], []⟩) := by
 refine spec 13 Tryz.func74 rfl rfl rfl fun H w => ?_
 refine gSR <| Eb rfl (allc 1 ti27 (.zr (R := (arrR 32 u8R)) (x := (Vector.replicate 32 0)) zr26)) fun v1 => gNil <| eThen <| gSR <| call [] [] rfl Tryz.func108 rfl rfl (braidref01_First_ok) (aN) rN fun r2 n3 => Ef rfl (lit (R := u8R) (([] : List UInt8) : List UInt8) 2 (pN) rfl Tryz.underlying103 ti5 rfl rfl) fun v4 => R rfl (mv rfl) <| lBind fun x5 h6 => Ef rfl (apn 2 rfl rfl rfl .rd h6 Tryz.underlying103 ti5 rfl rfl rfl) fun v7 => R rfl (mv rfl) <| R rfl (len' rfl .rd rfl Tryz.underlying103) <| call [] [(100, 3)] rfl Tryz.func109 rfl rfl (braidref01_tail_ok _) (aQ rfl <| aN) rN fun r8 n9 => lBind fun x10 h11 => Ef rfl (apn 2 rfl rfl rfl (.own 3 rfl) h11 Tryz.underlying103 ti5 rfl rfl rfl) fun v12 => lFrz 2 [10] rfl (fS rfl <| fN) <| call [] [] rfl Tryz.func107 rfl rfl (braidref01_blocks_ok _ _) (aQ rfl <| aQ rfl <| aN) rN fun r13 n14 => call [] [] rfl Tryz.func106 rfl rfl (braidref01_written_ok _) (aQ rfl <| aN) rN fun r15 n16 => Es (sto 1 rfl rfl Foc.here rfl ti27) <| gNil <| eThen <| gRet <| eRet [] [] rfl (eC 1 rfl rfl ty27 <| eN) (rN)
def braidref06_Of (a0 : api_Op) : Option ((Vector UInt8 32)) :=
 braidref06_Bytes a0 >>= fun r3 =>
 braidref01_Of r3 >>= fun r5 =>
 some r5
end Go.Proofs.YtjnheeekdadcpaaGreatDoor
namespace Go.Proofs.YtjnheeekdadcpaaGreatDoor
open Go Go.RowKit
set_option maxRecDepth 100000
set_option linter.unusedSimpArgs false
set_option linter.unusedVariables false
theorem braidref06_Of_ok (a0 : api_Op) : Spec Tryz.prog 58 [.rd R_api_Op a0] [] (braidref06_Of a0) (fun r nv => ⟨[.rd (arrR 32 u8R) r], []⟩) := by
 refine spec 6 Tryz.func58 rfl rfl rfl fun H w => ?_
 refine gSR <| Eb rfl (bx 1 rfl) fun v1 => Eb rfl (allc 2 ti27 (.zr (R := (arrR 32 u8R)) (x := (Vector.replicate 32 0)) zr26)) fun v2 => gNil <| eThen <| gSR <| R rfl (ld 1 rfl rfl Foc.here ty65 rfl) <| call [] [(100, 3)] rfl Tryz.func75 rfl rfl (braidref06_Bytes_ok _) (aQ rfl <| aN) rN fun r3 n4 => lFrz 3 [4] rfl (fS rfl <| fN) <| call [] [] rfl Tryz.func74 rfl rfl (braidref01_Of_ok _) (aQ rfl <| aN) rN fun r5 n6 => Es (sto 2 rfl rfl Foc.here rfl ti27) <| gNil <| eThen <| gRet <| eRet [] [] rfl (eC 2 rfl rfl ty27 <| eN) (rN)
def braidref01_Cmp_L0 (a0 : Vector UInt8 32) (a1 : Vector UInt8 32) (s4 : Int) : Option (Sum (Sum Int Unit) Int) :=
 if decide (s4 < 32) then
  vidx a0 s4 >>= fun x6 =>
  vidx a1 s4 >>= fun x8 =>
  if decide (x6 < x8) then
   some (.inl (.inl (-1)))
  else
   vidx a0 s4 >>= fun x11 =>
   vidx a1 s4 >>= fun x13 =>
   if decide (x13 < x11) then
    some (.inl (.inl 1))
   else
    some (.inr (w64 (s4 + 1)))
 else
  some (.inl (.inr ()))
def braidref01_Cmp (a0 : Vector UInt8 32) (a1 : Vector UInt8 32) : Option (Int) :=
 orRet (iter (braidref01_Cmp_L0 a0 a1) 0) fun s3 =>
 some 0
theorem braidref01_Cmp_ok (a0 : Vector UInt8 32) (a1 : Vector UInt8 32) : Spec Tryz.prog 65 [.rd (arrR 32 u8R) a0, .rd (arrR 32 u8R) a1] [] (braidref01_Cmp a0 a1) (fun r nv => ⟨[.rd i64R r], []⟩) := by
 refine spec 24 Tryz.func65 rfl rfl rfl fun H w => ?_
 refine gSR <| Eb rfl (bx 1 rfl) fun v1 => Eb rfl (bx 2 rfl) fun v2 => R rfl (asg rfl) <| gNil <| eThen <| gMidR (fun (s3 : Unit) aa ww => Sta (ctx 24 H [] w) [] [] aa ww) ?_ (fun s3 => ?_)
 ·
  refine gSR <| R rfl (asg rfl) <| gNil <| eThen <| gLoop (fun (s4 : Int) aa ww => Sta (ctx 24 H [] w) [(2, .val (ptrTo v1 0)), (3, .val (ptrTo v2 0)), (5, .rd i64R s4)] [(1, some (v1, .box 27 [.rd (arrR 32 u8R) a0])), (2, some (v2, .box 27 [.rd (arrR 32 u8R) a1]))] aa ww) (fun aa ww h => h.sub [1, 2] (sS rfl <| sS rfl <| sS rfl <| sN) (rR rfl rfl <| rR rfl rfl <| rN)) (fun s4 => ?_)
  refine gSeq <| gSR <| R rfl (mv rfl) <| R rfl (I.lss rfl rfl) <| gNil <| eThen <| gIf rfl rfl (fun h5 => ?_) (fun h5 => ?_)
  ·
   refine gSkip <| eThen <| gSeq <| gBlk <| gSeq <| gSeq <| gRegQ mixed (by kernel_rfl) <| Rq rfl (mv rfl) <| qBind fun x6 h7 => Rq rfl (ixB 1 rfl rfl rfl h7 Tryz.underlying27 ti5) <| Rq rfl (ld 1 rfl rfl ((Foc.here).part (.el h7)) ty5 rfl) <| Rq rfl (mv rfl) <| qBind fun x8 h9 => Rq rfl (ixB 2 rfl rfl rfl h9 Tryz.underlying27 ti5) <| Rq rfl (ld 2 rfl rfl ((Foc.here).part (.el h9)) ty5 rfl) <| Rq rfl (B.lss rfl rfl) <| qNil <| eThen <| gIf rfl rfl (fun h10 => ?_) (fun h10 => ?_)
   ·
    refine gSR <| R rfl (asg rfl) <| gNil <| eThen <| gRet <| eTret <| eBret <| eTret <| eLret <| eMret <| eRet [] [] rfl (eE rfl <| eN) (rN)
   ·
    refine gSkip <| eThen <| gSeq <| gRegQ mixed (by kernel_rfl) <| Rq rfl (mv rfl) <| qBind fun x11 h12 => Rq rfl (ixB 1 rfl rfl rfl h12 Tryz.underlying27 ti5) <| Rq rfl (ld 1 rfl rfl ((Foc.here).part (.el h12)) ty5 rfl) <| Rq rfl (mv rfl) <| qBind fun x13 h14 => Rq rfl (ixB 2 rfl rfl rfl h14 Tryz.underlying27 ti5) <| Rq rfl (ld 2 rfl rfl ((Foc.here).part (.el h14)) ty5 rfl) <| Rq rfl (B.gtr rfl rfl) <| qNil <| eThen <| gIf rfl rfl (fun h15 => ?_) (fun h15 => ?_)
    ·
     refine gSR <| R rfl (asg rfl) <| gNil <| eThen <| gRet <| eBret <| eTret <| eLret <| eMret <| eRet [] [] rfl (eE rfl <| eN) (rN)
    ·
     refine gSkip <| eBlk <| eThen <| gReg <| R rfl (mv rfl) <| R rfl (I.add rfl rfl) <| R rfl (asg rfl) <| gNil <| eNext (fun aa ww h => h.sub [1, 2] (sS rfl <| sS rfl <| sS rfl <| sN) (rR rfl rfl <| rR rfl rfl <| rN))
  ·
   refine gExit <| eTexit <| eLeave <| eMidR (fun aa ww h => h.sub [] (sN) (rN))
 ·
  refine gSR <| R rfl (asg rfl) <| gNil <| eThen <| gRet <| eRet [] [] rfl (eE rfl <| eN) (rN)
def braidref04_Rising_L0 (a0 : List (Vector UInt8 32)) (s2 : Int) : Option (Sum (Sum Bool Unit) Int) :=
 if decide (s2 < (a0.length : Int)) then
  idx a0 (w64 (s2 - 1)) >>= fun x4 =>
  idx a0 s2 >>= fun x6 =>
  braidref01_Cmp x4 x6 >>= fun r8 =>
  if decide (0 ≤ r8) then
   some (.inl (.inl false))
  else
   some (.inr (w64 (s2 + 1)))
 else
  some (.inl (.inr ()))
def braidref04_Rising (a0 : List (Vector UInt8 32)) : Option (Bool) :=
 orRet (iter (braidref04_Rising_L0 a0) 1) fun s1 =>
 some true
theorem braidref04_Rising_ok (a0 : List (Vector UInt8 32)) : Spec Tryz.prog 76 [.rd (sliceR (arrR 32 u8R)) a0] [] (braidref04_Rising a0) (fun r nv => ⟨[.rd boolR r], []⟩) := by
 refine spec 21 Tryz.func76 rfl rfl rfl fun H w => ?_
 refine gSR <| R rfl (asg rfl) <| gNil <| eThen <| gMidR (fun (s1 : Unit) aa ww => Sta (ctx 21 H [] w) [] [] aa ww) ?_ (fun s1 => ?_)
 ·
  refine gSR <| R rfl (asg rfl) <| gNil <| eThen <| gLoop (fun (s2 : Int) aa ww => Sta (ctx 21 H [] w) [(0, .rd (sliceR (arrR 32 u8R)) a0), (3, .rd i64R s2)] [] aa ww) (fun aa ww h => h.sub [] (sS rfl <| sS rfl <| sN) (rN)) (fun s2 => ?_)
  refine gSeq <| gSR <| R rfl (mv rfl) <| R rfl (mv rfl) <| R rfl (len' rfl .rd rfl Tryz.underlying22) <| R rfl (I.lss rfl rfl) <| gNil <| eThen <| gIf rfl rfl (fun h3 => ?_) (fun h3 => ?_)
  ·
   refine gSkip <| eThen <| gSeq <| gBlk <| gSeq <| gRegH [] mixed rfl rfl <| hTk 0 rfl rfl (mv rfl) <| hTk 1 rfl rfl (mv rfl) <| hTk 2 rfl rfl (I.sub rfl rfl) <| hBind fun x4 h5 => hTk 3 rfl rfl (ixR rfl rfl h5 Tryz.underlying22 ti27 rfl) <| hTk 4 rfl rfl (ldR rfl ty27) <| hTk 5 rfl rfl (mv rfl) <| hTk 6 rfl rfl (mv rfl) <| hBind fun x6 h7 => hTk 7 rfl rfl (ixR rfl rfl h7 Tryz.underlying22 ti27 rfl) <| hTk 8 rfl rfl (ldR rfl ty27) <| hCallF 9 [] [] rfl (by kernel_rfl) rfl (gd0 rfl) rfl Tryz.func65 rfl rfl (braidref01_Cmp_ok _ _) (aQ rfl <| aQ rfl <| aN) rN rfl (fun _ _ => flat_num) fun r8 n9 => hTk 10 rfl rfl (I.geq rfl rfl) <| hDone (by kernel_rfl) <| eThen <| gIf rfl rfl (fun h10 => ?_) (fun h10 => ?_)
   ·
    refine gSR <| R rfl (asg rfl) <| gNil <| eThen <| gRet <| eBret <| eTret <| eLret <| eMret <| eRet [] [] rfl (eE rfl <| eN) (rN)
   ·
    refine gSkip <| eBlk <| eThen <| gReg <| R rfl (mv rfl) <| R rfl (I.add rfl rfl) <| R rfl (asg rfl) <| gNil <| eNext (fun aa ww h => h.sub [] (sS rfl <| sS rfl <| sN) (rN))
  ·
   refine gExit <| eTexit <| eLeave <| eMidR (fun aa ww h => h.sub [] (sN) (rN))
 ·
  refine gSR <| R rfl (asg rfl) <| gNil <| eThen <| gRet <| eRet [] [] rfl (eE rfl <| eN) (rN)
def braidref02_Power_L0 (a2 : UInt64) (s2 : UInt64 × UInt64 × UInt64) : Option (Sum UInt64 (UInt64 × UInt64 × UInt64)) :=
 if decide (0 < s2.2.1) then
  (if (s2.2.1 % 2) == 1 then
   chk (a2 ≠ 0) >>= fun u6 =>
   some ((s2.2.2 * s2.1) % a2) >>= fun y8 =>
   some y8
  else
   some s2.2.2) >>= fun s4 =>
  chk (a2 ≠ 0) >>= fun u9 =>
  some ((s2.1 * s2.1) % a2) >>= fun y11 =>
  some (.inr (y11, s2.2.1 / 2, s4))
 else
  some (.inl s2.2.2)
def braidref02_Power (a0 : UInt64) (a1 : UInt64) (a2 : UInt64) : Option (UInt64) :=
 (iter (braidref02_Power_L0 a2) (a0, a1, 1)) >>= fun s1 =>
 some s1
theorem braidref02_Power_ok (a0 : UInt64) (a1 : UInt64) (a2 : UInt64) : Spec Tryz.prog 130 [.rd u64R a0, .rd u64R a1, .rd u64R a2] [] (braidref02_Power a0 a1 a2) (fun r nv => ⟨[.rd u64R r], []⟩) := by
 refine spec 26 Tryz.func130 rfl rfl rfl fun H w => ?_
 refine gSR <| R rfl (asg rfl) <| gNil <| eThen <| gSR <| R rfl (asg rfl) <| gNil <| eThen <| gMid (fun (s1 : UInt64) aa ww => Sta (ctx 26 H [] w) [(7, .rd u64R s1)] [] aa ww) ?_ (fun s1 => ?_)
 ·
  refine gLoop (fun (s2 : UInt64 × UInt64 × UInt64) aa ww => Sta (ctx 26 H [] w) [(0, .rd u64R s2.1), (1, .rd u64R s2.2.1), (2, .rd u64R a2), (7, .rd u64R s2.2.2)] [] aa ww) (fun aa ww h => h.sub [] (sS rfl <| sS rfl <| sS rfl <| sS rfl <| sN) (rN)) (fun s2 => ?_)
  refine gSeq <| gSR <| R rfl (mv rfl) <| R rfl (U.gtr rfl rfl) <| gNil <| eThen <| gIf rfl rfl (fun h3 => ?_) (fun h3 => ?_)
  ·
   refine gSkip <| eThen <| gBlk <| gMid (fun (s4 : UInt64) aa ww => Sta (ctx 26 H [] w) [(0, .rd u64R s2.1), (1, .rd u64R s2.2.1), (2, .rd u64R a2), (7, .rd u64R s4)] [] aa ww) ?_ (fun s4 => ?_)
   ·
    refine gSR <| R rfl (mv rfl) <| R rfl (U.rem rfl rfl (by decide)) <| R rfl (U.eql rfl rfl) <| gNil <| eThen <| gIf rfl rfl (fun h5 => ?_) (fun h5 => ?_)
    ·
     refine gReg <| R rfl (mv rfl) <| R rfl (mv rfl) <| R rfl (U.mul rfl rfl) <| R rfl (mv rfl) <| lBind fun u6 h7 => R rfl (U.rem rfl rfl (chk_some h7)) <| R rfl (asg rfl) <| lName 7 rfl fun y8 => gNil <| eMid (fun aa ww h => h.sub [] (sS rfl <| sS rfl <| sS rfl <| sS rfl <| sN) (rN))
    ·
     refine gSkip <| eMid (fun aa ww h => h.sub [] (sS rfl <| sS rfl <| sS rfl <| sS rfl <| sN) (rN))
   ·
    refine gSR <| R rfl (mv rfl) <| R rfl (mv rfl) <| R rfl (U.mul rfl rfl) <| R rfl (mv rfl) <| lBind fun u9 h10 => R rfl (U.rem rfl rfl (chk_some h10)) <| R rfl (asg rfl) <| lName 0 rfl fun y11 => gNil <| eThen <| gReg <| R rfl (mv rfl) <| R rfl (U.quo rfl rfl (by decide)) <| R rfl (asg rfl) <| gNil <| eBlk <| eNext (fun aa ww h => h.sub [] (sS rfl <| sS rfl <| sS rfl <| sS rfl <| sN) (rN))
  ·
   refine gExit <| eTexit <| eLeave <| eMid (fun aa ww h => h.sub [] (sS rfl <| sN) (rN))
 ·
  refine gSR <| R rfl (mv rfl) <| R rfl (asg rfl) <| gNil <| eThen <| gRet <| eRet [] [] rfl (eE rfl <| eN) (rN)
def braidref02_Is (a0 : UInt32) : Option (Bool) :=
 if decide (1 ≤ a0) then
  if decide (a0 < 1000000007) then
   braidref02_Power a0.toUInt64 500000003 1000000007 >>= fun r3 =>
   some (r3 == 1)
  else
   some false
 else
  some false
theorem braidref02_Is_ok (a0 : UInt32) : Spec Tryz.prog 101 [.rd u32R a0] [] (braidref02_Is a0) (fun r nv => ⟨[.rd boolR r], []⟩) := by
 refine spec 15 Tryz.func101 rfl rfl rfl fun H w => ?_
 refine gSR <| R rfl (asg rfl) <| gNil <| eThen <| gSR <| R rfl (mv rfl) <| R rfl (W.geq rfl rfl) <| R rfl (mv rfl) <| lSplit 5 rfl (fun h1 => ?_) (fun h1 => ?_)
 ·
  refine lKn 4 rfl h1 <| lRun (gd rfl rfl rfl rfl) rfl rfl (mv rfl) <| lRun (gd rfl rfl rfl rfl) rfl rfl (W.lss rfl rfl) <| R rfl (pkT rfl rfl) <| R rfl (mv rfl) <| lSplit 9 rfl (fun h2 => ?_) (fun h2 => ?_)
  ·
   refine lKn 7 rfl h2 <| lKn 8 rfl h2 <| lRun (gd rfl rfl rfl rfl) rfl rfl (mv rfl) <| lRun (gd rfl rfl rfl rfl) rfl rfl (W.toU rfl Tryz.underlying56 Tryz.underlying57) <| callg [] [] (gd rfl rfl rfl rfl) rfl Tryz.func130 rfl rfl (braidref02_Power_ok _ _ _) (aQ rfl <| aQ rfl <| aQ rfl <| aN) rN fun r3 n4 => lRun (gd rfl rfl rfl rfl) rfl rfl (U.eql rfl rfl) <| R rfl (pkT rfl rfl) <| R rfl (asg rfl) <| gNil <| eThen <| gRet <| eRet [] [] rfl (eE rfl <| eN) (rN)
  ·
   refine lKn 7 rfl h2 <| lKn 8 rfl h2 <| lSkip (gd rfl rfl rfl rfl) rfl rfl <| lSkip (gd rfl rfl rfl rfl) rfl rfl <| lSkip (gd rfl rfl rfl rfl) rfl rfl <| lSkip (gd rfl rfl rfl rfl) rfl rfl <| R rfl (pkF rfl rfl) <| R rfl (asg rfl) <| gNil <| eThen <| gRet <| eRet [] [] rfl (eE rfl <| eN) (rN)
 ·
  refine lKn 4 rfl h1 <| lSkip (gd rfl rfl rfl rfl) rfl rfl <| lSkip (gd rfl rfl rfl rfl) rfl rfl <| R rfl (pkF rfl rfl) <| R rfl (mv rfl) <| lSkip (gd rfl rfl rfl rfl) rfl rfl <| lSkip (gd rfl rfl rfl rfl) rfl rfl <| lSkip (gd rfl rfl rfl rfl) rfl rfl <| lSkip (gd rfl rfl rfl rfl) rfl rfl <| R rfl (pkF rfl rfl) <| R rfl (asg rfl) <| gNil <| eThen <| gRet <| eRet [] [] rfl (eE rfl <| eN) (rN)
def braidref06_Name_L0 (a0 : List UInt8) (s4 : Int) : Option (Sum (Sum Bool Unit) Int) :=
 if decide (s4 < (a0.length : Int)) then
  idx a0 s4 >>= fun x6 =>
  if decide (x6 < 33) then
   some (.inl (.inl false))
  else
   idx a0 s4 >>= fun x9 =>
   if decide (126 < x9) then
    some (.inl (.inl false))
   else
    some (.inr (w64 (s4 + 1)))
 else
  some (.inl (.inr ()))
def braidref06_Name (a0 : List UInt8) : Option (Bool) :=
 if decide ((a0.length : Int) < 1) then
  some false
 else
  if decide (20 < (a0.length : Int)) then
   some false
  else
   orRet (iter (braidref06_Name_L0 a0) 0) fun s3 =>
   some true
theorem braidref06_Name_ok (a0 : List UInt8) : Spec Tryz.prog 131 [.rd strR a0] [] (braidref06_Name a0) (fun r nv => ⟨[.rd boolR r], []⟩) := by
 refine spec 28 Tryz.func131 rfl rfl rfl fun H w => ?_
 refine gSR <| R rfl (asg rfl) <| gNil <| eThen <| gSeq <| gSR <| R rfl (mv rfl) <| R rfl (lenT rfl rfl Tryz.underlying9) <| R rfl (I.lss rfl rfl) <| R rfl (mv rfl) <| lSplit 7 rfl (fun h1 => ?_) (fun h1 => ?_)
 ·
  refine lKn 6 rfl h1 <| lSkip (gd rfl rfl rfl rfl) rfl rfl <| lSkip (gd rfl rfl rfl rfl) rfl rfl <| lSkip (gd rfl rfl rfl rfl) rfl rfl <| R rfl (pkT rfl rfl) <| gNil <| eThen <| gTrue rfl <| gSR <| R rfl (asg rfl) <| gNil <| eThen <| gRet <| eTret <| eRet [] [] rfl (eE rfl <| eN) (rN)
 ·
  refine lKn 6 rfl h1 <| lRun (gd rfl rfl rfl rfl) rfl rfl (mv rfl) <| lRun (gd rfl rfl rfl rfl) rfl rfl (lenT rfl rfl Tryz.underlying9) <| lRun (gd rfl rfl rfl rfl) rfl rfl (I.gtr rfl rfl) <| R rfl (pkF rfl rfl) <| gNil <| eThen <| gIf rfl rfl (fun h2 => ?_) (fun h2 => ?_)
  ·
   refine gKn 10 rfl h2 <| gSR <| R rfl (asg rfl) <| gNil <| eThen <| gRet <| eTret <| eRet [] [] rfl (eE rfl <| eN) (rN)
  ·
   refine gKn 10 rfl h2 <| gSkip <| eThen <| gMidR (fun (s3 : Unit) aa ww => Sta (ctx 28 H [] w) [] [] aa ww) ?_ (fun s3 => ?_)
   ·
    refine gSR <| R rfl (asg rfl) <| gNil <| eThen <| gLoop (fun (s4 : Int) aa ww => Sta (ctx 28 H [] w) [(0, .rd strR a0), (3, .rd i64R s4)] [] aa ww) (fun aa ww h => h.sub [] (sS rfl <| sS rfl <| sN) (rN)) (fun s4 => ?_)
    refine gSeq <| gSR <| R rfl (mv rfl) <| R rfl (mv rfl) <| R rfl (lenT rfl rfl Tryz.underlying9) <| R rfl (I.lss rfl rfl) <| gNil <| eThen <| gIf rfl rfl (fun h5 => ?_) (fun h5 => ?_)
    ·
     refine gSkip <| eThen <| gSeq <| gBlk <| gSR <| R rfl (mv rfl) <| R rfl (mv rfl) <| lBind fun x6 h7 => R rfl (idxT rfl rfl Tryz.underlying9 (idx_some h7).1 (idx_some h7).2.1) <| R rfl (B.lss rfl rfl) <| R rfl (mv rfl) <| lSplit 22 rfl (fun h8 => ?_) (fun h8 => ?_)
     ·
      refine lKn 21 rfl h8 <| lSkip (gd rfl rfl rfl rfl) rfl rfl <| lSkip (gd rfl rfl rfl rfl) rfl rfl <| lSkip (gd rfl rfl rfl rfl) rfl rfl <| lSkip (gd rfl rfl rfl rfl) rfl rfl <| R rfl (pkT rfl rfl) <| gNil <| eThen <| gTrue rfl <| gSR <| R rfl (asg rfl) <| gNil <| eThen <| gRet <| eBret <| eTret <| eLret <| eMret <| eRet [] [] rfl (eE rfl <| eN) (rN)
     ·
      refine lKn 21 rfl h8 <| lRun (gd rfl rfl rfl rfl) rfl rfl (mv rfl) <| lRun (gd rfl rfl rfl rfl) rfl rfl (mv rfl) <| lBind fun x9 h10 => lRun (gd rfl rfl rfl rfl) rfl rfl (idxT rfl rfl Tryz.underlying9 (idx_some h10).1 (idx_some h10).2.1) <| lRun (gd rfl rfl rfl rfl) rfl rfl (B.gtr rfl rfl) <| R rfl (pkF rfl rfl) <| gNil <| eThen <| gIf rfl rfl (fun h11 => ?_) (fun h11 => ?_)
      ·
       refine gKn 26 rfl h11 <| gSR <| R rfl (asg rfl) <| gNil <| eThen <| gRet <| eBret <| eTret <| eLret <| eMret <| eRet [] [] rfl (eE rfl <| eN) (rN)
      ·
       refine gKn 26 rfl h11 <| gSkip <| eBlk <| eThen <| gReg <| R rfl (mv rfl) <| R rfl (I.add rfl rfl) <| R rfl (asg rfl) <| gNil <| eNext (fun aa ww h => h.sub [] (sS rfl <| sS rfl <| sN) (rN))
    ·
     refine gExit <| eTexit <| eLeave <| eMidR (fun aa ww h => h.sub [] (sN) (rN))
   ·
    refine gSR <| R rfl (asg rfl) <| gNil <| eThen <| gRet <| eRet [] [] rfl (eE rfl <| eN) (rN)
def braidref05_Exponent (a0 : UInt64) : Option (Int) :=
 some (w64 (((a0 % 9223372036854775808) / 4503599627370496).toNat : Int)) >>= fun y1 =>
 some y1
theorem braidref05_Exponent_ok (a0 : UInt64) : Spec Tryz.prog 169 [.rd u64R a0] [] (braidref05_Exponent a0) (fun r nv => ⟨[.rd i64R r], []⟩) := by
 refine spec 7 Tryz.func169 rfl rfl rfl fun H w => ?_
 refine gSR <| R rfl (asg rfl) <| gNil <| eThen <| gSR <| R rfl (mv rfl) <| R rfl (U.rem rfl rfl (by decide)) <| R rfl (U.quo rfl rfl (by decide)) <| R rfl (U.toI rfl Tryz.underlying57 Tryz.underlying3) <| R rfl (asg rfl) <| lName 2 rfl fun y1 => gNil <| eThen <| gRet <| eRet [] [] rfl (eE rfl <| eN) (rN)
def braidref05_Fraction (a0 : UInt64) : Option (UInt64) :=
 some (a0 % 4503599627370496) >>= fun y1 =>
 some y1
theorem braidref05_Fraction_ok (a0 : UInt64) : Spec Tryz.prog 170 [.rd u64R a0] [] (braidref05_Fraction a0) (fun r nv => ⟨[.rd u64R r], []⟩) := by
 refine spec 5 Tryz.func170 rfl rfl rfl fun H w => ?_
 refine gSR <| R rfl (asg rfl) <| gNil <| eThen <| gSR <| R rfl (mv rfl) <| R rfl (U.rem rfl rfl (by decide)) <| R rfl (asg rfl) <| lName 2 rfl fun y1 => gNil <| eThen <| gRet <| eRet [] [] rfl (eE rfl <| eN) (rN)
def braidref05_Class (a0 : UInt64) : Option (UInt8) :=
 braidref05_Exponent a0 >>= fun r1 =>
 braidref05_Fraction a0 >>= fun r3 =>
 orRet (if r1 == 0 then
  if r3 == 0 then
   some (.inl 1)
  else
   some (.inr ())
 else
  some (.inr ())) fun s5 =>
 if r1 == 0 then
  some 2
 else
  if decide (r1 < 2047) then
   some 3
  else
   if r3 == 0 then
    some 4
   else
    some 5
theorem braidref05_Class_ok (a0 : UInt64) : Spec Tryz.prog 166 [.rd u64R a0] [] (braidref05_Class a0) (fun r nv => ⟨[.rd u8R r], []⟩) := by
 refine spec 21 Tryz.func166 rfl rfl rfl fun H w => ?_
 refine gSR <| R rfl (asg rfl) <| gNil <| eThen <| gSR <| R rfl (mv rfl) <| call [] [] rfl Tryz.func169 rfl rfl (braidref05_Exponent_ok _) (aQ rfl <| aN) rN fun r1 n2 => R rfl (mv rfl) <| call [] [] rfl Tryz.func170 rfl rfl (braidref05_Fraction_ok _) (aQ rfl <| aN) rN fun r3 n4 => R rfl (asg rfl) <| R rfl (asg rfl) <| gNil <| eThen <| gMidR (fun (s5 : Unit) aa ww => Sta (ctx 21 H [] w) [(3, .rd i64R r1), (4, .rd u64R r3)] [] aa ww) ?_ (fun s5 => ?_)
 ·
  refine gSR <| R rfl (mv rfl) <| R rfl (I.eql rfl rfl) <| R rfl (mv rfl) <| lSplit 11 rfl (fun h6 => ?_) (fun h6 => ?_)
  ·
   refine lKn 10 rfl h6 <| lRun (gd rfl rfl rfl rfl) rfl rfl (mv rfl) <| lRun (gd rfl rfl rfl rfl) rfl rfl (U.eql rfl rfl) <| R rfl (pkT rfl rfl) <| gNil <| eThen <| gIf rfl rfl (fun h7 => ?_) (fun h7 => ?_)
   ·
    refine gKn 13 rfl h7 <| gSR <| R rfl (asg rfl) <| gNil <| eThen <| gRet <| eMret <| eRet [] [] rfl (eE rfl <| eN) (rN)
   ·
    refine gKn 13 rfl h7 <| gSkip <| eMidR (fun aa ww h => h.sub [] (sS rfl <| sS rfl <| sN) (rN))
  ·
   refine lKn 10 rfl h6 <| lSkip (gd rfl rfl rfl rfl) rfl rfl <| lSkip (gd rfl rfl rfl rfl) rfl rfl <| R rfl (pkF rfl rfl) <| gNil <| eThen <| gFalse rfl <| gSkip <| eMidR (fun aa ww h => h.sub [] (sS rfl <| sS rfl <| sN) (rN))
 ·
  refine gSeq <| gSR <| R rfl (mv rfl) <| R rfl (I.eql rfl rfl) <| gNil <| eThen <| gIf rfl rfl (fun h8 => ?_) (fun h8 => ?_)
  ·
   refine gSR <| R rfl (asg rfl) <| gNil <| eThen <| gRet <| eTret <| eRet [] [] rfl (eE rfl <| eN) (rN)
  ·
   refine gSkip <| eThen <| gSeq <| gSR <| R rfl (mv rfl) <| R rfl (I.lss rfl rfl) <| gNil <| eThen <| gIf rfl rfl (fun h9 => ?_) (fun h9 => ?_)
   ·
    refine gSR <| R rfl (asg rfl) <| gNil <| eThen <| gRet <| eTret <| eRet [] [] rfl (eE rfl <| eN) (rN)
   ·
    refine gSkip <| eThen <| gSeq <| gSR <| R rfl (mv rfl) <| R rfl (U.eql rfl rfl) <| gNil <| eThen <| gIf rfl rfl (fun h10 => ?_) (fun h10 => ?_)
    ·
     refine gSR <| R rfl (asg rfl) <| gNil <| eThen <| gRet <| eTret <| eRet [] [] rfl (eE rfl <| eN) (rN)
    ·
     refine gSkip <| eThen <| gSR <| R rfl (asg rfl) <| gNil <| eThen <| gRet <| eRet [] [] rfl (eE rfl <| eN) (rN)
def braidref05_Canon (a0 : UInt64) : Option (UInt64) :=
 braidref05_Class a0 >>= fun r1 =>
 if r1 == 5 then
  some 9221120237041090560
 else
  some a0
theorem braidref05_Canon_ok (a0 : UInt64) : Spec Tryz.prog 153 [.rd u64R a0] [] (braidref05_Canon a0) (fun r nv => ⟨[.rd u64R r], []⟩) := by
 refine spec 7 Tryz.func153 rfl rfl rfl fun H w => ?_
 refine gSR <| R rfl (asg rfl) <| gNil <| eThen <| gSeq <| gSR <| R rfl (mv rfl) <| call [] [] rfl Tryz.func166 rfl rfl (braidref05_Class_ok _) (aQ rfl <| aN) rN fun r1 n2 => R rfl (B.eql rfl rfl) <| gNil <| eThen <| gIf rfl rfl (fun h3 => ?_) (fun h3 => ?_)
 ·
  refine gSR <| R rfl (asg rfl) <| gNil <| eThen <| gRet <| eTret <| eRet [] [] rfl (eE rfl <| eN) (rN)
 ·
  refine gSkip <| eThen <| gSR <| R rfl (mv rfl) <| R rfl (asg rfl) <| gNil <| eThen <| gRet <| eRet [] [] rfl (eE rfl <| eN) (rN)
def braidref05_Printable_L0 (a0 : List UInt8) (s2 : Int) : Option (Sum (Sum Bool Unit) Int) :=
 if decide (s2 < (a0.length : Int)) then
  idx a0 s2 >>= fun x4 =>
  if decide (x4 < 32) then
   some (.inl (.inl false))
  else
   idx a0 s2 >>= fun x7 =>
   if decide (126 < x7) then
    some (.inl (.inl false))
   else
    some (.inr (w64 (s2 + 1)))
 else
  some (.inl (.inr ()))
def braidref05_Printable (a0 : List UInt8) : Option (Bool) :=
 orRet (iter (braidref05_Printable_L0 a0) 0) fun s1 =>
 some true
theorem braidref05_Printable_ok (a0 : List UInt8) : Spec Tryz.prog 154 [.rd strR a0] [] (braidref05_Printable a0) (fun r nv => ⟨[.rd boolR r], []⟩) := by
 refine spec 20 Tryz.func154 rfl rfl rfl fun H w => ?_
 refine gSR <| R rfl (asg rfl) <| gNil <| eThen <| gMidR (fun (s1 : Unit) aa ww => Sta (ctx 20 H [] w) [] [] aa ww) ?_ (fun s1 => ?_)
 ·
  refine gSR <| R rfl (asg rfl) <| gNil <| eThen <| gLoop (fun (s2 : Int) aa ww => Sta (ctx 20 H [] w) [(0, .rd strR a0), (3, .rd i64R s2)] [] aa ww) (fun aa ww h => h.sub [] (sS rfl <| sS rfl <| sN) (rN)) (fun s2 => ?_)
  refine gSeq <| gSR <| R rfl (mv rfl) <| R rfl (mv rfl) <| R rfl (lenT rfl rfl Tryz.underlying9) <| R rfl (I.lss rfl rfl) <| gNil <| eThen <| gIf rfl rfl (fun h3 => ?_) (fun h3 => ?_)
  ·
   refine gSkip <| eThen <| gSeq <| gBlk <| gSR <| R rfl (mv rfl) <| R rfl (mv rfl) <| lBind fun x4 h5 => R rfl (idxT rfl rfl Tryz.underlying9 (idx_some h5).1 (idx_some h5).2.1) <| R rfl (B.lss rfl rfl) <| R rfl (mv rfl) <| lSplit 14 rfl (fun h6 => ?_) (fun h6 => ?_)
   ·
    refine lKn 13 rfl h6 <| lSkip (gd rfl rfl rfl rfl) rfl rfl <| lSkip (gd rfl rfl rfl rfl) rfl rfl <| lSkip (gd rfl rfl rfl rfl) rfl rfl <| lSkip (gd rfl rfl rfl rfl) rfl rfl <| R rfl (pkT rfl rfl) <| gNil <| eThen <| gTrue rfl <| gSR <| R rfl (asg rfl) <| gNil <| eThen <| gRet <| eBret <| eTret <| eLret <| eMret <| eRet [] [] rfl (eE rfl <| eN) (rN)
   ·
    refine lKn 13 rfl h6 <| lRun (gd rfl rfl rfl rfl) rfl rfl (mv rfl) <| lRun (gd rfl rfl rfl rfl) rfl rfl (mv rfl) <| lBind fun x7 h8 => lRun (gd rfl rfl rfl rfl) rfl rfl (idxT rfl rfl Tryz.underlying9 (idx_some h8).1 (idx_some h8).2.1) <| lRun (gd rfl rfl rfl rfl) rfl rfl (B.gtr rfl rfl) <| R rfl (pkF rfl rfl) <| gNil <| eThen <| gIf rfl rfl (fun h9 => ?_) (fun h9 => ?_)
    ·
     refine gKn 18 rfl h9 <| gSR <| R rfl (asg rfl) <| gNil <| eThen <| gRet <| eBret <| eTret <| eLret <| eMret <| eRet [] [] rfl (eE rfl <| eN) (rN)
    ·
     refine gKn 18 rfl h9 <| gSkip <| eBlk <| eThen <| gReg <| R rfl (mv rfl) <| R rfl (I.add rfl rfl) <| R rfl (asg rfl) <| gNil <| eNext (fun aa ww h => h.sub [] (sS rfl <| sS rfl <| sN) (rN))
  ·
   refine gExit <| eTexit <| eLeave <| eMidR (fun aa ww h => h.sub [] (sN) (rN))
 ·
  refine gSR <| R rfl (asg rfl) <| gNil <| eThen <| gRet <| eRet [] [] rfl (eE rfl <| eN) (rN)
def braidref05_Check (a0 : api_Value) : Option (Int) :=
 if a0.Kind == 1 then
  if a0.Bits == 0 then
   if a0.Text == [] then
    some 0
   else
    some 8
  else
   some 8
 else
  if a0.Kind == 2 then
   (if a0.Num == 0 then
    if a0.Text == [] then
     braidref05_Canon a0.Bits >>= fun r9 =>
     some (r9 == a0.Bits)
    else
     some false
   else
    some false) >>= fun s6 =>
   if s6 then
    some 0
   else
    some 8
  else
   if a0.Kind == 3 then
    (if a0.Num == 0 then
     if a0.Bits == 0 then
      if decide ((a0.Text.length : Int) ≤ 30) then
       braidref05_Printable a0.Text >>= fun r17 =>
       some r17
      else
       some false
     else
      some false
    else
     some false) >>= fun s13 =>
    if s13 then
     some 0
    else
     some 8
   else
    some 8
theorem braidref05_Check_ok (a0 : api_Value) : Spec Tryz.prog 132 [.rd R_api_Value a0] [] (braidref05_Check a0) (fun r nv => ⟨[.rd i64R r], []⟩) := by
 refine spec 54 Tryz.func132 rfl rfl rfl fun H w => ?_
 refine gSR <| Eb rfl (bx 1 rfl) fun v1 => R rfl (asg rfl) <| gNil <| eThen <| gSeq <| gSR <| R rfl (faB 1 rfl rfl Tryz.underlying59 rfl (by exact ti5)) <| R rfl (ld 1 rfl rfl ((Foc.here).part (pt_api_Value_Kind _)) ty5 rfl) <| gNil <| eThen <| gBlk <| gSR <| R rfl (B.eql rfl rfl) <| R rfl (asg rfl) <| gNil <| eThen <| gIf rfl rfl (fun h2 => ?_) (fun h2 => ?_)
 ·
  refine gKn 6 rfl h2 <| gSR <| R rfl (faB 1 rfl rfl Tryz.underlying59 rfl (by exact ti57)) <| R rfl (ld 1 rfl rfl ((Foc.here).part (pt_api_Value_Bits _)) ty57 rfl) <| R rfl (U.eql rfl rfl) <| R rfl (mv rfl) <| lSplit 10 rfl (fun h3 => ?_) (fun h3 => ?_)
  ·
   refine lKn 9 rfl h3 <| lRun (gd rfl rfl rfl rfl) rfl rfl (faB 1 rfl rfl Tryz.underlying59 rfl (by exact ti9)) <| lRun (gd rfl rfl rfl rfl) rfl rfl (ld 1 rfl rfl ((Foc.here).part (pt_api_Value_Text _)) ty9 rfl) <| lRun (gd rfl rfl rfl rfl) rfl rfl (eqS rfl rfl) <| R rfl (pkT rfl rfl) <| gNil <| eThen <| gIf rfl rfl (fun h4 => ?_) (fun h4 => ?_)
   ·
    refine gKn 13 rfl h4 <| gSR <| R rfl (asg rfl) <| gNil <| eThen <| gRet <| eBret <| eTret <| eRet [] [] rfl (eE rfl <| eN) (rN)
   ·
    refine gKn 13 rfl h4 <| gSkip <| eBlk <| eThen <| gSR <| R rfl (asg rfl) <| gNil <| eThen <| gRet <| eRet [] [] rfl (eE rfl <| eN) (rN)
  ·
   refine lKn 9 rfl h3 <| lSkip (gd rfl rfl rfl rfl) rfl rfl <| lSkip (gd rfl rfl rfl rfl) rfl rfl <| lSkip (gd rfl rfl rfl rfl) rfl rfl <| R rfl (pkF rfl rfl) <| gNil <| eThen <| gFalse rfl <| gSkip <| eBlk <| eThen <| gSR <| R rfl (asg rfl) <| gNil <| eThen <| gRet <| eRet [] [] rfl (eE rfl <| eN) (rN)
 ·
  refine gKn 6 rfl h2 <| gSR <| R rfl (B.eql rfl rfl) <| R rfl (asg rfl) <| gNil <| eThen <| gIf rfl rfl (fun h5 => ?_) (fun h5 => ?_)
  ·
   refine gKn 16 rfl h5 <| gMid (fun (s6 : Bool) aa ww => Sta (ctx 54 H [] w) [(32, .rd boolR s6)] [] aa ww) ?_ (fun s6 => ?_)
   ·
    refine gRegH [] mixed rfl rfl <| hTk 0 rfl rfl (faB 1 rfl rfl Tryz.underlying59 rfl (by exact ti2)) <| hTk 1 rfl rfl (ld 1 rfl rfl ((Foc.here).part (pt_api_Value_Num _)) ty2 rfl) <| hTk 2 rfl rfl (I.eql rfl rfl) <| hTk 3 rfl rfl (mv rfl) <| hIf 20 rfl rfl (fun h7 => ?_) (fun h7 => ?_)
    ·
     refine hKn 19 rfl rfl h7 <| hTake 4 rfl (by kernel_rfl) (by kernel_rfl) (by kernel_rfl) (gd rfl rfl rfl rfl) rfl rfl (faB 1 rfl rfl Tryz.underlying59 rfl (by exact ti9)) <| hTake 5 rfl (by kernel_rfl) (by kernel_rfl) (by kernel_rfl) (gd rfl rfl rfl rfl) rfl rfl (ld 1 rfl rfl ((Foc.here).part (pt_api_Value_Text _)) ty9 rfl) <| hTake 6 rfl (by kernel_rfl) (by kernel_rfl) (by kernel_rfl) (gd rfl rfl rfl rfl) rfl rfl (eqS rfl rfl) <| hTk 7 rfl rfl (pkT rfl rfl) <| hTk 8 rfl rfl (mv rfl) <| hIf 25 rfl rfl (fun h8 => ?_) (fun h8 => ?_)
     ·
      refine hKn 23 rfl rfl h8 <| hKn 24 rfl rfl h8 <| hTake 9 rfl (by kernel_rfl) (by kernel_rfl) (by kernel_rfl) (gd rfl rfl rfl rfl) rfl rfl (faB 1 rfl rfl Tryz.underlying59 rfl (by exact ti57)) <| hTake 10 rfl (by kernel_rfl) (by kernel_rfl) (by kernel_rfl) (gd rfl rfl rfl rfl) rfl rfl (ld 1 rfl rfl ((Foc.here).part (pt_api_Value_Bits _)) ty57 rfl) <| hTake 12 rfl (by kernel_rfl) (by kernel_rfl) (by kernel_rfl) (gd rfl rfl rfl rfl) rfl rfl (faB 1 rfl rfl Tryz.underlying59 rfl (by exact ti57)) <| hTake 13 rfl (by kernel_rfl) (by kernel_rfl) (by kernel_rfl) (gd rfl rfl rfl rfl) rfl rfl (ld 1 rfl rfl ((Foc.here).part (pt_api_Value_Bits _)) ty57 rfl) <| hCallF 11 [] [] rfl (by kernel_rfl) rfl (gd rfl rfl rfl rfl) rfl Tryz.func153 rfl rfl (braidref05_Canon_ok _) (aQ rfl <| aN) rN rfl (fun _ _ => flat_num) fun r9 n10 => hTake 14 rfl (by kernel_rfl) (by kernel_rfl) (by kernel_rfl) (gd rfl rfl rfl rfl) rfl rfl (U.eql rfl rfl) <| hTk 15 rfl rfl (pkT rfl rfl) <| hDone (by kernel_rfl) <| eMid (fun aa ww h => h.sub [] (sS rfl <| sN) (rN))
     ·
      refine hKn 23 rfl rfl h8 <| hKn 24 rfl rfl h8 <| hSkip 9 rfl (by kernel_rfl) (by kernel_rfl) (by kernel_rfl) (gd rfl rfl rfl rfl) rfl rfl <| hSkip 10 rfl (by kernel_rfl) (by kernel_rfl) (by kernel_rfl) (gd rfl rfl rfl rfl) rfl rfl <| hSkip 11 rfl (by kernel_rfl) (by kernel_rfl) (by kernel_rfl) (gd rfl rfl rfl rfl) rfl rfl <| hSkip 12 rfl (by kernel_rfl) (by kernel_rfl) (by kernel_rfl) (gd rfl rfl rfl rfl) rfl rfl <| hSkip 13 rfl (by kernel_rfl) (by kernel_rfl) (by kernel_rfl) (gd rfl rfl rfl rfl) rfl rfl <| hSkip 14 rfl (by kernel_rfl) (by kernel_rfl) (by kernel_rfl) (gd rfl rfl rfl rfl) rfl rfl <| hTk 15 rfl rfl (pkF rfl rfl) <| hDone (by kernel_rfl) <| eMid (fun aa ww h => h.sub [] (sS rfl <| sN) (rN))
    ·
     refine hKn 19 rfl rfl h7 <| hSkip 4 rfl (by kernel_rfl) (by kernel_rfl) (by kernel_rfl) (gd rfl rfl rfl rfl) rfl rfl <| hSkip 5 rfl (by kernel_rfl) (by kernel_rfl) (by kernel_rfl) (gd rfl rfl rfl rfl) rfl rfl <| hSkip 6 rfl (by kernel_rfl) (by kernel_rfl) (by kernel_rfl) (gd rfl rfl rfl rfl) rfl rfl <| hTk 7 rfl rfl (pkF rfl rfl) <| hTk 8 rfl rfl (mv rfl) <| hSkip 9 rfl (by kernel_rfl) (by kernel_rfl) (by kernel_rfl) (gd rfl rfl rfl rfl) rfl rfl <| hSkip 10 rfl (by kernel_rfl) (by kernel_rfl) (by kernel_rfl) (gd rfl rfl rfl rfl) rfl rfl <| hSkip 11 rfl (by kernel_rfl) (by kernel_rfl) (by kernel_rfl) (gd rfl rfl rfl rfl) rfl rfl <| hSkip 12 rfl (by kernel_rfl) (by kernel_rfl) (by kernel_rfl) (gd rfl rfl rfl rfl) rfl rfl <| hSkip 13 rfl (by kernel_rfl) (by kernel_rfl) (by kernel_rfl) (gd rfl rfl rfl rfl) rfl rfl <| hSkip 14 rfl (by kernel_rfl) (by kernel_rfl) (by kernel_rfl) (gd rfl rfl rfl rfl) rfl rfl <| hTk 15 rfl rfl (pkF rfl rfl) <| hDone (by kernel_rfl) <| eMid (fun aa ww h => h.sub [] (sS rfl <| sN) (rN))
   ·
    refine gIf rfl rfl (fun h11 => ?_) (fun h11 => ?_)
    ·
     refine gSR <| R rfl (asg rfl) <| gNil <| eThen <| gRet <| eBret <| eTret <| eRet [] [] rfl (eE rfl <| eN) (rN)
    ·
     refine gSkip <| eBlk <| eThen <| gSR <| R rfl (asg rfl) <| gNil <| eThen <| gRet <| eRet [] [] rfl (eE rfl <| eN) (rN)
  ·
   refine gKn 16 rfl h5 <| gSR <| R rfl (B.eql rfl rfl) <| R rfl (asg rfl) <| gNil <| eThen <| gIf rfl rfl (fun h12 => ?_) (fun h12 => ?_)
   ·
    refine gKn 34 rfl h12 <| gMid (fun (s13 : Bool) aa ww => Sta (ctx 54 H [] w) [(53, .rd boolR s13)] [] aa ww) ?_ (fun s13 => ?_)
    ·
     refine gReg <| R rfl (faB 1 rfl rfl Tryz.underlying59 rfl (by exact ti2)) <| R rfl (ld 1 rfl rfl ((Foc.here).part (pt_api_Value_Num _)) ty2 rfl) <| R rfl (I.eql rfl rfl) <| R rfl (mv rfl) <| lSplit 38 rfl (fun h14 => ?_) (fun h14 => ?_)
     ·
      refine lKn 37 rfl h14 <| lRun (gd rfl rfl rfl rfl) rfl rfl (faB 1 rfl rfl Tryz.underlying59 rfl (by exact ti57)) <| lRun (gd rfl rfl rfl rfl) rfl rfl (ld 1 rfl rfl ((Foc.here).part (pt_api_Value_Bits _)) ty57 rfl) <| lRun (gd rfl rfl rfl rfl) rfl rfl (U.eql rfl rfl) <| R rfl (pkT rfl rfl) <| R rfl (mv rfl) <| lSplit 43 rfl (fun h15 => ?_) (fun h15 => ?_)
      ·
       refine lKn 41 rfl h15 <| lKn 42 rfl h15 <| lRun (gd rfl rfl rfl rfl) rfl rfl (faB 1 rfl rfl Tryz.underlying59 rfl (by exact ti9)) <| lRun (gd rfl rfl rfl rfl) rfl rfl (ld 1 rfl rfl ((Foc.here).part (pt_api_Value_Text _)) ty9 rfl) <| lRun (gd rfl rfl rfl rfl) rfl rfl (lenT rfl rfl Tryz.underlying9) <| lRun (gd rfl rfl rfl rfl) rfl rfl (I.leq rfl rfl) <| R rfl (pkT rfl rfl) <| R rfl (mv rfl) <| lSplit 49 rfl (fun h16 => ?_) (fun h16 => ?_)
       ·
        refine lKn 47 rfl h16 <| lKn 48 rfl h16 <| lRun (gd rfl rfl rfl rfl) rfl rfl (faB 1 rfl rfl Tryz.underlying59 rfl (by exact ti9)) <| lRun (gd rfl rfl rfl rfl) rfl rfl (ld 1 rfl rfl ((Foc.here).part (pt_api_Value_Text _)) ty9 rfl) <| callg [] [] (gd rfl rfl rfl rfl) rfl Tryz.func154 rfl rfl (braidref05_Printable_ok _) (aQ rfl <| aN) rN fun r17 n18 => R rfl (pkT rfl rfl) <| gNil <| eMid (fun aa ww h => h.sub [] (sS rfl <| sN) (rN))
       ·
        refine lKn 47 rfl h16 <| lKn 48 rfl h16 <| lSkip (gd rfl rfl rfl rfl) rfl rfl <| lSkip (gd rfl rfl rfl rfl) rfl rfl <| lSkip (gd rfl rfl rfl rfl) rfl rfl <| R rfl (pkF rfl rfl) <| gNil <| eMid (fun aa ww h => h.sub [] (sS rfl <| sN) (rN))
      ·
       refine lKn 41 rfl h15 <| lKn 42 rfl h15 <| lSkip (gd rfl rfl rfl rfl) rfl rfl <| lSkip (gd rfl rfl rfl rfl) rfl rfl <| lSkip (gd rfl rfl rfl rfl) rfl rfl <| lSkip (gd rfl rfl rfl rfl) rfl rfl <| R rfl (pkF rfl rfl) <| R rfl (mv rfl) <| lSkip (gd rfl rfl rfl rfl) rfl rfl <| lSkip (gd rfl rfl rfl rfl) rfl rfl <| lSkip (gd rfl rfl rfl rfl) rfl rfl <| R rfl (pkF rfl rfl) <| gNil <| eMid (fun aa ww h => h.sub [] (sS rfl <| sN) (rN))
     ·
      refine lKn 37 rfl h14 <| lSkip (gd rfl rfl rfl rfl) rfl rfl <| lSkip (gd rfl rfl rfl rfl) rfl rfl <| lSkip (gd rfl rfl rfl rfl) rfl rfl <| R rfl (pkF rfl rfl) <| R rfl (mv rfl) <| lSkip (gd rfl rfl rfl rfl) rfl rfl <| lSkip (gd rfl rfl rfl rfl) rfl rfl <| lSkip (gd rfl rfl rfl rfl) rfl rfl <| lSkip (gd rfl rfl rfl rfl) rfl rfl <| R rfl (pkF rfl rfl) <| R rfl (mv rfl) <| lSkip (gd rfl rfl rfl rfl) rfl rfl <| lSkip (gd rfl rfl rfl rfl) rfl rfl <| lSkip (gd rfl rfl rfl rfl) rfl rfl <| R rfl (pkF rfl rfl) <| gNil <| eMid (fun aa ww h => h.sub [] (sS rfl <| sN) (rN))
    ·
     refine gIf rfl rfl (fun h19 => ?_) (fun h19 => ?_)
     ·
      refine gSR <| R rfl (asg rfl) <| gNil <| eThen <| gRet <| eBret <| eTret <| eRet [] [] rfl (eE rfl <| eN) (rN)
     ·
      refine gSkip <| eBlk <| eThen <| gSR <| R rfl (asg rfl) <| gNil <| eThen <| gRet <| eRet [] [] rfl (eE rfl <| eN) (rN)
   ·
    refine gKn 34 rfl h12 <| gSkip <| eBlk <| eThen <| gSR <| R rfl (asg rfl) <| gNil <| eThen <| gRet <| eRet [] [] rfl (eE rfl <| eN) (rN)
def braidref06_CheckAct (a0 : api_Act) : Option (Int) :=
 some (decide (a0.Value = (⟨0, 0, 0, []⟩ : api_Value))) >>= fun y2 =>
 if a0.Kind == 1 then
  if a0.Key == [] then
   if y2 then
    some 0
   else
    some 8
  else
   some 8
 else
  (if a0.Kind == 2 then
   some true
  else
   some (a0.Kind == 3)) >>= fun s6 =>
  if s6 then
   braidref06_Name a0.Key >>= fun r9 =>
   if r9 then
    if y2 then
     some 0
    else
     some 8
   else
    some 8
  else
   if a0.Kind == 4 then
    braidref06_Name a0.Key >>= fun r14 =>
    if r14 then
     braidref05_Check a0.Value >>= fun r17 =>
     if r17 == 0 then
      some 0
     else
      some 8
    else
     some 8
   else
    some 8
theorem braidref06_CheckAct_ok (a0 : api_Act) : Spec Tryz.prog 102 [.rd R_api_Act a0] [] (braidref06_CheckAct a0) (fun r nv => ⟨[.rd i64R r], []⟩) := by
 refine spec 38 Tryz.func102 rfl rfl rfl fun H w => ?_
 refine gSR <| Eb rfl (bx 1 rfl) fun v1 => R rfl (asg rfl) <| gNil <| eThen <| gSR <| R rfl (faB 1 rfl rfl Tryz.underlying61 rfl (by exact ti59)) <| R rfl (ld 1 rfl rfl ((Foc.here).part (pt_api_Act_Value _)) ty59 rfl) <| R rfl (bld (x' := (⟨0, 0, 0, []⟩ : api_Value)) [(0, 1), (1, 1), (2, 1), (3, 1)] Tryz.underlying59 ti59 rfl zr59 rfl (Bld.done rfl)) <| R rfl (eqA rfl rfl eq59 rfl rfl gq59) <| R rfl (asg rfl) <| lName 3 rfl fun y2 => gNil <| eThen <| gSeq <| gSR <| R rfl (faB 1 rfl rfl Tryz.underlying61 rfl (by exact ti5)) <| R rfl (ld 1 rfl rfl ((Foc.here).part (pt_api_Act_Kind _)) ty5 rfl) <| gNil <| eThen <| gBlk <| gSR <| R rfl (B.eql rfl rfl) <| R rfl (asg rfl) <| gNil <| eThen <| gIf rfl rfl (fun h3 => ?_) (fun h3 => ?_)
 ·
  refine gKn 11 rfl h3 <| gSR <| R rfl (faB 1 rfl rfl Tryz.underlying61 rfl (by exact ti9)) <| R rfl (ld 1 rfl rfl ((Foc.here).part (pt_api_Act_Key _)) ty9 rfl) <| R rfl (eqS rfl rfl) <| R rfl (mv rfl) <| lSplit 15 rfl (fun h4 => ?_) (fun h4 => ?_)
  ·
   refine lKn 14 rfl h4 <| lRun (gd rfl rfl rfl rfl) rfl rfl (mv rfl) <| R rfl (pkT rfl rfl) <| gNil <| eThen <| gIf rfl rfl (fun h5 => ?_) (fun h5 => ?_)
   ·
    refine gKn 3 rfl h5 <| gKn 16 rfl h5 <| gSR <| R rfl (asg rfl) <| gNil <| eThen <| gRet <| eBret <| eTret <| eRet [] [] rfl (eE rfl <| eN) (rN)
   ·
    refine gKn 3 rfl h5 <| gKn 16 rfl h5 <| gSkip <| eBlk <| eThen <| gSR <| R rfl (asg rfl) <| gNil <| eThen <| gRet <| eRet [] [] rfl (eE rfl <| eN) (rN)
  ·
   refine lKn 14 rfl h4 <| lSkip (gd rfl rfl rfl rfl) rfl rfl <| R rfl (pkF rfl rfl) <| gNil <| eThen <| gFalse rfl <| gSkip <| eBlk <| eThen <| gSR <| R rfl (asg rfl) <| gNil <| eThen <| gRet <| eRet [] [] rfl (eE rfl <| eN) (rN)
 ·
  refine gKn 11 rfl h3 <| gMid (fun (s6 : Bool) aa ww => Sta (ctx 38 H [] w) [(1, .val (ptrTo v1 0)), (3, .rd boolR y2), (9, .rd u8R a0.Kind), (18, .rd boolR s6)] [(1, some (v1, .box 61 [.rd R_api_Act a0]))] aa ww) ?_ (fun s6 => ?_)
  ·
   refine gSR <| R rfl (B.eql rfl rfl) <| R rfl (asg rfl) <| gNil <| eThen <| gIf rfl rfl (fun h7 => ?_) (fun h7 => ?_)
   ·
    refine gKn 19 rfl h7 <| gSkip <| eMid (fun aa ww h => h.sub [1] (sS rfl <| sS rfl <| sS rfl <| sS rfl <| sN) (rR rfl rfl <| rN))
   ·
    refine gKn 19 rfl h7 <| gReg <| R rfl (B.eql rfl rfl) <| R rfl (asg rfl) <| gNil <| eMid (fun aa ww h => h.sub [1] (sS rfl <| sS rfl <| sS rfl <| sS rfl <| sN) (rR rfl rfl <| rN))
  ·
   refine gIf rfl rfl (fun h8 => ?_) (fun h8 => ?_)
   ·
    refine gSR <| R rfl (faB 1 rfl rfl Tryz.underlying61 rfl (by exact ti9)) <| R rfl (ld 1 rfl rfl ((Foc.here).part (pt_api_Act_Key _)) ty9 rfl) <| call [] [] rfl Tryz.func131 rfl rfl (braidref06_Name_ok _) (aQ rfl <| aN) rN fun r9 n10 => R rfl (mv rfl) <| lSplit 24 rfl (fun h11 => ?_) (fun h11 => ?_)
    ·
     refine lKn 23 rfl h11 <| lRun (gd rfl rfl rfl rfl) rfl rfl (mv rfl) <| R rfl (pkT rfl rfl) <| gNil <| eThen <| gIf rfl rfl (fun h12 => ?_) (fun h12 => ?_)
     ·
      refine gKn 3 rfl h12 <| gKn 25 rfl h12 <| gSR <| R rfl (asg rfl) <| gNil <| eThen <| gRet <| eBret <| eTret <| eRet [] [] rfl (eE rfl <| eN) (rN)
     ·
      refine gKn 3 rfl h12 <| gKn 25 rfl h12 <| gSkip <| eBlk <| eThen <| gSR <| R rfl (asg rfl) <| gNil <| eThen <| gRet <| eRet [] [] rfl (eE rfl <| eN) (rN)
    ·
     refine lKn 23 rfl h11 <| lSkip (gd rfl rfl rfl rfl) rfl rfl <| R rfl (pkF rfl rfl) <| gNil <| eThen <| gFalse rfl <| gSkip <| eBlk <| eThen <| gSR <| R rfl (asg rfl) <| gNil <| eThen <| gRet <| eRet [] [] rfl (eE rfl <| eN) (rN)
   ·
    refine gSR <| R rfl (B.eql rfl rfl) <| R rfl (asg rfl) <| gNil <| eThen <| gIf rfl rfl (fun h13 => ?_) (fun h13 => ?_)
    ·
     refine gKn 28 rfl h13 <| gSR <| R rfl (faB 1 rfl rfl Tryz.underlying61 rfl (by exact ti9)) <| R rfl (ld 1 rfl rfl ((Foc.here).part (pt_api_Act_Key _)) ty9 rfl) <| call [] [] rfl Tryz.func131 rfl rfl (braidref06_Name_ok _) (aQ rfl <| aN) rN fun r14 n15 => R rfl (mv rfl) <| lSplit 32 rfl (fun h16 => ?_) (fun h16 => ?_)
     ·
      refine lKn 31 rfl h16 <| lRun (gd rfl rfl rfl rfl) rfl rfl (faB 1 rfl rfl Tryz.underlying61 rfl (by exact ti59)) <| lRun (gd rfl rfl rfl rfl) rfl rfl (ld 1 rfl rfl ((Foc.here).part (pt_api_Act_Value _)) ty59 rfl) <| callg [] [] (gd rfl rfl rfl rfl) rfl Tryz.func132 rfl rfl (braidref05_Check_ok _) (aQ rfl <| aN) rN fun r17 n18 => lRun (gd rfl rfl rfl rfl) rfl rfl (I.eql rfl rfl) <| R rfl (pkT rfl rfl) <| gNil <| eThen <| gIf rfl rfl (fun h19 => ?_) (fun h19 => ?_)
      ·
       refine gKn 36 rfl h19 <| gSR <| R rfl (asg rfl) <| gNil <| eThen <| gRet <| eBret <| eTret <| eRet [] [] rfl (eE rfl <| eN) (rN)
      ·
       refine gKn 36 rfl h19 <| gSkip <| eBlk <| eThen <| gSR <| R rfl (asg rfl) <| gNil <| eThen <| gRet <| eRet [] [] rfl (eE rfl <| eN) (rN)
     ·
      refine lKn 31 rfl h16 <| lSkip (gd rfl rfl rfl rfl) rfl rfl <| lSkip (gd rfl rfl rfl rfl) rfl rfl <| lSkip (gd rfl rfl rfl rfl) rfl rfl <| lSkip (gd rfl rfl rfl rfl) rfl rfl <| R rfl (pkF rfl rfl) <| gNil <| eThen <| gFalse rfl <| gSkip <| eBlk <| eThen <| gSR <| R rfl (asg rfl) <| gNil <| eThen <| gRet <| eRet [] [] rfl (eE rfl <| eN) (rN)
    ·
     refine gKn 28 rfl h13 <| gSkip <| eBlk <| eThen <| gSR <| R rfl (asg rfl) <| gNil <| eThen <| gRet <| eRet [] [] rfl (eE rfl <| eN) (rN)
def braidref02_Exponent (a0 : UInt32) : Option (Bool) :=
 some (decide (a0.toUInt64 < 500000003)) >>= fun y1 =>
 some y1
theorem braidref02_Exponent_ok (a0 : UInt32) : Spec Tryz.prog 103 [.rd u32R a0] [] (braidref02_Exponent a0) (fun r nv => ⟨[.rd boolR r], []⟩) := by
 refine spec 6 Tryz.func103 rfl rfl rfl fun H w => ?_
 refine gSR <| R rfl (asg rfl) <| gNil <| eThen <| gSR <| R rfl (mv rfl) <| R rfl (W.toU rfl Tryz.underlying56 Tryz.underlying57) <| R rfl (U.lss rfl rfl) <| R rfl (asg rfl) <| lName 2 rfl fun y1 => gNil <| eThen <| gRet <| eRet [] [] rfl (eE rfl <| eN) (rN)
def braidref06_Check (a0 : api_Op) : Option (Int) :=
 if decide (4 < (a0.Preds.length : Int)) then
  some 4
 else
  braidref04_Rising a0.Preds >>= fun r3 =>
  if !r3 then
   some 32
  else
   (braidref02_Is a0.Author >>= fun r7 =>
   if !r7 then
    some true
   else
    if decide (1000000000000 < a0.Stamp) then
     some true
    else
     braidref06_CheckAct a0.Act >>= fun r11 =>
     if r11 != 0 then
      some true
     else
      braidref02_Exponent a0.Sig.E >>= fun r14 =>
      if !r14 then
       some true
      else
       braidref02_Exponent a0.Sig.S >>= fun r17 =>
       some (!r17)) >>= fun s6 =>
   if s6 then
    some 8
   else
    some 0
theorem braidref06_Check_ok (a0 : api_Op) : Spec Tryz.prog 72 [.rd R_api_Op a0] [] (braidref06_Check a0) (fun r nv => ⟨[.rd i64R r], []⟩) := by
 refine spec 40 Tryz.func72 rfl rfl rfl fun H w => ?_
 refine gSR <| Eb rfl (bx 1 rfl) fun v1 => R rfl (asg rfl) <| gNil <| eThen <| gSeq <| gSR <| R rfl (faB 1 rfl rfl Tryz.underlying65 rfl (by exact ti22)) <| R rfl (ld 1 rfl rfl ((Foc.here).part (pt_api_Op_Preds _)) ty22 rfl) <| R rfl (len' rfl .rd rfl Tryz.underlying22) <| R rfl (I.gtr rfl rfl) <| gNil <| eThen <| gIf rfl rfl (fun h2 => ?_) (fun h2 => ?_)
 ·
  refine gSR <| R rfl (asg rfl) <| gNil <| eThen <| gRet <| eTret <| eRet [] [] rfl (eE rfl <| eN) (rN)
 ·
  refine gSkip <| eThen <| gSeq <| gSR <| R rfl (faB 1 rfl rfl Tryz.underlying65 rfl (by exact ti22)) <| R rfl (ld 1 rfl rfl ((Foc.here).part (pt_api_Op_Preds _)) ty22 rfl) <| call [] [] rfl Tryz.func76 rfl rfl (braidref04_Rising_ok _) (aQ rfl <| aN) rN fun r3 n4 => R rfl (not' rfl) <| gNil <| eThen <| gIf rfl rfl (fun h5 => ?_) (fun h5 => ?_)
  ·
   refine gSR <| R rfl (asg rfl) <| gNil <| eThen <| gRet <| eTret <| eRet [] [] rfl (eE rfl <| eN) (rN)
  ·
   refine gSkip <| eThen <| gSeq <| gMid (fun (s6 : Bool) aa ww => Sta (ctx 40 H [] w) [(39, .rd boolR s6)] [] aa ww) ?_ (fun s6 => ?_)
   ·
    refine gReg <| R rfl (faB 1 rfl rfl Tryz.underlying65 rfl (by exact ti56)) <| R rfl (ld 1 rfl rfl ((Foc.here).part (pt_api_Op_Author _)) ty56 rfl) <| call [] [] rfl Tryz.func101 rfl rfl (braidref02_Is_ok _) (aQ rfl <| aN) rN fun r7 n8 => R rfl (not' rfl) <| R rfl (mv rfl) <| lSplit 15 rfl (fun h9 => ?_) (fun h9 => ?_)
    ·
     refine lKn 14 rfl h9 <| lSkip (gd rfl rfl rfl rfl) rfl rfl <| lSkip (gd rfl rfl rfl rfl) rfl rfl <| lSkip (gd rfl rfl rfl rfl) rfl rfl <| R rfl (pkT rfl rfl) <| R rfl (mv rfl) <| lSkip (gd rfl rfl rfl rfl) rfl rfl <| lSkip (gd rfl rfl rfl rfl) rfl rfl <| lSkip (gd rfl rfl rfl rfl) rfl rfl <| lSkip (gd rfl rfl rfl rfl) rfl rfl <| R rfl (pkT rfl rfl) <| R rfl (mv rfl) <| lSkip (gd rfl rfl rfl rfl) rfl rfl <| lSkip (gd rfl rfl rfl rfl) rfl rfl <| lSkip (gd rfl rfl rfl rfl) rfl rfl <| lSkip (gd rfl rfl rfl rfl) rfl rfl <| lSkip (gd rfl rfl rfl rfl) rfl rfl <| R rfl (pkT rfl rfl) <| R rfl (mv rfl) <| lSkip (gd rfl rfl rfl rfl) rfl rfl <| lSkip (gd rfl rfl rfl rfl) rfl rfl <| lSkip (gd rfl rfl rfl rfl) rfl rfl <| lSkip (gd rfl rfl rfl rfl) rfl rfl <| lSkip (gd rfl rfl rfl rfl) rfl rfl <| R rfl (pkT rfl rfl) <| gNil <| eMid (fun aa ww h => h.sub [] (sS rfl <| sN) (rN))
    ·
     refine lKn 14 rfl h9 <| lRun (gd rfl rfl rfl rfl) rfl rfl (faB 1 rfl rfl Tryz.underlying65 rfl (by exact ti57)) <| lRun (gd rfl rfl rfl rfl) rfl rfl (ld 1 rfl rfl ((Foc.here).part (pt_api_Op_Stamp _)) ty57 rfl) <| lRun (gd rfl rfl rfl rfl) rfl rfl (U.gtr rfl rfl) <| R rfl (pkF rfl rfl) <| R rfl (mv rfl) <| lSplit 20 rfl (fun h10 => ?_) (fun h10 => ?_)
     ·
      refine lKn 18 rfl h10 <| lKn 19 rfl h10 <| lSkip (gd rfl rfl rfl rfl) rfl rfl <| lSkip (gd rfl rfl rfl rfl) rfl rfl <| lSkip (gd rfl rfl rfl rfl) rfl rfl <| lSkip (gd rfl rfl rfl rfl) rfl rfl <| R rfl (pkT rfl rfl) <| R rfl (mv rfl) <| lSkip (gd rfl rfl rfl rfl) rfl rfl <| lSkip (gd rfl rfl rfl rfl) rfl rfl <| lSkip (gd rfl rfl rfl rfl) rfl rfl <| lSkip (gd rfl rfl rfl rfl) rfl rfl <| lSkip (gd rfl rfl rfl rfl) rfl rfl <| R rfl (pkT rfl rfl) <| R rfl (mv rfl) <| lSkip (gd rfl rfl rfl rfl) rfl rfl <| lSkip (gd rfl rfl rfl rfl) rfl rfl <| lSkip (gd rfl rfl rfl rfl) rfl rfl <| lSkip (gd rfl rfl rfl rfl) rfl rfl <| lSkip (gd rfl rfl rfl rfl) rfl rfl <| R rfl (pkT rfl rfl) <| gNil <| eMid (fun aa ww h => h.sub [] (sS rfl <| sN) (rN))
     ·
      refine lKn 18 rfl h10 <| lKn 19 rfl h10 <| lRun (gd rfl rfl rfl rfl) rfl rfl (faB 1 rfl rfl Tryz.underlying65 rfl (by exact ti61)) <| lRun (gd rfl rfl rfl rfl) rfl rfl (ld 1 rfl rfl ((Foc.here).part (pt_api_Op_Act _)) ty61 rfl) <| callg [] [] (gd rfl rfl rfl rfl) rfl Tryz.func102 rfl rfl (braidref06_CheckAct_ok _) (aQ rfl <| aN) rN fun r11 n12 => lRun (gd rfl rfl rfl rfl) rfl rfl (I.neq rfl rfl) <| R rfl (pkF rfl rfl) <| R rfl (mv rfl) <| lSplit 26 rfl (fun h13 => ?_) (fun h13 => ?_)
      ·
       refine lKn 24 rfl h13 <| lKn 25 rfl h13 <| lSkip (gd rfl rfl rfl rfl) rfl rfl <| lSkip (gd rfl rfl rfl rfl) rfl rfl <| lSkip (gd rfl rfl rfl rfl) rfl rfl <| lSkip (gd rfl rfl rfl rfl) rfl rfl <| lSkip (gd rfl rfl rfl rfl) rfl rfl <| R rfl (pkT rfl rfl) <| R rfl (mv rfl) <| lSkip (gd rfl rfl rfl rfl) rfl rfl <| lSkip (gd rfl rfl rfl rfl) rfl rfl <| lSkip (gd rfl rfl rfl rfl) rfl rfl <| lSkip (gd rfl rfl rfl rfl) rfl rfl <| lSkip (gd rfl rfl rfl rfl) rfl rfl <| R rfl (pkT rfl rfl) <| gNil <| eMid (fun aa ww h => h.sub [] (sS rfl <| sN) (rN))
      ·
       refine lKn 24 rfl h13 <| lKn 25 rfl h13 <| lRun (gd rfl rfl rfl rfl) rfl rfl (faB 1 rfl rfl Tryz.underlying65 rfl (by exact ti63)) <| lRun (gd rfl rfl rfl rfl) rfl rfl (faB 1 rfl rfl Tryz.underlying63 rfl (by exact ti56)) <| lRun (gd rfl rfl rfl rfl) rfl rfl (ld 1 rfl rfl (((Foc.here).part (pt_api_Op_Sig _)).part (pt_api_Sig_E _)) ty56 rfl) <| callg [] [] (gd rfl rfl rfl rfl) rfl Tryz.func103 rfl rfl (braidref02_Exponent_ok _) (aQ rfl <| aN) rN fun r14 n15 => lRun (gd rfl rfl rfl rfl) rfl rfl (not' rfl) <| R rfl (pkF rfl rfl) <| R rfl (mv rfl) <| lSplit 33 rfl (fun h16 => ?_) (fun h16 => ?_)
       ·
        refine lKn 31 rfl h16 <| lKn 32 rfl h16 <| lSkip (gd rfl rfl rfl rfl) rfl rfl <| lSkip (gd rfl rfl rfl rfl) rfl rfl <| lSkip (gd rfl rfl rfl rfl) rfl rfl <| lSkip (gd rfl rfl rfl rfl) rfl rfl <| lSkip (gd rfl rfl rfl rfl) rfl rfl <| R rfl (pkT rfl rfl) <| gNil <| eMid (fun aa ww h => h.sub [] (sS rfl <| sN) (rN))
       ·
        refine lKn 31 rfl h16 <| lKn 32 rfl h16 <| lRun (gd rfl rfl rfl rfl) rfl rfl (faB 1 rfl rfl Tryz.underlying65 rfl (by exact ti63)) <| lRun (gd rfl rfl rfl rfl) rfl rfl (faB 1 rfl rfl Tryz.underlying63 rfl (by exact ti56)) <| lRun (gd rfl rfl rfl rfl) rfl rfl (ld 1 rfl rfl (((Foc.here).part (pt_api_Op_Sig _)).part (pt_api_Sig_S _)) ty56 rfl) <| callg [] [] (gd rfl rfl rfl rfl) rfl Tryz.func103 rfl rfl (braidref02_Exponent_ok _) (aQ rfl <| aN) rN fun r17 n18 => lRun (gd rfl rfl rfl rfl) rfl rfl (not' rfl) <| R rfl (pkF rfl rfl) <| gNil <| eMid (fun aa ww h => h.sub [] (sS rfl <| sN) (rN))
   ·
    refine gIf rfl rfl (fun h19 => ?_) (fun h19 => ?_)
    ·
     refine gSR <| R rfl (asg rfl) <| gNil <| eThen <| gRet <| eTret <| eRet [] [] rfl (eE rfl <| eN) (rN)
    ·
     refine gSkip <| eThen <| gSR <| R rfl (asg rfl) <| gNil <| eThen <| gRet <| eRet [] [] rfl (eE rfl <| eN) (rN)
def braidref02_Raised (a0 : UInt32) (a1 : UInt64) : Option (UInt32) :=
 braidref02_Power a0.toUInt64 a1 1000000007 >>= fun r1 =>
 some r1.toUInt32
theorem braidref02_Raised_ok (a0 : UInt32) (a1 : UInt64) : Spec Tryz.prog 134 [.rd u32R a0, .rd u64R a1] [] (braidref02_Raised a0 a1) (fun r nv => ⟨[.rd u32R r], []⟩) := by
 refine spec 10 Tryz.func134 rfl rfl rfl fun H w => ?_
 refine gSR <| R rfl (asg rfl) <| gNil <| eThen <| gSR <| R rfl (mv rfl) <| R rfl (W.toU rfl Tryz.underlying56 Tryz.underlying57) <| R rfl (mv rfl) <| call [] [] rfl Tryz.func130 rfl rfl (braidref02_Power_ok _ _ _) (aQ rfl <| aQ rfl <| aQ rfl <| aN) rN fun r1 n2 => R rfl (U.toW rfl Tryz.underlying57 Tryz.underlying56) <| R rfl (asg rfl) <| gNil <| eThen <| gRet <| eRet [] [] rfl (eE rfl <| eN) (rN)
def braidref02_Inv (a0 : UInt32) : Option (UInt32 × Int) :=
 braidref02_Is a0 >>= fun r1 =>
 if !r1 then
  some (0, 2)
 else
  braidref02_Raised a0 500000002 >>= fun r4 =>
  some (r4, 0)
theorem braidref02_Inv_ok (a0 : UInt32) : Spec Tryz.prog 133 [.rd u32R a0] [] (braidref02_Inv a0) (fun r nv => ⟨[.rd u32R r.1, .rd i64R r.2], []⟩) := by
 refine spec 9 Tryz.func133 rfl rfl rfl fun H w => ?_
 refine gSR <| R rfl (asg rfl) <| R rfl (asg rfl) <| gNil <| eThen <| gSeq <| gSR <| R rfl (mv rfl) <| call [] [] rfl Tryz.func101 rfl rfl (braidref02_Is_ok _) (aQ rfl <| aN) rN fun r1 n2 => R rfl (not' rfl) <| gNil <| eThen <| gIf rfl rfl (fun h3 => ?_) (fun h3 => ?_)
 ·
  refine gSR <| R rfl (asg rfl) <| R rfl (asg rfl) <| gNil <| eThen <| gRet <| eTret <| eRet [] [] rfl (eE rfl <| eE rfl <| eN) (rN)
 ·
  refine gSkip <| eThen <| gSR <| R rfl (mv rfl) <| call [] [] rfl Tryz.func134 rfl rfl (braidref02_Raised_ok _ _) (aQ rfl <| aQ rfl <| aN) rN fun r4 n5 => R rfl (asg rfl) <| R rfl (asg rfl) <| gNil <| eThen <| gRet <| eRet [] [] rfl (eE rfl <| eE rfl <| eN) (rN)
def braidref02_Base (a0 : UInt64) : Option (UInt32) :=
 braidref02_Raised 4 a0 >>= fun r1 =>
 some r1
theorem braidref02_Base_ok (a0 : UInt64) : Spec Tryz.prog 157 [.rd u64R a0] [] (braidref02_Base a0) (fun r nv => ⟨[.rd u32R r], []⟩) := by
 refine spec 5 Tryz.func157 rfl rfl rfl fun H w => ?_
 refine gSR <| R rfl (asg rfl) <| gNil <| eThen <| gSR <| R rfl (mv rfl) <| call [] [] rfl Tryz.func134 rfl rfl (braidref02_Raised_ok _ _) (aQ rfl <| aQ rfl <| aN) rN fun r1 n2 => R rfl (asg rfl) <| gNil <| eThen <| gRet <| eRet [] [] rfl (eE rfl <| eN) (rN)
def braidref03_Key (a0 : UInt32) : Option (UInt32) :=
 braidref02_Base a0.toUInt64 >>= fun r1 =>
 some r1
theorem braidref03_Key_ok (a0 : UInt32) : Spec Tryz.prog 137 [.rd u32R a0] [] (braidref03_Key a0) (fun r nv => ⟨[.rd u32R r], []⟩) := by
 refine spec 6 Tryz.func137 rfl rfl rfl fun H w => ?_
 refine gSR <| R rfl (asg rfl) <| gNil <| eThen <| gSR <| R rfl (mv rfl) <| R rfl (W.toU rfl Tryz.underlying56 Tryz.underlying57) <| call [] [] rfl Tryz.func157 rfl rfl (braidref02_Base_ok _) (aQ rfl <| aN) rN fun r1 n2 => R rfl (asg rfl) <| gNil <| eThen <| gRet <| eRet [] [] rfl (eE rfl <| eN) (rN)
def braidref02_Product (a0 : UInt32) (a1 : UInt32) : Option (UInt32) :=
 some (((a0.toUInt64 * a1.toUInt64) % 1000000007).toUInt32) >>= fun y1 =>
 some y1
theorem braidref02_Product_ok (a0 : UInt32) (a1 : UInt32) : Spec Tryz.prog 136 [.rd u32R a0, .rd u32R a1] [] (braidref02_Product a0 a1) (fun r nv => ⟨[.rd u32R r], []⟩) := by
 refine spec 12 Tryz.func136 rfl rfl rfl fun H w => ?_
 refine gSR <| R rfl (asg rfl) <| gNil <| eThen <| gSR <| R rfl (mv rfl) <| R rfl (W.toU rfl Tryz.underlying56 Tryz.underlying57) <| R rfl (mv rfl) <| R rfl (W.toU rfl Tryz.underlying56 Tryz.underlying57) <| R rfl (U.mul rfl rfl) <| R rfl (U.rem rfl rfl (by decide)) <| R rfl (U.toW rfl Tryz.underlying57 Tryz.underlying56) <| R rfl (asg rfl) <| lName 4 rfl fun y1 => gNil <| eThen <| gRet <| eRet [] [] rfl (eE rfl <| eN) (rN)
def braidref03_four (a0 : UInt32) : Option ((List UInt8)) :=
 some [(a0 / 16777216).toUInt8, ((a0 / 65536) % 256).toUInt8, ((a0 / 256) % 256).toUInt8, (a0 % 256).toUInt8]
theorem braidref03_four_ok (a0 : UInt32) : Spec Tryz.prog 155 [.rd u32R a0] [] (braidref03_four a0) (fun r nv => ⟨[.val (nv 0)], [(100, some (nv 0, .list u8R 5 r))]⟩) := by
 refine spec 18 Tryz.func155 rfl rfl rfl fun H w => ?_
 refine gSR <| R rfl (asg rfl) <| gNil <| eThen <| gSR <| R rfl (mv rfl) <| R rfl (W.quo rfl rfl (by decide)) <| R rfl (W.toB rfl Tryz.underlying56 Tryz.underlying5) <| R rfl (mv rfl) <| R rfl (W.quo rfl rfl (by decide)) <| R rfl (W.rem rfl rfl (by decide)) <| R rfl (W.toB rfl Tryz.underlying56 Tryz.underlying5) <| R rfl (mv rfl) <| R rfl (W.quo rfl rfl (by decide)) <| R rfl (W.rem rfl rfl (by decide)) <| R rfl (W.toB rfl Tryz.underlying56 Tryz.underlying5) <| R rfl (mv rfl) <| R rfl (W.rem rfl rfl (by decide)) <| R rfl (W.toB rfl Tryz.underlying56 Tryz.underlying5) <| Ef rfl (lit (R := u8R) ([(a0 / 16777216).toUInt8, ((a0 / 65536) % 256).toUInt8, ((a0 / 256) % 256).toUInt8, (a0 % 256).toUInt8] : List UInt8) 1 (pP rfl rfl <| pP rfl rfl <| pP rfl rfl <| pP rfl rfl <| pN) rfl Tryz.underlying103 ti5 rfl rfl) fun v1 => R rfl (asg rfl) <| gNil <| eThen <| gRet <| eRet [v1] [1] rfl (eE rfl <| eN) (rR rfl rfl <| rN)
def braidref03_number_L0 (r1 : (Vector UInt8 32)) (s5 : UInt64 × Int) : Option (Sum UInt64 (UInt64 × Int)) :=
 if decide (s5.2 < 8) then
  vidx r1 s5.2 >>= fun x7 =>
  some ((256 * s5.1) + x7.toUInt64) >>= fun y9 =>
  some (w64 (s5.2 + 1)) >>= fun y10 =>
  some (.inr (y9, y10))
 else
  some (.inl s5.1)
def braidref03_number (a0 : List UInt8) : Option (UInt64) :=
 braidref01_Of a0 >>= fun r1 =>
 (iter (braidref03_number_L0 r1) (0, 0)) >>= fun s4 =>
 some s4
theorem braidref03_number_ok (a0 : List UInt8) : Spec Tryz.prog 156 [.rd (sliceR u8R) a0] [] (braidref03_number a0) (fun r nv => ⟨[.rd u64R r], []⟩) := by
 refine spec 20 Tryz.func156 rfl rfl rfl fun H w => ?_
 refine gSR <| R rfl (asg rfl) <| gNil <| eThen <| gSR <| R rfl (mv rfl) <| call [] [] rfl Tryz.func74 rfl rfl (braidref01_Of_ok _) (aQ rfl <| aN) rN fun r1 n2 => Eb rfl (allc 1 ti27 (.zr (R := (arrR 32 u8R)) (x := (Vector.replicate 32 0)) zr26)) fun v3 => Es (sto 1 rfl rfl Foc.here rfl ti27) <| gNil <| eThen <| gSR <| R rfl (asg rfl) <| gNil <| eThen <| gMid (fun (s4 : UInt64) aa ww => Sta (ctx 20 H [] w) [(4, .rd u64R s4)] [] aa ww) ?_ (fun s4 => ?_)
 ·
  refine gSR <| R rfl (asg rfl) <| gNil <| eThen <| gLoop (fun (s5 : UInt64 × Int) aa ww => Sta (ctx 20 H [] w) [(3, .val (ptrTo v3 0)), (4, .rd u64R s5.1), (5, .rd i64R s5.2)] [(1, some (v3, .box 27 [.rd (arrR 32 u8R) r1]))] aa ww) (fun aa ww h => h.sub [1] (sS rfl <| sS rfl <| sS rfl <| sN) (rR rfl rfl <| rN)) (fun s5 => ?_)
  refine gSeq <| gSR <| R rfl (mv rfl) <| R rfl (I.lss rfl rfl) <| gNil <| eThen <| gIf rfl rfl (fun h6 => ?_) (fun h6 => ?_)
  ·
   refine gSkip <| eThen <| gSeq <| gBlk <| gReg <| R rfl (mv rfl) <| R rfl (U.mul rfl rfl) <| R rfl (mv rfl) <| lBind fun x7 h8 => R rfl (ixB 1 rfl rfl rfl h8 Tryz.underlying27 ti5) <| R rfl (ld 1 rfl rfl ((Foc.here).part (.el h8)) ty5 rfl) <| R rfl (B.toU rfl Tryz.underlying5 Tryz.underlying57) <| R rfl (U.add rfl rfl) <| R rfl (asg rfl) <| lName 4 rfl fun y9 => gNil <| eBlk <| eThen <| gReg <| R rfl (mv rfl) <| R rfl (I.add rfl rfl) <| R rfl (asg rfl) <| lName 5 rfl fun y10 => gNil <| eNext (fun aa ww h => h.sub [1] (sS rfl <| sS rfl <| sS rfl <| sN) (rR rfl rfl <| rN))
  ·
   refine gExit <| eTexit <| eLeave <| eMid (fun aa ww h => h.sub [] (sS rfl <| sN) (rN))
 ·
  refine gSR <| R rfl (mv rfl) <| R rfl (asg rfl) <| gNil <| eThen <| gRet <| eRet [] [] rfl (eE rfl <| eN) (rN)
def braidref03_challenge (a0 : UInt32) (a1 : UInt32) (a2 : List UInt8) : Option (UInt32) :=
 braidref03_four a0 >>= fun r2 =>
 app 1 [99] r2 >>= fun x4 =>
 braidref03_four a1 >>= fun r7 =>
 app 1 x4 r7 >>= fun x9 =>
 app 1 x9 a2 >>= fun x12 =>
 braidref03_number x12 >>= fun r15 =>
 some ((r15 % 500000003).toUInt32) >>= fun y17 =>
 some y17
theorem braidref03_challenge_ok (a0 : UInt32) (a1 : UInt32) (a2 : List UInt8) : Spec Tryz.prog 135 [.rd u32R a0, .rd u32R a1, .rd (sliceR u8R) a2] [] (braidref03_challenge a0 a1 a2) (fun r nv => ⟨[.rd u32R r], []⟩) := by
 refine spec 21 Tryz.func135 rfl rfl rfl fun H w => ?_
 refine gSR <| R rfl (asg rfl) <| gNil <| eThen <| gSR <| Ef rfl (lit (R := u8R) ([99] : List UInt8) 1 (pP rfl rfl <| pN) rfl Tryz.underlying103 ti5 rfl rfl) fun v1 => R rfl (mv rfl) <| call [] [(100, 2)] rfl Tryz.func155 rfl rfl (braidref03_four_ok _) (aQ rfl <| aN) rN fun r2 n3 => lBind fun x4 h5 => Ef rfl (apn 1 rfl rfl rfl (.own 2 rfl) h5 Tryz.underlying103 ti5 rfl rfl rfl) fun v6 => R rfl (mv rfl) <| call [] [(100, 3)] rfl Tryz.func155 rfl rfl (braidref03_four_ok _) (aQ rfl <| aN) rN fun r7 n8 => lBind fun x9 h10 => Ef rfl (apn 1 rfl rfl rfl (.own 3 rfl) h10 Tryz.underlying103 ti5 rfl rfl rfl) fun v11 => R rfl (asg rfl) <| gNil <| eThen <| gSR <| R rfl (mv rfl) <| R rfl (mv rfl) <| lBind fun x12 h13 => Ef rfl (apn 1 rfl rfl rfl .rd h13 Tryz.underlying103 ti5 rfl rfl rfl) fun v14 => lFrz 1 [17] rfl (fS rfl <| fN) <| call [] [] rfl Tryz.func156 rfl rfl (braidref03_number_ok _) (aQ rfl <| aN) rN fun r15 n16 => R rfl (U.rem rfl rfl (by decide)) <| R rfl (U.toW rfl Tryz.underlying57 Tryz.underlying56) <| R rfl (asg rfl) <| lName 6 rfl fun y17 => gNil <| eThen <| gRet <| eRet [] [] rfl (eE rfl <| eN) (rN)
def braidref03_Right (a0 : UInt32) (a1 : List UInt8) (a2 : api_Sig) : Option (Bool) :=
 braidref02_Exponent a2.E >>= fun r2 =>
 if !r2 then
  some false
 else
  braidref02_Exponent a2.S >>= fun r5 =>
  if !r5 then
   some false
  else
   braidref02_Raised a0 a2.E.toUInt64 >>= fun r8 =>
   braidref02_Inv r8 >>= fun r10 =>
   braidref03_Key a2.S >>= fun r12 =>
   braidref02_Product r12 r10.1 >>= fun r14 =>
   braidref03_challenge r14 a0 a1 >>= fun r16 =>
   some (r16 == a2.E)
theorem braidref03_Right_ok (a0 : UInt32) (a1 : List UInt8) (a2 : api_Sig) : Spec Tryz.prog 104 [.rd u32R a0, .rd (sliceR u8R) a1, .rd R_api_Sig a2] [] (braidref03_Right a0 a1 a2) (fun r nv => ⟨[.rd boolR r], []⟩) := by
 refine spec 39 Tryz.func104 rfl rfl rfl fun H w => ?_
 refine gSR <| Eb rfl (bx 1 rfl) fun v1 => R rfl (asg rfl) <| gNil <| eThen <| gSeq <| gSR <| R rfl (faB 1 rfl rfl Tryz.underlying63 rfl (by exact ti56)) <| R rfl (ld 1 rfl rfl ((Foc.here).part (pt_api_Sig_E _)) ty56 rfl) <| call [] [] rfl Tryz.func103 rfl rfl (braidref02_Exponent_ok _) (aQ rfl <| aN) rN fun r2 n3 => R rfl (not' rfl) <| R rfl (mv rfl) <| lSplit 13 rfl (fun h4 => ?_) (fun h4 => ?_)
 ·
  refine lKn 12 rfl h4 <| lSkip (gd rfl rfl rfl rfl) rfl rfl <| lSkip (gd rfl rfl rfl rfl) rfl rfl <| lSkip (gd rfl rfl rfl rfl) rfl rfl <| lSkip (gd rfl rfl rfl rfl) rfl rfl <| R rfl (pkT rfl rfl) <| gNil <| eThen <| gTrue rfl <| gSR <| R rfl (asg rfl) <| gNil <| eThen <| gRet <| eTret <| eRet [] [] rfl (eE rfl <| eN) (rN)
 ·
  refine lKn 12 rfl h4 <| lRun (gd rfl rfl rfl rfl) rfl rfl (faB 1 rfl rfl Tryz.underlying63 rfl (by exact ti56)) <| lRun (gd rfl rfl rfl rfl) rfl rfl (ld 1 rfl rfl ((Foc.here).part (pt_api_Sig_S _)) ty56 rfl) <| callg [] [] (gd rfl rfl rfl rfl) rfl Tryz.func103 rfl rfl (braidref02_Exponent_ok _) (aQ rfl <| aN) rN fun r5 n6 => lRun (gd rfl rfl rfl rfl) rfl rfl (not' rfl) <| R rfl (pkF rfl rfl) <| gNil <| eThen <| gIf rfl rfl (fun h7 => ?_) (fun h7 => ?_)
  ·
   refine gKn 17 rfl h7 <| gSR <| R rfl (asg rfl) <| gNil <| eThen <| gRet <| eTret <| eRet [] [] rfl (eE rfl <| eN) (rN)
  ·
   refine gKn 17 rfl h7 <| gSkip <| eThen <| gSR <| R rfl (mv rfl) <| R rfl (faB 1 rfl rfl Tryz.underlying63 rfl (by exact ti56)) <| R rfl (ld 1 rfl rfl ((Foc.here).part (pt_api_Sig_E _)) ty56 rfl) <| R rfl (W.toU rfl Tryz.underlying56 Tryz.underlying57) <| call [] [] rfl Tryz.func134 rfl rfl (braidref02_Raised_ok _ _) (aQ rfl <| aQ rfl <| aN) rN fun r8 n9 => call [] [] rfl Tryz.func133 rfl rfl (braidref02_Inv_ok _) (aQ rfl <| aN) rN fun r10 n11 => R rfl (mv rfl) <| R rfl (ext rfl rfl) <| R rfl (ext rfl rfl) <| R rfl (asg rfl) <| R rfl (asg rfl) <| gNil <| eThen <| gSeq <| gRegH [] mixed rfl rfl <| hTk 0 rfl rfl (faB 1 rfl rfl Tryz.underlying63 rfl (by exact ti56)) <| hTk 1 rfl rfl (ld 1 rfl rfl ((Foc.here).part (pt_api_Sig_S _)) ty56 rfl) <| hTk 3 rfl rfl (mv rfl) <| hTk 5 rfl rfl (mv rfl) <| hTk 6 rfl rfl (mv rfl) <| hTk 8 rfl rfl (faB 1 rfl rfl Tryz.underlying63 rfl (by exact ti56)) <| hTk 9 rfl rfl (ld 1 rfl rfl ((Foc.here).part (pt_api_Sig_E _)) ty56 rfl) <| hCallF 2 [] [] rfl (by kernel_rfl) rfl (gd0 rfl) rfl Tryz.func137 rfl rfl (braidref03_Key_ok _) (aQ rfl <| aN) rN rfl (fun _ _ => flat_num) fun r12 n13 => hCallF 4 [] [] rfl (by kernel_rfl) rfl (gd0 rfl) rfl Tryz.func136 rfl rfl (braidref02_Product_ok _ _) (aQ rfl <| aQ rfl <| aN) rN rfl (fun _ _ => flat_num) fun r14 n15 => hCallF 7 [] [] rfl (by kernel_rfl) rfl (gd0 rfl) rfl Tryz.func135 rfl rfl (braidref03_challenge_ok _ _ _) (aQ rfl <| aQ rfl <| aQ rfl <| aN) rN rfl (fun _ _ => flat_num) fun r16 n17 => hTk 10 rfl rfl (W.eql rfl rfl) <| hTk 11 rfl rfl (asg rfl) <| hDone (by kernel_rfl) <| eThen <| gRet <| eRet [] [] rfl (eE rfl <| eN) (rN)
def braidref06_Signed (a0 : api_Op) : Option (Bool) :=
 braidref06_text a0 >>= fun r2 =>
 braidref03_Right a0.Author r2 a0.Sig >>= fun r4 =>
 some r4
theorem braidref06_Signed_ok (a0 : api_Op) : Spec Tryz.prog 73 [.rd R_api_Op a0] [] (braidref06_Signed a0) (fun r nv => ⟨[.rd boolR r], []⟩) := by
 refine spec 10 Tryz.func73 rfl rfl rfl fun H w => ?_
 refine gSR <| Eb rfl (bx 1 rfl) fun v1 => R rfl (asg rfl) <| gNil <| eThen <| gSeq <| gRegH [11] mixed rfl rfl <| hTk 0 rfl rfl (faB 1 rfl rfl Tryz.underlying65 rfl (by exact ti56)) <| hTk 1 rfl rfl (ld 1 rfl rfl ((Foc.here).part (pt_api_Op_Author _)) ty56 rfl) <| hTk 2 rfl rfl (ld 1 rfl rfl Foc.here ty65 rfl) <| hTk 4 rfl rfl (faB 1 rfl rfl Tryz.underlying65 rfl (by exact ti63)) <| hTk 5 rfl rfl (ld 1 rfl rfl ((Foc.here).part (pt_api_Op_Sig _)) ty63 rfl) <| hCallF 3 [] [(100, 11)] rfl (by kernel_rfl) rfl (gd0 rfl) rfl Tryz.func105 rfl rfl (braidref06_text_ok _) (aQ rfl <| aN) rN rfl (fun _ _ => flat_val) fun r2 n3 => hFrz 11 [6] rfl (fS rfl <| fN) <| hCallF 6 [] [] rfl (by kernel_rfl) rfl (gd0 rfl) rfl Tryz.func104 rfl rfl (braidref03_Right_ok _ _ _) (aQ rfl <| aQ rfl <| aQ rfl <| aN) rN rfl (fun _ _ => flat_bool) fun r4 n5 => hTk 7 rfl rfl (asg rfl) <| hDone (by kernel_rfl) <| eThen <| gRet <| eRet [] [] rfl (eE rfl <| eN) (rN)
def braidref06_Verify (a0 : api_Op) : Option (Int) :=
 braidref06_Check a0 >>= fun r2 =>
 if r2 != 0 then
  braidref06_Check a0 >>= fun r5 =>
  some r5
 else
  braidref06_Signed a0 >>= fun r7 =>
  if !r7 then
   some 22
  else
   some 0
theorem braidref06_Verify_ok (a0 : api_Op) : Spec Tryz.prog 57 [.rd R_api_Op a0] [] (braidref06_Verify a0) (fun r nv => ⟨[.rd i64R r], []⟩) := by
 refine spec 11 Tryz.func57 rfl rfl rfl fun H w => ?_
 refine gSR <| Eb rfl (bx 1 rfl) fun v1 => R rfl (asg rfl) <| gNil <| eThen <| gSeq <| gSR <| R rfl (ld 1 rfl rfl Foc.here ty65 rfl) <| call [] [] rfl Tryz.func72 rfl rfl (braidref06_Check_ok _) (aQ rfl <| aN) rN fun r2 n3 => R rfl (I.neq rfl rfl) <| gNil <| eThen <| gIf rfl rfl (fun h4 => ?_) (fun h4 => ?_)
 ·
  refine gSR <| R rfl (ld 1 rfl rfl Foc.here ty65 rfl) <| call [] [] rfl Tryz.func72 rfl rfl (braidref06_Check_ok _) (aQ rfl <| aN) rN fun r5 n6 => R rfl (asg rfl) <| gNil <| eThen <| gRet <| eTret <| eRet [] [] rfl (eE rfl <| eN) (rN)
 ·
  refine gSkip <| eThen <| gSeq <| gSR <| R rfl (ld 1 rfl rfl Foc.here ty65 rfl) <| call [] [] rfl Tryz.func73 rfl rfl (braidref06_Signed_ok _) (aQ rfl <| aN) rN fun r7 n8 => R rfl (not' rfl) <| gNil <| eThen <| gIf rfl rfl (fun h9 => ?_) (fun h9 => ?_)
  ·
   refine gSR <| R rfl (asg rfl) <| gNil <| eThen <| gRet <| eTret <| eRet [] [] rfl (eE rfl <| eN) (rN)
  ·
   refine gSkip <| eThen <| gSR <| R rfl (asg rfl) <| gNil <| eThen <| gRet <| eRet [] [] rfl (eE rfl <| eN) (rN)
end Go.Proofs.YtjnheeekdadcpaaGreatDoor
namespace Go.Proofs.YtjnheeekdadcpaaGreatDoor
open Go Go.RowKit
set_option maxRecDepth 100000
set_option linter.unusedSimpArgs false
set_option linter.unusedVariables false
def slices_BinarySearchFunc_api_ID_api_ID_api_ID_digest_Cmp_L0 (a0 : List (Vector UInt8 32)) (a1 : Vector UInt8 32) (s4 : Int × Int) : Option (Sum Int (Int × Int)) :=
 if decide (s4.1 < s4.2) then
  some (w64 ((shr64 (UInt64.ofInt (w64 (s4.1 + s4.2))) 1).toNat : Int)) >>= fun y6 =>
  idx a0 y6 >>= fun x7 =>
  digest_Cmp x7 a1 >>= fun r9 =>
  if decide (r9 < 0) then
   some (.inr (w64 (y6 + 1), s4.2))
  else
   some (.inr (s4.1, y6))
 else
  some (.inl s4.1)
def slices_BinarySearchFunc_api_ID_api_ID_api_ID_digest_Cmp (a0 : List (Vector UInt8 32)) (a1 : Vector UInt8 32) : Option (Int × Bool) :=
 some (a0.length : Int) >>= fun y2 =>
 (iter (slices_BinarySearchFunc_api_ID_api_ID_api_ID_digest_Cmp_L0 a0 a1) (0, y2)) >>= fun s3 =>
 if decide (s3 < y2) then
  idx a0 s3 >>= fun x13 =>
  digest_Cmp x13 a1 >>= fun r15 =>
  some (s3, r15 == 0)
 else
  some (s3, false)
theorem slices_BinarySearchFunc_api_ID_api_ID_api_ID_digest_Cmp_ok (a0 : List (Vector UInt8 32)) (a1 : Vector UInt8 32) : Spec Tryz.prog 50 [.rd (sliceR (arrR 32 u8R)) a0, .rd (arrR 32 u8R) a1, .val (.func (.func 41) #[] #[])] [] (slices_BinarySearchFunc_api_ID_api_ID_api_ID_digest_Cmp a0 a1) (fun r nv => ⟨[.rd i64R r.1, .rd boolR r.2], []⟩) := by
 refine spec 49 Tryz.func50 rfl rfl rfl fun H w => ?_
 refine gSR <| Eb rfl (bx 1 rfl) fun v1 => R rfl (asg rfl) <| R rfl (asg rfl) <| gNil <| eThen <| gSR <| R rfl (mv rfl) <| R rfl (len' rfl .rd rfl Tryz.underlying22) <| R rfl (asg rfl) <| lName 8 rfl fun y2 => gNil <| eThen <| gSR <| R rfl (mv rfl) <| R rfl (asg rfl) <| R rfl (asg rfl) <| gNil <| eThen <| gMid (fun (s3 : Int) aa ww => Sta (ctx 49 H [] w) [(0, .rd (sliceR (arrR 32 u8R)) a0), (2, .val (.func (.func 41) #[] #[])), (4, .val (ptrTo v1 0)), (8, .rd i64R y2), (9, .rd i64R s3)] [(1, some (v1, .box 27 [.rd (arrR 32 u8R) a1]))] aa ww) ?_ (fun s3 => ?_)
 ·
  refine gLoop (fun (s4 : Int × Int) aa ww => Sta (ctx 49 H [] w) [(0, .rd (sliceR (arrR 32 u8R)) a0), (2, .val (.func (.func 41) #[] #[])), (4, .val (ptrTo v1 0)), (8, .rd i64R y2), (9, .rd i64R s4.1), (10, .rd i64R s4.2)] [(1, some (v1, .box 27 [.rd (arrR 32 u8R) a1]))] aa ww) (fun aa ww h => h.sub [1] (sS rfl <| sS rfl <| sS rfl <| sS rfl <| sS rfl <| sS rfl <| sN) (rR rfl rfl <| rN)) (fun s4 => ?_)
  refine gSeq <| gSR <| R rfl (mv rfl) <| R rfl (mv rfl) <| R rfl (I.lss rfl rfl) <| gNil <| eThen <| gIf rfl rfl (fun h5 => ?_) (fun h5 => ?_)
  ·
   refine gSkip <| eThen <| gBlk <| gSR <| R rfl (mv rfl) <| R rfl (mv rfl) <| R rfl (I.add rfl rfl) <| R rfl (I.toU rfl Tryz.underlying3 Tryz.underlying101) <| R rfl (U.shr rfl rfl (Int.natCast_nonneg _)) <| R rfl (U.toI rfl Tryz.underlying101 Tryz.underlying3) <| R rfl (asg rfl) <| lName 11 rfl fun y6 => gNil <| eThen <| gSeq <| gRegH [] mixed rfl rfl <| hTk 0 rfl rfl (mv rfl) <| hTk 1 rfl rfl (mv rfl) <| hTk 2 rfl rfl (mv rfl) <| hBind fun x7 h8 => hTk 3 rfl rfl (ixR rfl rfl h8 Tryz.underlying22 ti27 rfl) <| hTk 4 rfl rfl (ldR rfl ty27) <| hTk 5 rfl rfl (ld 1 rfl rfl Foc.here ty27 rfl) <| hCallVF 6 [] [] rfl (by kernel_rfl) rfl (gd0 rfl) rfl Tryz.func41 rfl rfl rfl (digest_Cmp_ok _ _) (aQ rfl <| aQ rfl <| aN) (cN) rfl rN rfl (fun _ _ => flat_num) fun r9 n10 => hTk 7 rfl rfl (I.lss rfl rfl) <| hDone (by kernel_rfl) <| eThen <| gIf rfl rfl (fun h11 => ?_) (fun h11 => ?_)
   ·
    refine gReg <| R rfl (mv rfl) <| R rfl (I.add rfl rfl) <| R rfl (asg rfl) <| gNil <| eBlk <| eNext (fun aa ww h => h.sub [1] (sS rfl <| sS rfl <| sS rfl <| sS rfl <| sS rfl <| sS rfl <| sN) (rR rfl rfl <| rN))
   ·
    refine gReg <| R rfl (mv rfl) <| R rfl (asg rfl) <| gNil <| eBlk <| eNext (fun aa ww h => h.sub [1] (sS rfl <| sS rfl <| sS rfl <| sS rfl <| sS rfl <| sS rfl <| sN) (rR rfl rfl <| rN))
  ·
   refine gExit <| eTexit <| eLeave <| eMid (fun aa ww h => h.sub [1] (sS rfl <| sS rfl <| sS rfl <| sS rfl <| sS rfl <| sN) (rR rfl rfl <| rN))
 ·
  refine gSeq <| gRegH [] mixed rfl rfl <| hTk 0 rfl rfl (mv rfl) <| hTk 1 rfl rfl (mv rfl) <| hTk 2 rfl rfl (mv rfl) <| hTk 3 rfl rfl (I.lss rfl rfl) <| hTk 4 rfl rfl (mv rfl) <| hIf 39 rfl rfl (fun h12 => ?_) (fun h12 => ?_)
  ·
   refine hKn 38 rfl rfl h12 <| hTake 5 rfl (by kernel_rfl) (by kernel_rfl) (by kernel_rfl) (gd rfl rfl rfl rfl) rfl rfl (mv rfl) <| hTake 6 rfl (by kernel_rfl) (by kernel_rfl) (by kernel_rfl) (gd rfl rfl rfl rfl) rfl rfl (mv rfl) <| hTake 7 rfl (by kernel_rfl) (by kernel_rfl) (by kernel_rfl) (gd rfl rfl rfl rfl) rfl rfl (mv rfl) <| hBind fun x13 h14 => hTake 8 rfl (by kernel_rfl) (by kernel_rfl) (by kernel_rfl) (gd rfl rfl rfl rfl) rfl rfl (ixR rfl rfl h14 Tryz.underlying22 ti27 rfl) <| hTake 9 rfl (by kernel_rfl) (by kernel_rfl) (by kernel_rfl) (gd rfl rfl rfl rfl) rfl rfl (ldR rfl ty27) <| hTake 10 rfl (by kernel_rfl) (by kernel_rfl) (by kernel_rfl) (gd rfl rfl rfl rfl) rfl rfl (ld 1 rfl rfl Foc.here ty27 rfl) <| hCallVF 11 [] [] rfl (by kernel_rfl) rfl (gd rfl rfl rfl rfl) rfl Tryz.func41 rfl rfl rfl (digest_Cmp_ok _ _) (aQ rfl <| aQ rfl <| aN) (cN) rfl rN rfl (fun _ _ => flat_num) fun r15 n16 => hTake 12 rfl (by kernel_rfl) (by kernel_rfl) (by kernel_rfl) (gd rfl rfl rfl rfl) rfl rfl (I.eql rfl rfl) <| hTk 13 rfl rfl (pkT rfl rfl) <| hTk 14 rfl rfl (asg rfl) <| hTk 15 rfl rfl (asg rfl) <| hDone (by kernel_rfl) <| eThen <| gRet <| eRet [] [] rfl (eE rfl <| eE rfl <| eN) (rN)
  ·
   refine hKn 38 rfl rfl h12 <| hSkip 5 rfl (by kernel_rfl) (by kernel_rfl) (by kernel_rfl) (gd rfl rfl rfl rfl) rfl rfl <| hSkip 6 rfl (by kernel_rfl) (by kernel_rfl) (by kernel_rfl) (gd rfl rfl rfl rfl) rfl rfl <| hSkip 7 rfl (by kernel_rfl) (by kernel_rfl) (by kernel_rfl) (gd rfl rfl rfl rfl) rfl rfl <| hSkip 8 rfl (by kernel_rfl) (by kernel_rfl) (by kernel_rfl) (gd rfl rfl rfl rfl) rfl rfl <| hSkip 9 rfl (by kernel_rfl) (by kernel_rfl) (by kernel_rfl) (gd rfl rfl rfl rfl) rfl rfl <| hSkip 10 rfl (by kernel_rfl) (by kernel_rfl) (by kernel_rfl) (gd rfl rfl rfl rfl) rfl rfl <| hSkip 11 rfl (by kernel_rfl) (by kernel_rfl) (by kernel_rfl) (gd rfl rfl rfl rfl) rfl rfl <| hSkip 12 rfl (by kernel_rfl) (by kernel_rfl) (by kernel_rfl) (gd rfl rfl rfl rfl) rfl rfl <| hTk 13 rfl rfl (pkF rfl rfl) <| hTk 14 rfl rfl (asg rfl) <| hTk 15 rfl rfl (asg rfl) <| hDone (by kernel_rfl) <| eThen <| gRet <| eRet [] [] rfl (eE rfl <| eE rfl <| eN) (rN)
def dag_find (a0 : api_Graph) (a1 : Vector UInt8 32) : Option (Int × Bool) :=
 slices_BinarySearchFunc_api_ID_api_ID_api_ID_digest_Cmp a0.IDs a1 >>= fun r3 =>
 some (r3.1, r3.2)
theorem dag_find_ok (a0 : api_Graph) (a1 : Vector UInt8 32) : Spec Tryz.prog 71 [.rd R_api_Graph a0, .rd (arrR 32 u8R) a1] [] (dag_find a0 a1) (fun r nv => ⟨[.rd i64R r.1, .rd boolR r.2], []⟩) := by
 refine spec 12 Tryz.func71 rfl rfl rfl fun H w => ?_
 refine gSR <| Eb rfl (bx 1 rfl) fun v1 => Eb rfl (bx 2 rfl) fun v2 => R rfl (asg rfl) <| R rfl (asg rfl) <| gNil <| eThen <| gSR <| R rfl (faB 1 rfl rfl Tryz.underlying25 rfl (by exact ti22)) <| R rfl (ld 1 rfl rfl ((Foc.here).part (pt_api_Graph_IDs _)) ty22 rfl) <| R rfl (ld 2 rfl rfl Foc.here ty27 rfl) <| call [] [] rfl Tryz.func50 rfl rfl (slices_BinarySearchFunc_api_ID_api_ID_api_ID_digest_Cmp_ok _ _) (aQ rfl <| aQ rfl <| aQ rfl <| aN) rN fun r3 n4 => R rfl (ext rfl rfl) <| R rfl (ext rfl rfl) <| R rfl (asg rfl) <| R rfl (asg rfl) <| gNil <| eThen <| gRet <| eRet [] [] rfl (eE rfl <| eE rfl <| eN) (rN)
def dag_shape_L0 (a0 : api_Graph) (s3 : Int) : Option (Sum (Sum Int Unit) Int) :=
 if decide (s3 < (a0.IDs.length : Int)) then
  idx a0.IDs (w64 (s3 - 1)) >>= fun x5 =>
  idx a0.IDs s3 >>= fun x7 =>
  digest_Cmp x5 x7 >>= fun r9 =>
  if decide (0 ≤ r9) then
   some (.inl (.inl 32))
  else
   some (.inr (w64 (s3 + 1)))
 else
  some (.inl (.inr ()))
def dag_shape_L4 (a0 : api_Graph) (s19 : (List Int) × (List (List Int)) × (List Int) × Int) (x22 : api_Op) (s26 : (List (List Int)) × Int) : Option (Sum (Sum (Sum (Sum Int ((List Int) × (List (List Int)) × (List Int))) ((List Int) × (List (List Int)) × (List Int) × Int)) ((List (List Int)))) ((List (List Int)) × Int)) :=
 if decide (s26.2 < (x22.Preds.length : Int)) then
  idx x22.Preds s26.2 >>= fun x29 =>
  dag_find a0 x29 >>= fun r32 =>
  if !r32.2 then
   some (.inl (.inl (.inl (.inl 40))))
  else
   idx s26.1 r32.1 >>= fun x35 =>
   app 8 x35 [s19.2.2.2] >>= fun x38 =>
   some (.inr (s26.1.set (r32.1 : Int).toNat x38, w64 (s26.2 + 1)))
 else
  some (.inl (.inr s26.1))
def dag_shape_L2 (a0 : api_Graph) (s19 : (List Int) × (List (List Int)) × (List Int) × Int) : Option (Sum (Sum Int ((List Int) × (List (List Int)) × (List Int))) ((List Int) × (List (List Int)) × (List Int) × Int)) :=
 if decide (s19.2.2.2 < (a0.Ops.length : Int)) then
  idx a0.Ops s19.2.2.2 >>= fun x22 =>
  orRet (iter (dag_shape_L4 a0 s19 x22) (s19.2.1, 0)) fun s25 =>
  idx s19.1 s19.2.2.2 >>= fun x42 =>
  idx (s19.1.set (s19.2.2.2 : Int).toNat (x22.Preds.length : Int)) s19.2.2.2 >>= fun x44 =>
  if x44 == 0 then
   app 8 s19.2.2.1 [s19.2.2.2] >>= fun x48 =>
   some (.inr (s19.1.set (s19.2.2.2 : Int).toNat (x22.Preds.length : Int), s25, x48, w64 (s19.2.2.2 + 1)))
  else
   some (.inr (s19.1.set (s19.2.2.2 : Int).toNat (x22.Preds.length : Int), s25, s19.2.2.1, w64 (s19.2.2.2 + 1)))
 else
  some (.inl (.inr (s19.1, s19.2.1, s19.2.2.1)))
def dag_shape_L8 (x59 : List Int) (s61 : (List Int) × (List Int) × Int) : Option (Sum ((List Int) × (List Int)) ((List Int) × (List Int) × Int)) :=
 if decide (s61.2.2 < (x59.length : Int)) then
  idx x59 s61.2.2 >>= fun x64 =>
  idx s61.1 x64 >>= fun x66 =>
  idx s61.1 x64 >>= fun x68 =>
  idx (s61.1.set (x64 : Int).toNat (w64 (x66 - 1))) x64 >>= fun x70 =>
  if x70 == 0 then
   app 8 s61.2.1 [x64] >>= fun x74 =>
   some (.inr (s61.1.set (x64 : Int).toNat (w64 (x66 - 1)), x74, w64 (s61.2.2 + 1)))
  else
   some (.inr (s61.1.set (x64 : Int).toNat (w64 (x66 - 1)), s61.2.1, w64 (s61.2.2 + 1)))
 else
  some (.inl (s61.1, s61.2.1))
def dag_shape_L6 (s18 : (List Int) × (List (List Int)) × (List Int)) (s53 : (List Int) × (List Int) × Int) : Option (Sum Int ((List Int) × (List Int) × Int)) :=
 if decide (s53.2.2 < (s53.2.1.length : Int)) then
  (idx s53.2.1 s53.2.2 >>= fun x57 =>
  idx s18.2.1 x57 >>= fun x59 =>
  iter (dag_shape_L8 x59) (s53.1, s53.2.1, 0)) >>= fun s56 =>
  some (w64 (s53.2.2 + 1)) >>= fun y78 =>
  some (.inr (s56.1, s56.2, y78))
 else
  some (.inl s53.2.2)
def dag_shape (a0 : api_Graph) : Option (Int) :=
 orRet (iter (dag_shape_L0 a0) 1) fun s2 =>
 mkn 8 0 (a0.Ops.length : Int) >>= fun x12 =>
 mkn 24 ([] : List Int) (a0.Ops.length : Int) >>= fun x15 =>
 orRet (iter (dag_shape_L2 a0) (x12, x15, [], 0)) fun s18 =>
 (iter (dag_shape_L6 s18) (s18.1, s18.2.2, 0)) >>= fun s52 =>
 if decide (s52 < (a0.Ops.length : Int)) then
  some 36
 else
  some 0
theorem dag_shape_ok (a0 : api_Graph) : Spec Tryz.prog 56 [.rd R_api_Graph a0] [] (dag_shape a0) (fun r nv => ⟨[.rd i64R r], []⟩) := by
 refine spec 133 Tryz.func56 rfl rfl rfl fun H w => ?_
 refine gSR <| Eb rfl (bx 1 rfl) fun v1 => R rfl (asg rfl) <| gNil <| eThen <| gMidR (fun (s2 : Unit) aa ww => Sta (ctx 133 H [] w) [(1, .val (ptrTo v1 0))] [(1, some (v1, .box 25 [.rd R_api_Graph a0]))] aa ww) ?_ (fun s2 => ?_)
 ·
  refine gSR <| R rfl (asg rfl) <| gNil <| eThen <| gLoop (fun (s3 : Int) aa ww => Sta (ctx 133 H [] w) [(1, .val (ptrTo v1 0)), (3, .rd i64R s3)] [(1, some (v1, .box 25 [.rd R_api_Graph a0]))] aa ww) (fun aa ww h => h.sub [1] (sS rfl <| sS rfl <| sN) (rR rfl rfl <| rN)) (fun s3 => ?_)
  refine gSeq <| gSR <| R rfl (mv rfl) <| R rfl (faB 1 rfl rfl Tryz.underlying25 rfl (by exact ti22)) <| R rfl (ld 1 rfl rfl ((Foc.here).part (pt_api_Graph_IDs _)) ty22 rfl) <| R rfl (len' rfl .rd rfl Tryz.underlying22) <| R rfl (I.lss rfl rfl) <| gNil <| eThen <| gIf rfl rfl (fun h4 => ?_) (fun h4 => ?_)
  ·
   refine gSkip <| eThen <| gSeq <| gBlk <| gSeq <| gRegH [] mixed rfl rfl <| hTk 0 rfl rfl (faB 1 rfl rfl Tryz.underlying25 rfl (by exact ti22)) <| hTk 1 rfl rfl (ld 1 rfl rfl ((Foc.here).part (pt_api_Graph_IDs _)) ty22 rfl) <| hTk 2 rfl rfl (mv rfl) <| hTk 3 rfl rfl (I.sub rfl rfl) <| hBind fun x5 h6 => hTk 4 rfl rfl (ixR rfl rfl h6 Tryz.underlying22 ti27 rfl) <| hTk 5 rfl rfl (ldR rfl ty27) <| hTk 6 rfl rfl (faB 1 rfl rfl Tryz.underlying25 rfl (by exact ti22)) <| hTk 7 rfl rfl (ld 1 rfl rfl ((Foc.here).part (pt_api_Graph_IDs _)) ty22 rfl) <| hTk 8 rfl rfl (mv rfl) <| hBind fun x7 h8 => hTk 9 rfl rfl (ixR rfl rfl h8 Tryz.underlying22 ti27 rfl) <| hTk 10 rfl rfl (ldR rfl ty27) <| hCallF 11 [] [] rfl (by kernel_rfl) rfl (gd0 rfl) rfl Tryz.func41 rfl rfl (digest_Cmp_ok _ _) (aQ rfl <| aQ rfl <| aN) rN rfl (fun _ _ => flat_num) fun r9 n10 => hTk 12 rfl rfl (I.geq rfl rfl) <| hDone (by kernel_rfl) <| eThen <| gIf rfl rfl (fun h11 => ?_) (fun h11 => ?_)
   ·
    refine gSR <| R rfl (asg rfl) <| gNil <| eThen <| gRet <| eBret <| eTret <| eLret <| eMret <| eRet [] [] rfl (eE rfl <| eN) (rN)
   ·
    refine gSkip <| eBlk <| eThen <| gReg <| R rfl (mv rfl) <| R rfl (I.add rfl rfl) <| R rfl (asg rfl) <| gNil <| eNext (fun aa ww h => h.sub [1] (sS rfl <| sS rfl <| sN) (rR rfl rfl <| rN))
  ·
   refine gExit <| eTexit <| eLeave <| eMidR (fun aa ww h => h.sub [1] (sS rfl <| sN) (rR rfl rfl <| rN))
 ·
  refine gSR <| R rfl (faB 1 rfl rfl Tryz.underlying25 rfl (by exact ti23)) <| R rfl (ld 1 rfl rfl ((Foc.here).part (pt_api_Graph_Ops _)) ty23 rfl) <| R rfl (len' rfl .rd rfl Tryz.underlying23) <| lBind fun x12 h13 => Ef rfl (mks (R := i64R) 44 rfl rfl h13 Tryz.underlying78 ti3 (Zr.num rfl) rfl) fun v14 => R rfl (asg rfl) <| gNil <| eThen <| gSR <| R rfl (faB 1 rfl rfl Tryz.underlying25 rfl (by exact ti23)) <| R rfl (ld 1 rfl rfl ((Foc.here).part (pt_api_Graph_Ops _)) ty23 rfl) <| R rfl (len' rfl .rd rfl Tryz.underlying23) <| lBind fun x15 h16 => Ef rfl (mksF 45 rfl rfl h16 Tryz.underlying109 ti78 rfl) fun v17 => lNewF (base := 100000) (lits := [(1, some (v1, .box 25 [.rd R_api_Graph a0])), (44, some (v14, .list i64R 3 x12)), (45, some (v17, .list rawR 78 (fvals (fun _ => Value.slice none 0 0) x15)))]) i64R 3 [1, 44, 45] (mkn_nil h16) (rR rfl rfl <| rR rfl rfl <| rR rfl rfl <| rN) <| R rfl (asg rfl) <| gNil <| eThen <| gSR <| R rfl (asg rfl) <| gNil <| eThen <| gMidR (fun (s18 : (List Int) × (List (List Int)) × (List Int)) aa ww => ∃ nv : Nat → Value, Sta (ctx 133 H [] w) [(1, .val (ptrTo v1 0)), (4, .val v14), (5, .val v17), (6, .val (nv 0))] ([(1, some (v1, .box 25 [.rd R_api_Graph a0])), (44, some (v14, .list i64R 3 s18.1)), (45, some (v17, .list rawR 78 (fvals (fun j => nv (j + 1)) s18.2.1))), (50, some ((nv 0), .list i64R 3 s18.2.2))] ++ famR 100000 i64R 3 (fun j => nv (j + 1)) s18.2.1 0) aa ww) ?_ (fun s18 => ?_)
  ·
   refine gSR <| R rfl (faB 1 rfl rfl Tryz.underlying25 rfl (by exact ti23)) <| R rfl (ld 1 rfl rfl ((Foc.here).part (pt_api_Graph_Ops _)) ty23 rfl) <| R rfl (len' rfl .rd rfl Tryz.underlying23) <| R rfl (mv rfl) <| gNil <| eThen <| gNew i64R 3 56 <| gLoop (fun (s19 : (List Int) × (List (List Int)) × (List Int) × Int) aa ww => ∃ nv : Nat → Value, Sta (ctx 133 H [] w) [(1, .val (ptrTo v1 0)), (4, .val v14), (5, .val v17), (6, .val (nv 0)), (45, .rd (sliceR R_api_Op) a0.Ops), (46, .rd i64R (a0.Ops.length : Int)), (47, .rd i64R s19.2.2.2)] ([(1, some (v1, .box 25 [.rd R_api_Graph a0])), (44, some (v14, .list i64R 3 s19.1)), (45, some (v17, .list rawR 78 (fvals (fun j => nv (j + 1)) s19.2.1))), (55, some ((nv 0), .list i64R 3 s19.2.2.1))] ++ famR 100000 i64R 3 (fun j => nv (j + 1)) s19.2.1 0) aa ww) (fun aa ww h => ⟨nvlF [(.slice none 0 0)] (fun _ => Value.slice none 0 0), h.subF (by repeat (first | refine HasFam.cons rfl ?_ | exact HasFam.tail)) [1, 44, 45, 56] (sS rfl <| sS rfl <| sS rfl <| sS rfl <| sS rfl <| sS rfl <| sS rfl <| sN) (rR rfl rfl <| rR rfl rfl <| rR rfl rfl <| rR rfl rfl <| rN) rfl⟩) (fun s19 => ?_)
   refine gEx fun n20 => gSR <| R rfl (I.lss rfl rfl) <| gNil <| eThen <| gSeq <| gIf rfl rfl (fun h21 => ?_) (fun h21 => ?_)
   ·
    refine gSkip <| eThen <| gSeq <| gBlk <| gSR <| R rfl (mv rfl) <| lBind fun x22 h23 => R rfl (ixR rfl rfl h23 Tryz.underlying23 ti65 rfl) <| R rfl (ldR rfl ty65) <| Eb rfl (allc 57 ti65 (ZrE.rd (R := u32R) (x := 0) (Zr.num rfl) (ZrE.nilS (ZrE.rd (R := u64R) (x := 0) (Zr.num rfl) (ZrE.rd (R := R_api_Act) (x := (⟨0, [], (⟨0, 0, 0, []⟩ : api_Value)⟩ : api_Act)) zr61 (ZrE.rd (R := R_api_Sig) (x := (⟨0, 0⟩ : api_Sig)) zr63 ZrE.nil rfl) rfl) rfl)) rfl)) fun v24 => R rfl (asg rfl) <| lPnl (arrR 32 u8R) [.rd u32R 0, .rd (sliceR (arrR 32 u8R)) [], .rd u64R 0, .rd R_api_Act (⟨0, [], (⟨0, 0, 0, []⟩ : api_Value)⟩ : api_Act), .rd R_api_Sig (⟨0, 0⟩ : api_Sig)] 57 [.rd u32R 0] [.rd u64R 0, .rd R_api_Act (⟨0, [], (⟨0, 0, 0, []⟩ : api_Value)⟩ : api_Act), .rd R_api_Sig (⟨0, 0⟩ : api_Sig)] rfl rfl rfl <| lJoi (R := R_api_Op) (⟨0, [], 0, (⟨0, [], (⟨0, 0, 0, []⟩ : api_Value)⟩ : api_Act), (⟨0, 0⟩ : api_Sig)⟩ : api_Op) 57 rfl (Sp.via (Sp.prod (Sp.prod (Sp.prod (Sp.prod (Sp.prod Sp.unit)))))) <| Es (sto 57 rfl rfl Foc.here rfl ti65) <| gNil <| eThen <| gMidR (fun (s25 : (List (List Int))) aa ww => ∃ nv : Nat → Value, Sta (ctx 133 H [] w) [(1, .val (ptrTo v1 0)), (4, .val v14), (5, .val v17), (6, .val (n20 0)), (7, .rd i64R s19.2.2.2), (8, .val (ptrTo v24 0)), (45, .rd (sliceR R_api_Op) a0.Ops), (46, .rd i64R (a0.Ops.length : Int)), (47, .rd i64R s19.2.2.2)] ([(1, some (v1, .box 25 [.rd R_api_Graph a0])), (44, some (v14, .list i64R 3 s19.1)), (45, some (v17, .list rawR 78 (fvals (fun j => nv (j + 0)) s25))), (55, some ((n20 0), .list i64R 3 s19.2.2.1)), (57, some (v24, .box 65 [.rd R_api_Op x22]))] ++ famR 100000 i64R 3 (fun j => nv (j + 0)) s25 0) aa ww) ?_ (fun s25 => ?_)
    ·
     refine gSR <| R rfl (faB 57 rfl rfl Tryz.underlying65 rfl (by exact ti22)) <| R rfl (ld 57 rfl rfl ((Foc.here).part (pt_api_Op_Preds _)) ty22 rfl) <| R rfl (len' rfl .rd rfl Tryz.underlying22) <| R rfl (mv rfl) <| gNil <| eThen <| gLoop (fun (s26 : (List (List Int)) × Int) aa ww => ∃ nv : Nat → Value, Sta (ctx 133 H [] w) [(1, .val (ptrTo v1 0)), (4, .val v14), (5, .val v17), (6, .val (n20 0)), (7, .rd i64R s19.2.2.2), (8, .val (ptrTo v24 0)), (45, .rd (sliceR R_api_Op) a0.Ops), (46, .rd i64R (a0.Ops.length : Int)), (47, .rd i64R s19.2.2.2), (53, .rd (sliceR (arrR 32 u8R)) x22.Preds), (54, .rd i64R (x22.Preds.length : Int)), (55, .rd i64R s26.2)] ([(1, some (v1, .box 25 [.rd R_api_Graph a0])), (44, some (v14, .list i64R 3 s19.1)), (45, some (v17, .list rawR 78 (fvals (fun j => nv (j + 0)) s26.1))), (55, some ((n20 0), .list i64R 3 s19.2.2.1)), (57, some (v24, .box 65 [.rd R_api_Op x22]))] ++ famR 100000 i64R 3 (fun j => nv (j + 0)) s26.1 0) aa ww) (fun aa ww h => ⟨nvlF [] (fun j => n20 (j + 1)), h.subF (by repeat (first | refine HasFam.cons rfl ?_ | exact HasFam.tail)) [1, 44, 45, 55, 57] (sS rfl <| sS rfl <| sS rfl <| sS rfl <| sS rfl <| sS rfl <| sS rfl <| sS rfl <| sS rfl <| sS rfl <| sS rfl <| sS rfl <| sN) (rR rfl rfl <| rR rfl rfl <| rR rfl rfl <| rR rfl rfl <| rR rfl rfl <| rN) rfl⟩) (fun s26 => ?_)
     refine gEx fun n27 => gSR <| R rfl (I.lss rfl rfl) <| gNil <| eThen <| gSeq <| gIf rfl rfl (fun h28 => ?_) (fun h28 => ?_)
     ·
      refine gSkip <| eThen <| gSeq <| gBlk <| gSR <| lBind fun x29 h30 => R rfl (ixR rfl rfl h30 Tryz.underlying22 ti27 rfl) <| R rfl (ldR rfl ty27) <| Eb rfl (allc 58 ti27 (.zr (R := (arrR 32 u8R)) (x := (Vector.replicate 32 0)) zr26)) fun v31 => Es (sto 58 rfl rfl Foc.here rfl ti27) <| gNil <| eThen <| gSR <| R rfl (ld 1 rfl rfl Foc.here ty25 rfl) <| R rfl (ld 58 rfl rfl Foc.here ty27 rfl) <| call [] [] rfl Tryz.func71 rfl rfl (dag_find_ok _ _) (aQ rfl <| aQ rfl <| aN) rN fun r32 n33 => R rfl (mv rfl) <| R rfl (ext rfl rfl) <| R rfl (ext rfl rfl) <| R rfl (asg rfl) <| R rfl (asg rfl) <| gNil <| eThen <| gSeq <| gSR <| R rfl (mv rfl) <| R rfl (not' rfl) <| gNil <| eThen <| gIf rfl rfl (fun h34 => ?_) (fun h34 => ?_)
      ·
       refine gSR <| R rfl (asg rfl) <| gNil <| eThen <| gRet <| eTret <| eBret <| eTret <| eLret <| eMret <| eBret <| eTret <| eLret <| eMret <| eRet [] [] rfl (eE rfl <| eN) (rN)
      ·
       refine gSkip <| eThen <| gReg <| R rfl (mv rfl) <| R rfl (mv rfl) <| R rfl (mv rfl) <| R rfl (mv rfl) <| lBind fun x35 h36 => R rfl (ixO 45 rfl rfl rfl (idx_fam h36) Tryz.underlying109 ti78) <| R rfl (ldF 45 rfl rfl h36 ty78 rfl) <| R rfl (mv rfl) <| Ef rfl (lit (R := i64R) ([s19.2.2.2] : List Int) 59 (pP rfl rfl <| pN) rfl Tryz.underlying78 ti3 rfl rfl) fun v37 => lBind fun x38 h39 => lApF (base := 100000) (lits := [(1, some (v1, .box 25 [.rd R_api_Graph a0])), (44, some (v14, .list i64R 3 s19.1)), (55, some ((n20 0), .list i64R 3 s19.2.2.1)), (57, some (v24, .box 65 [.rd R_api_Op x22])), (58, some (v31, .box 27 [.rd (arrR 32 u8R) x29])), (59, some (v37, .list i64R 3 [s19.2.2.2]))]) 45 [1, 44, 55, 57, 58, 59] (by repeat (first | refine HasFam.cons rfl ?_ | exact HasFam.tail)) rfl rfl rfl h36 rfl rfl rfl rfl (.own 59 rfl) h39 rfl (fun _ h => by cases h; rfl) (fun _ h => by cases h; rfl) rfl rfl Tryz.underlying78 ti3 rfl rfl rfl Tryz.underlying109 ti78 ty78 (rR rfl rfl <| rR rfl rfl <| rR rfl rfl <| rR rfl rfl <| rR rfl rfl <| rR rfl rfl <| rN) rfl fun v40 => gNil <| eBlk <| eThen <| gReg <| R rfl (I.add rfl rfl) <| R rfl (mv rfl) <| gNil <| eNext (fun aa ww h => ⟨nvlF [] (updF (fun j => n27 (j + 0)) (r32.1 : Int).toNat v40), h.subF (by repeat (first | refine HasFam.cons rfl ?_ | exact HasFam.tail)) [1, 44, 45, 55, 57] (sS rfl <| sS rfl <| sS rfl <| sS rfl <| sS rfl <| sS rfl <| sS rfl <| sS rfl <| sS rfl <| sS rfl <| sS rfl <| sS rfl <| sN) (rR rfl rfl <| rR rfl rfl <| rR rfl rfl <| rR rfl rfl <| rR rfl rfl <| rN) rfl⟩)
     ·
      refine gExit <| eTexit <| eLeave <| eMidR (fun aa ww h => ⟨nvlF [] (fun j => n27 (j + 0)), h.subF (by repeat (first | refine HasFam.cons rfl ?_ | exact HasFam.tail)) [1, 44, 45, 55, 57] (sS rfl <| sS rfl <| sS rfl <| sS rfl <| sS rfl <| sS rfl <| sS rfl <| sS rfl <| sS rfl <| sN) (rR rfl rfl <| rR rfl rfl <| rR rfl rfl <| rR rfl rfl <| rR rfl rfl <| rN) rfl⟩)
    ·
     refine gEx fun n41 => gSR <| R rfl (mv rfl) <| R rfl (mv rfl) <| R rfl (faB 57 rfl rfl Tryz.underlying65 rfl (by exact ti22)) <| R rfl (ld 57 rfl rfl ((Foc.here).part (pt_api_Op_Preds _)) ty22 rfl) <| R rfl (len' rfl .rd rfl Tryz.underlying22) <| lBind fun x42 h43 => R rfl (ixO 44 rfl rfl rfl h43 Tryz.underlying78 ti3) <| Es (sto 44 rfl rfl (Foc.el h43) rfl ti3) <| gNil <| eThen <| gSR <| R rfl (mv rfl) <| R rfl (mv rfl) <| lBind fun x44 h45 => R rfl (ixO 44 rfl rfl rfl h45 Tryz.underlying78 ti3) <| R rfl (ld 44 rfl rfl (Foc.el h45) ty3 rfl) <| R rfl (I.eql rfl rfl) <| gNil <| eThen <| gIf rfl rfl (fun h46 => ?_) (fun h46 => ?_)
     ·
      refine gReg <| R rfl (mv rfl) <| R rfl (mv rfl) <| Ef rfl (lit (R := i64R) ([s19.2.2.2] : List Int) 60 (pP rfl rfl <| pN) rfl Tryz.underlying78 ti3 rfl rfl) fun v47 => lBind fun x48 h49 => Ef rfl (apn 55 rfl rfl rfl (.own 60 rfl) h49 Tryz.underlying78 ti3 rfl rfl rfl) fun v50 => R rfl (asg rfl) <| gNil <| eBlk <| eThen <| gReg <| R rfl (I.add rfl rfl) <| R rfl (mv rfl) <| gNil <| eNext (fun aa ww h => ⟨nvlF [v50] (fun j => n41 (j + 0)), h.subF (by repeat (first | refine HasFam.cons rfl ?_ | exact HasFam.tail)) [1, 44, 45, 55] (sS rfl <| sS rfl <| sS rfl <| sS rfl <| sS rfl <| sS rfl <| sS rfl <| sN) (rR rfl rfl <| rR rfl rfl <| rR rfl rfl <| rR rfl rfl <| rN) rfl⟩)
     ·
      refine gSkip <| eBlk <| eThen <| gReg <| R rfl (I.add rfl rfl) <| R rfl (mv rfl) <| gNil <| eNext (fun aa ww h => ⟨nvlF [(n20 0)] (fun j => n41 (j + 0)), h.subF (by repeat (first | refine HasFam.cons rfl ?_ | exact HasFam.tail)) [1, 44, 45, 55] (sS rfl <| sS rfl <| sS rfl <| sS rfl <| sS rfl <| sS rfl <| sS rfl <| sN) (rR rfl rfl <| rR rfl rfl <| rR rfl rfl <| rR rfl rfl <| rN) rfl⟩)
   ·
    refine gExit <| eTexit <| eLeave <| eMidR (fun aa ww h => ⟨nvlF [(n20 0)] (fun j => n20 (j + 1)), h.subF (by repeat (first | refine HasFam.cons rfl ?_ | exact HasFam.tail)) [1, 44, 45, 55] (sS rfl <| sS rfl <| sS rfl <| sS rfl <| sN) (rR rfl rfl <| rR rfl rfl <| rR rfl rfl <| rR rfl rfl <| rN) rfl⟩)
  ·
   refine gEx fun n51 => gSR <| R rfl (asg rfl) <| gNil <| eThen <| gMid (fun (s52 : Int) aa ww => Sta (ctx 133 H [] w) [(1, .val (ptrTo v1 0)), (13, .rd i64R s52)] [(1, some (v1, .box 25 [.rd R_api_Graph a0]))] aa ww) ?_ (fun s52 => ?_)
   ·
    refine gFrzF (base := 100000) (T := 3) (lits := [(1, some (v1, .box 25 [.rd R_api_Graph a0])), (44, some (v14, .list i64R 3 s18.1)), (50, some ((n51 0), .list i64R 3 s18.2.2))]) (by repeat (first | refine HasFam.cons rfl ?_ | exact HasFam.tail)) 45 rfl [1, 44, 50] (rR rfl rfl <| rR rfl rfl <| rR rfl rfl <| rN) rfl rfl <| gLoop (fun (s53 : (List Int) × (List Int) × Int) aa ww => ∃ nv : Nat → Value, Sta (ctx 133 H [] w) [(1, .val (ptrTo v1 0)), (4, .val v14), (5, .val v17), (6, .val (nv 0)), (13, .rd i64R s53.2.2)] [(1, some (v1, .box 25 [.rd R_api_Graph a0])), (44, some (v14, .list i64R 3 s53.1)), (45, some (v17, .list (sliceR i64R) 78 s18.2.1)), (50, some ((nv 0), .list i64R 3 s53.2.1))] aa ww) (fun aa ww h => ⟨nvl [(n51 0)], h.sub [1, 44, 45, 50] (sS rfl <| sS rfl <| sS rfl <| sS rfl <| sS rfl <| sN) (rR rfl rfl <| rR rfl rfl <| rR rfl rfl <| rR rfl rfl <| rN)⟩) (fun s53 => ?_)
    refine gEx fun n54 => gSeq <| gSR <| R rfl (mv rfl) <| R rfl (mv rfl) <| R rfl (len' rfl (.own 50 rfl) rfl Tryz.underlying78) <| R rfl (I.lss rfl rfl) <| gNil <| eThen <| gIf rfl rfl (fun h55 => ?_) (fun h55 => ?_)
    ·
     refine gSkip <| eThen <| gMid (fun (s56 : (List Int) × (List Int)) aa ww => ∃ nv : Nat → Value, Sta (ctx 133 H [] w) [(1, .val (ptrTo v1 0)), (4, .val v14), (5, .val v17), (6, .val (nv 0)), (13, .rd i64R s53.2.2)] [(1, some (v1, .box 25 [.rd R_api_Graph a0])), (44, some (v14, .list i64R 3 s56.1)), (45, some (v17, .list (sliceR i64R) 78 s18.2.1)), (50, some ((nv 0), .list i64R 3 s56.2))] aa ww) ?_ (fun s56 => ?_)
     ·
      refine gBlk <| gSR <| R rfl (mv rfl) <| R rfl (mv rfl) <| R rfl (mv rfl) <| lBind fun x57 h58 => R rfl (ixO 50 rfl rfl rfl h58 Tryz.underlying78 ti3) <| R rfl (ld 50 rfl rfl (Foc.el h58) ty3 rfl) <| lBind fun x59 h60 => R rfl (ixO 45 rfl rfl rfl h60 Tryz.underlying109 ti78) <| R rfl (ld 45 rfl rfl (Foc.el h60) ty78 rfl) <| R rfl (len' rfl .rd rfl Tryz.underlying78) <| R rfl (mv rfl) <| gNil <| eThen <| gLoop (fun (s61 : (List Int) × (List Int) × Int) aa ww => ∃ nv : Nat → Value, Sta (ctx 133 H [] w) [(1, .val (ptrTo v1 0)), (4, .val v14), (5, .val v17), (6, .val (nv 0)), (13, .rd i64R s53.2.2), (106, .rd (sliceR i64R) x59), (107, .rd i64R (x59.length : Int)), (108, .rd i64R s61.2.2)] [(1, some (v1, .box 25 [.rd R_api_Graph a0])), (44, some (v14, .list i64R 3 s61.1)), (45, some (v17, .list (sliceR i64R) 78 s18.2.1)), (50, some ((nv 0), .list i64R 3 s61.2.1))] aa ww) (fun aa ww h => ⟨nvl [(n54 0)], h.sub [1, 44, 45, 50] (sS rfl <| sS rfl <| sS rfl <| sS rfl <| sS rfl <| sS rfl <| sS rfl <| sS rfl <| sN) (rR rfl rfl <| rR rfl rfl <| rR rfl rfl <| rR rfl rfl <| rN)⟩) (fun s61 => ?_)
      refine gEx fun n62 => gSR <| R rfl (I.lss rfl rfl) <| gNil <| eThen <| gSeq <| gIf rfl rfl (fun h63 => ?_) (fun h63 => ?_)
      ·
       refine gSkip <| eThen <| gSeq <| gBlk <| gSR <| lBind fun x64 h65 => R rfl (ixR rfl rfl h65 Tryz.underlying78 ti3 rfl) <| R rfl (ldR rfl ty3) <| R rfl (asg rfl) <| gNil <| eThen <| gSR <| R rfl (mv rfl) <| R rfl (mv rfl) <| lBind fun x66 h67 => R rfl (ixO 44 rfl rfl rfl h67 Tryz.underlying78 ti3) <| R rfl (ld 44 rfl rfl (Foc.el h67) ty3 rfl) <| R rfl (I.sub rfl rfl) <| lBind fun x68 h69 => R rfl (ixO 44 rfl rfl rfl h69 Tryz.underlying78 ti3) <| Es (sto 44 rfl rfl (Foc.el h69) rfl ti3) <| gNil <| eThen <| gSR <| R rfl (mv rfl) <| R rfl (mv rfl) <| lBind fun x70 h71 => R rfl (ixO 44 rfl rfl rfl h71 Tryz.underlying78 ti3) <| R rfl (ld 44 rfl rfl (Foc.el h71) ty3 rfl) <| R rfl (I.eql rfl rfl) <| gNil <| eThen <| gIf rfl rfl (fun h72 => ?_) (fun h72 => ?_)
       ·
        refine gReg <| R rfl (mv rfl) <| R rfl (mv rfl) <| Ef rfl (lit (R := i64R) ([x64] : List Int) 61 (pP rfl rfl <| pN) rfl Tryz.underlying78 ti3 rfl rfl) fun v73 => lBind fun x74 h75 => Ef rfl (apn 50 rfl rfl rfl (.own 61 rfl) h75 Tryz.underlying78 ti3 rfl rfl rfl) fun v76 => R rfl (asg rfl) <| gNil <| eBlk <| eThen <| gReg <| R rfl (I.add rfl rfl) <| R rfl (mv rfl) <| gNil <| eNext (fun aa ww h => ⟨nvl [v76], h.sub [1, 44, 45, 50] (sS rfl <| sS rfl <| sS rfl <| sS rfl <| sS rfl <| sS rfl <| sS rfl <| sS rfl <| sN) (rR rfl rfl <| rR rfl rfl <| rR rfl rfl <| rR rfl rfl <| rN)⟩)
       ·
        refine gSkip <| eBlk <| eThen <| gReg <| R rfl (I.add rfl rfl) <| R rfl (mv rfl) <| gNil <| eNext (fun aa ww h => ⟨nvl [(n62 0)], h.sub [1, 44, 45, 50] (sS rfl <| sS rfl <| sS rfl <| sS rfl <| sS rfl <| sS rfl <| sS rfl <| sS rfl <| sN) (rR rfl rfl <| rR rfl rfl <| rR rfl rfl <| rR rfl rfl <| rN)⟩)
      ·
       refine gExit <| eTexit <| eLeave <| eBlk <| eMid (fun aa ww h => ⟨nvl [(n62 0)], h.sub [1, 44, 45, 50] (sS rfl <| sS rfl <| sS rfl <| sS rfl <| sS rfl <| sN) (rR rfl rfl <| rR rfl rfl <| rR rfl rfl <| rR rfl rfl <| rN)⟩)
     ·
      refine gEx fun n77 => gReg <| R rfl (mv rfl) <| R rfl (I.add rfl rfl) <| R rfl (asg rfl) <| lName 13 rfl fun y78 => gNil <| eNext (fun aa ww h => ⟨nvl [(n77 0)], h.sub [1, 44, 45, 50] (sS rfl <| sS rfl <| sS rfl <| sS rfl <| sS rfl <| sN) (rR rfl rfl <| rR rfl rfl <| rR rfl rfl <| rR rfl rfl <| rN)⟩)
    ·
     refine gExit <| eTexit <| eLeave <| eMid (fun aa ww h => h.sub [1] (sS rfl <| sS rfl <| sN) (rR rfl rfl <| rN))
   ·
    refine gSeq <| gSR <| R rfl (mv rfl) <| R rfl (faB 1 rfl rfl Tryz.underlying25 rfl (by exact ti23)) <| R rfl (ld 1 rfl rfl ((Foc.here).part (pt_api_Graph_Ops _)) ty23 rfl) <| R rfl (len' rfl .rd rfl Tryz.underlying23) <| R rfl (I.lss rfl rfl) <| gNil <| eThen <| gIf rfl rfl (fun h79 => ?_) (fun h79 => ?_)
    ·
     refine gSR <| R rfl (asg rfl) <| gNil <| eThen <| gRet <| eTret <| eRet [] [] rfl (eE rfl <| eN) (rN)
    ·
     refine gSkip <| eThen <| gSR <| R rfl (asg rfl) <| gNil <| eThen <| gRet <| eRet [] [] rfl (eE rfl <| eN) (rN)
def dag_Check_L0 (a0 : api_Graph) (s5 : Int) : Option (Sum (Sum Int Unit) Int) :=
 if decide (s5 < (a0.Ops.length : Int)) then
  idx a0.Ops s5 >>= fun x7 =>
  op_ID x7 >>= fun r10 =>
  (if r10.2 != 0 then
   some true
  else
   idx a0.IDs s5 >>= fun x15 =>
   if !decide (r10.1 = x15) then
    some true
   else
    op_Verify x7 >>= fun r18 =>
    some (r18 != 0)) >>= fun s13 =>
  if s13 then
   some (.inl (.inl 8))
  else
   some (.inr (w64 (s5 + 1)))
 else
  some (.inl (.inr ()))
def dag_Check (a0 : api_Graph) : Option (Int) :=
 if decide (60 < (a0.Ops.length : Int)) then
  some 4
 else
  if (a0.IDs.length : Int) != (a0.Ops.length : Int) then
   some 8
  else
   orRet (iter (dag_Check_L0 a0) 0) fun s4 =>
   dag_shape a0 >>= fun r21 =>
   some r21
theorem dag_Check_ok (a0 : api_Graph) : Spec Tryz.prog 31 [.rd R_api_Graph a0] [(1001, some ((.bool true), .glob 1 (arrR 64 u32R) gtab1))] (dag_Check a0) (fun r nv => ⟨[.rd i64R r], [(1001, some (.bool true, .glob 1 (arrR 64 u32R) gtab1))]⟩) := by
 refine spec 50 Tryz.func31 rfl rfl rfl fun H w => ?_
 refine gSR <| Eb rfl (bx 1 rfl) fun v1 => R rfl (asg rfl) <| gNil <| eThen <| gSeq <| gSR <| R rfl (faB 1 rfl rfl Tryz.underlying25 rfl (by exact ti23)) <| R rfl (ld 1 rfl rfl ((Foc.here).part (pt_api_Graph_Ops _)) ty23 rfl) <| R rfl (len' rfl .rd rfl Tryz.underlying23) <| R rfl (I.gtr rfl rfl) <| gNil <| eThen <| gIf rfl rfl (fun h2 => ?_) (fun h2 => ?_)
 ·
  refine gSR <| R rfl (asg rfl) <| gNil <| eThen <| gRet <| eTret <| eRet [] [1001] rfl (eE rfl <| eN) (rR rfl rfl <| rN)
 ·
  refine gSkip <| eThen <| gSeq <| gSR <| R rfl (faB 1 rfl rfl Tryz.underlying25 rfl (by exact ti22)) <| R rfl (ld 1 rfl rfl ((Foc.here).part (pt_api_Graph_IDs _)) ty22 rfl) <| R rfl (len' rfl .rd rfl Tryz.underlying22) <| R rfl (faB 1 rfl rfl Tryz.underlying25 rfl (by exact ti23)) <| R rfl (ld 1 rfl rfl ((Foc.here).part (pt_api_Graph_Ops _)) ty23 rfl) <| R rfl (len' rfl .rd rfl Tryz.underlying23) <| R rfl (I.neq rfl rfl) <| gNil <| eThen <| gIf rfl rfl (fun h3 => ?_) (fun h3 => ?_)
  ·
   refine gSR <| R rfl (asg rfl) <| gNil <| eThen <| gRet <| eTret <| eRet [] [1001] rfl (eE rfl <| eN) (rR rfl rfl <| rN)
  ·
   refine gSkip <| eThen <| gMidR (fun (s4 : Unit) aa ww => Sta (ctx 50 H [(1001, some ((.bool true), .glob 1 (arrR 64 u32R) gtab1))] w) [(1, .val (ptrTo v1 0))] [(1, some (v1, .box 25 [.rd R_api_Graph a0])), (1001, some ((.bool true), .glob 1 (arrR 64 u32R) gtab1))] aa ww) ?_ (fun s4 => ?_)
   ·
    refine gSR <| R rfl (faB 1 rfl rfl Tryz.underlying25 rfl (by exact ti23)) <| R rfl (ld 1 rfl rfl ((Foc.here).part (pt_api_Graph_Ops _)) ty23 rfl) <| R rfl (len' rfl .rd rfl Tryz.underlying23) <| R rfl (mv rfl) <| gNil <| eThen <| gLoop (fun (s5 : Int) aa ww => Sta (ctx 50 H [(1001, some ((.bool true), .glob 1 (arrR 64 u32R) gtab1))] w) [(1, .val (ptrTo v1 0)), (19, .rd (sliceR R_api_Op) a0.Ops), (20, .rd i64R (a0.Ops.length : Int)), (21, .rd i64R s5)] [(1, some (v1, .box 25 [.rd R_api_Graph a0])), (1001, some ((.bool true), .glob 1 (arrR 64 u32R) gtab1))] aa ww) (fun aa ww h => h.sub [1, 1001] (sS rfl <| sS rfl <| sS rfl <| sS rfl <| sN) (rR rfl rfl <| rR rfl rfl <| rN)) (fun s5 => ?_)
    refine gSR <| R rfl (I.lss rfl rfl) <| gNil <| eThen <| gSeq <| gIf rfl rfl (fun h6 => ?_) (fun h6 => ?_)
    ·
     refine gSkip <| eThen <| gSeq <| gBlk <| gSR <| R rfl (mv rfl) <| lBind fun x7 h8 => R rfl (ixR rfl rfl h8 Tryz.underlying23 ti65 rfl) <| R rfl (ldR rfl ty65) <| Eb rfl (allc 1002 ti65 (ZrE.rd (R := u32R) (x := 0) (Zr.num rfl) (ZrE.nilS (ZrE.rd (R := u64R) (x := 0) (Zr.num rfl) (ZrE.rd (R := R_api_Act) (x := (⟨0, [], (⟨0, 0, 0, []⟩ : api_Value)⟩ : api_Act)) zr61 (ZrE.rd (R := R_api_Sig) (x := (⟨0, 0⟩ : api_Sig)) zr63 ZrE.nil rfl) rfl) rfl)) rfl)) fun v9 => R rfl (asg rfl) <| lPnl (arrR 32 u8R) [.rd u32R 0, .rd (sliceR (arrR 32 u8R)) [], .rd u64R 0, .rd R_api_Act (⟨0, [], (⟨0, 0, 0, []⟩ : api_Value)⟩ : api_Act), .rd R_api_Sig (⟨0, 0⟩ : api_Sig)] 1002 [.rd u32R 0] [.rd u64R 0, .rd R_api_Act (⟨0, [], (⟨0, 0, 0, []⟩ : api_Value)⟩ : api_Act), .rd R_api_Sig (⟨0, 0⟩ : api_Sig)] rfl rfl rfl <| lJoi (R := R_api_Op) (⟨0, [], 0, (⟨0, [], (⟨0, 0, 0, []⟩ : api_Value)⟩ : api_Act), (⟨0, 0⟩ : api_Sig)⟩ : api_Op) 1002 rfl (Sp.via (Sp.prod (Sp.prod (Sp.prod (Sp.prod (Sp.prod Sp.unit)))))) <| Es (sto 1002 rfl rfl Foc.here rfl ti65) <| gNil <| eThen <| gSR <| R rfl (ld 1002 rfl rfl Foc.here ty65 rfl) <| call [1001] [] rfl Tryz.func54 rfl rfl (op_ID_ok _) (aQ rfl <| aN) (rR rfl rfl <| rN) fun r10 n11 => R rfl (mv rfl) <| R rfl (ext rfl rfl) <| R rfl (ext rfl rfl) <| Eb rfl (allc 1003 ti27 (.zr (R := (arrR 32 u8R)) (x := (Vector.replicate 32 0)) zr26)) fun v12 => Es (sto 1003 rfl rfl Foc.here rfl ti27) <| R rfl (asg rfl) <| gNil <| eThen <| gMid (fun (s13 : Bool) aa ww => Sta (ctx 50 H [(1001, some ((.bool true), .glob 1 (arrR 64 u32R) gtab1))] w) [(1, .val (ptrTo v1 0)), (19, .rd (sliceR R_api_Op) a0.Ops), (20, .rd i64R (a0.Ops.length : Int)), (21, .rd i64R s5), (46, .rd boolR s13)] [(1, some (v1, .box 25 [.rd R_api_Graph a0])), (1001, some ((.bool true), .glob 1 (arrR 64 u32R) gtab1))] aa ww) ?_ (fun s13 => ?_)
     ·
      refine gRegH [1001] mixed rfl rfl <| hTk 0 rfl rfl (mv rfl) <| hTk 1 rfl rfl (I.neq rfl rfl) <| hTk 2 rfl rfl (mv rfl) <| hIf 33 rfl rfl (fun h14 => ?_) (fun h14 => ?_)
      ·
       refine hKn 32 rfl rfl h14 <| hSkip 3 rfl (by kernel_rfl) (by kernel_rfl) (by kernel_rfl) (gd rfl rfl rfl rfl) rfl rfl <| hSkip 4 rfl (by kernel_rfl) (by kernel_rfl) (by kernel_rfl) (gd rfl rfl rfl rfl) rfl rfl <| hSkip 5 rfl (by kernel_rfl) (by kernel_rfl) (by kernel_rfl) (gd rfl rfl rfl rfl) rfl rfl <| hSkip 6 rfl (by kernel_rfl) (by kernel_rfl) (by kernel_rfl) (gd rfl rfl rfl rfl) rfl rfl <| hSkip 7 rfl (by kernel_rfl) (by kernel_rfl) (by kernel_rfl) (gd rfl rfl rfl rfl) rfl rfl <| hSkip 8 rfl (by kernel_rfl) (by kernel_rfl) (by kernel_rfl) (gd rfl rfl rfl rfl) rfl rfl <| hSkip 9 rfl (by kernel_rfl) (by kernel_rfl) (by kernel_rfl) (gd rfl rfl rfl rfl) rfl rfl <| hTk 10 rfl rfl (pkT rfl rfl) <| hTk 11 rfl rfl (mv rfl) <| hSkip 12 rfl (by kernel_rfl) (by kernel_rfl) (by kernel_rfl) (gd rfl rfl rfl rfl) rfl rfl <| hSkip 13 rfl (by kernel_rfl) (by kernel_rfl) (by kernel_rfl) (gd rfl rfl rfl rfl) rfl rfl <| hSkip 14 rfl (by kernel_rfl) (by kernel_rfl) (by kernel_rfl) (gd rfl rfl rfl rfl) rfl rfl <| hTk 15 rfl rfl (pkT rfl rfl) <| hDone (by kernel_rfl) <| eMid (fun aa ww h => h.sub [1, 1001] (sS rfl <| sS rfl <| sS rfl <| sS rfl <| sS rfl <| sN) (rR rfl rfl <| rR rfl rfl <| rN))
      ·
       refine hKn 32 rfl rfl h14 <| hTake 3 rfl (by kernel_rfl) (by kernel_rfl) (by kernel_rfl) (gd rfl rfl rfl rfl) rfl rfl (ld 1003 rfl rfl Foc.here ty27 rfl) <| hTake 4 rfl (by kernel_rfl) (by kernel_rfl) (by kernel_rfl) (gd rfl rfl rfl rfl) rfl rfl (faB 1 rfl rfl Tryz.underlying25 rfl (by exact ti22)) <| hTake 5 rfl (by kernel_rfl) (by kernel_rfl) (by kernel_rfl) (gd rfl rfl rfl rfl) rfl rfl (ld 1 rfl rfl ((Foc.here).part (pt_api_Graph_IDs _)) ty22 rfl) <| hTake 6 rfl (by kernel_rfl) (by kernel_rfl) (by kernel_rfl) (gd rfl rfl rfl rfl) rfl rfl (mv rfl) <| hBind fun x15 h16 => hTake 7 rfl (by kernel_rfl) (by kernel_rfl) (by kernel_rfl) (gd rfl rfl rfl rfl) rfl rfl (ixR rfl rfl h16 Tryz.underlying22 ti27 rfl) <| hTake 8 rfl (by kernel_rfl) (by kernel_rfl) (by kernel_rfl) (gd rfl rfl rfl rfl) rfl rfl (ldR rfl ty27) <| hTake 9 rfl (by kernel_rfl) (by kernel_rfl) (by kernel_rfl) (gd rfl rfl rfl rfl) rfl rfl (neA rfl rfl eq27 rfl rfl gq27) <| hTk 10 rfl rfl (pkF rfl rfl) <| hTk 11 rfl rfl (mv rfl) <| hIf 42 rfl rfl (fun h17 => ?_) (fun h17 => ?_)
       ·
        refine hKn 40 rfl rfl h17 <| hKn 41 rfl rfl h17 <| hSkip 12 rfl (by kernel_rfl) (by kernel_rfl) (by kernel_rfl) (gd rfl rfl rfl rfl) rfl rfl <| hSkip 13 rfl (by kernel_rfl) (by kernel_rfl) (by kernel_rfl) (gd rfl rfl rfl rfl) rfl rfl <| hSkip 14 rfl (by kernel_rfl) (by kernel_rfl) (by kernel_rfl) (gd rfl rfl rfl rfl) rfl rfl <| hTk 15 rfl rfl (pkT rfl rfl) <| hDone (by kernel_rfl) <| eMid (fun aa ww h => h.sub [1, 1001] (sS rfl <| sS rfl <| sS rfl <| sS rfl <| sS rfl <| sN) (rR rfl rfl <| rR rfl rfl <| rN))
       ·
        refine hKn 40 rfl rfl h17 <| hKn 41 rfl rfl h17 <| hTake 12 rfl (by kernel_rfl) (by kernel_rfl) (by kernel_rfl) (gd rfl rfl rfl rfl) rfl rfl (ld 1002 rfl rfl Foc.here ty65 rfl) <| hCallF 13 [1001] [] rfl (by kernel_rfl) rfl (gd rfl rfl rfl rfl) rfl Tryz.func55 rfl rfl (op_Verify_ok _) (aQ rfl <| aN) (rR rfl rfl <| rN) rfl (fun _ _ => flat_num) fun r18 n19 => hTake 14 rfl (by kernel_rfl) (by kernel_rfl) (by kernel_rfl) (gd rfl rfl rfl rfl) rfl rfl (I.neq rfl rfl) <| hTk 15 rfl rfl (pkF rfl rfl) <| hDone (by kernel_rfl) <| eMid (fun aa ww h => h.sub [1, 1001] (sS rfl <| sS rfl <| sS rfl <| sS rfl <| sS rfl <| sN) (rR rfl rfl <| rR rfl rfl <| rN))
     ·
      refine gIf rfl rfl (fun h20 => ?_) (fun h20 => ?_)
      ·
       refine gSR <| R rfl (asg rfl) <| gNil <| eThen <| gRet <| eBret <| eTret <| eLret <| eMret <| eRet [] [1001] rfl (eE rfl <| eN) (rR rfl rfl <| rN)
      ·
       refine gSkip <| eBlk <| eThen <| gReg <| R rfl (I.add rfl rfl) <| R rfl (mv rfl) <| gNil <| eNext (fun aa ww h => h.sub [1, 1001] (sS rfl <| sS rfl <| sS rfl <| sS rfl <| sN) (rR rfl rfl <| rR rfl rfl <| rN))
    ·
     refine gExit <| eTexit <| eLeave <| eMidR (fun aa ww h => h.sub [1, 1001] (sS rfl <| sN) (rR rfl rfl <| rR rfl rfl <| rN))
   ·
    refine gSR <| R rfl (ld 1 rfl rfl Foc.here ty25 rfl) <| call [] [] rfl Tryz.func56 rfl rfl (dag_shape_ok _) (aQ rfl <| aN) rN fun r21 n22 => R rfl (asg rfl) <| gNil <| eThen <| gRet <| eRet [] [1001] rfl (eE rfl <| eN) (rR rfl rfl <| rN)
def braidref09_At_L0 (a0 : List (Vector UInt8 32)) (a1 : Vector UInt8 32) (s3 : Int) : Option (Sum (Sum Int Unit) Int) :=
 if decide (s3 < (a0.length : Int)) then
  idx a0 s3 >>= fun x5 =>
  if decide (x5 = a1) then
   some (.inl (.inl s3))
  else
   some (.inr (w64 (s3 + 1)))
 else
  some (.inl (.inr ()))
def braidref09_At (a0 : List (Vector UInt8 32)) (a1 : Vector UInt8 32) : Option (Int) :=
 orRet (iter (braidref09_At_L0 a0 a1) 0) fun s2 =>
 some (-1)
theorem braidref09_At_ok (a0 : List (Vector UInt8 32)) (a1 : Vector UInt8 32) : Spec Tryz.prog 30 [.rd (sliceR (arrR 32 u8R)) a0, .rd (arrR 32 u8R) a1] [] (braidref09_At a0 a1) (fun r nv => ⟨[.rd i64R r], []⟩) := by
 refine spec 19 Tryz.func30 rfl rfl rfl fun H w => ?_
 refine gSR <| Eb rfl (bx 1 rfl) fun v1 => R rfl (asg rfl) <| gNil <| eThen <| gMidR (fun (s2 : Unit) aa ww => Sta (ctx 19 H [] w) [] [] aa ww) ?_ (fun s2 => ?_)
 ·
  refine gSR <| R rfl (asg rfl) <| gNil <| eThen <| gLoop (fun (s3 : Int) aa ww => Sta (ctx 19 H [] w) [(0, .rd (sliceR (arrR 32 u8R)) a0), (3, .val (ptrTo v1 0)), (5, .rd i64R s3)] [(1, some (v1, .box 27 [.rd (arrR 32 u8R) a1]))] aa ww) (fun aa ww h => h.sub [1] (sS rfl <| sS rfl <| sS rfl <| sN) (rR rfl rfl <| rN)) (fun s3 => ?_)
  refine gSeq <| gSR <| R rfl (mv rfl) <| R rfl (mv rfl) <| R rfl (len' rfl .rd rfl Tryz.underlying22) <| R rfl (I.lss rfl rfl) <| gNil <| eThen <| gIf rfl rfl (fun h4 => ?_) (fun h4 => ?_)
  ·
   refine gSkip <| eThen <| gSeq <| gBlk <| gSeq <| gRegQ mixed (by kernel_rfl) <| Rq rfl (mv rfl) <| Rq rfl (mv rfl) <| qBind fun x5 h6 => Rq rfl (ixR rfl rfl h6 Tryz.underlying22 ti27 rfl) <| Rq rfl (ldR rfl ty27) <| Rq rfl (ld 1 rfl rfl Foc.here ty27 rfl) <| Rq rfl (eqA rfl rfl eq27 rfl rfl gq27) <| qNil <| eThen <| gIf rfl rfl (fun h7 => ?_) (fun h7 => ?_)
   ·
    refine gSR <| R rfl (mv rfl) <| R rfl (asg rfl) <| gNil <| eThen <| gRet <| eBret <| eTret <| eLret <| eMret <| eRet [] [] rfl (eE rfl <| eN) (rN)
   ·
    refine gSkip <| eBlk <| eThen <| gReg <| R rfl (mv rfl) <| R rfl (I.add rfl rfl) <| R rfl (asg rfl) <| gNil <| eNext (fun aa ww h => h.sub [1] (sS rfl <| sS rfl <| sS rfl <| sN) (rR rfl rfl <| rN))
  ·
   refine gExit <| eTexit <| eLeave <| eMidR (fun aa ww h => h.sub [] (sN) (rN))
 ·
  refine gSR <| R rfl (asg rfl) <| gNil <| eThen <| gRet <| eRet [] [] rfl (eE rfl <| eN) (rN)
def braidref09_All_L0 (a0 : List (Vector UInt8 32)) (a1 : List (Vector UInt8 32)) (s2 : Int) : Option (Sum (Sum Bool Unit) Int) :=
 if decide (s2 < (a1.length : Int)) then
  idx a1 s2 >>= fun x4 =>
  braidref09_At a0 x4 >>= fun r6 =>
  if decide (r6 < 0) then
   some (.inl (.inl false))
  else
   some (.inr (w64 (s2 + 1)))
 else
  some (.inl (.inr ()))
def braidref09_All (a0 : List (Vector UInt8 32)) (a1 : List (Vector UInt8 32)) : Option (Bool) :=
 orRet (iter (braidref09_All_L0 a0 a1) 0) fun s1 =>
 some true
theorem braidref09_All_ok (a0 : List (Vector UInt8 32)) (a1 : List (Vector UInt8 32)) : Spec Tryz.prog 48 [.rd (sliceR (arrR 32 u8R)) a0, .rd (sliceR (arrR 32 u8R)) a1] [] (braidref09_All a0 a1) (fun r nv => ⟨[.rd boolR r], []⟩) := by
 refine spec 19 Tryz.func48 rfl rfl rfl fun H w => ?_
 refine gSR <| R rfl (asg rfl) <| gNil <| eThen <| gMidR (fun (s1 : Unit) aa ww => Sta (ctx 19 H [] w) [] [] aa ww) ?_ (fun s1 => ?_)
 ·
  refine gSR <| R rfl (asg rfl) <| gNil <| eThen <| gLoop (fun (s2 : Int) aa ww => Sta (ctx 19 H [] w) [(0, .rd (sliceR (arrR 32 u8R)) a0), (1, .rd (sliceR (arrR 32 u8R)) a1), (5, .rd i64R s2)] [] aa ww) (fun aa ww h => h.sub [] (sS rfl <| sS rfl <| sS rfl <| sN) (rN)) (fun s2 => ?_)
  refine gSeq <| gSR <| R rfl (mv rfl) <| R rfl (mv rfl) <| R rfl (len' rfl .rd rfl Tryz.underlying22) <| R rfl (I.lss rfl rfl) <| gNil <| eThen <| gIf rfl rfl (fun h3 => ?_) (fun h3 => ?_)
  ·
   refine gSkip <| eThen <| gSeq <| gBlk <| gSR <| R rfl (mv rfl) <| R rfl (mv rfl) <| R rfl (mv rfl) <| lBind fun x4 h5 => R rfl (ixR rfl rfl h5 Tryz.underlying22 ti27 rfl) <| R rfl (ldR rfl ty27) <| call [] [] rfl Tryz.func30 rfl rfl (braidref09_At_ok _ _) (aQ rfl <| aQ rfl <| aN) rN fun r6 n7 => R rfl (I.lss rfl rfl) <| gNil <| eThen <| gIf rfl rfl (fun h8 => ?_) (fun h8 => ?_)
   ·
    refine gSR <| R rfl (asg rfl) <| gNil <| eThen <| gRet <| eBret <| eTret <| eLret <| eMret <| eRet [] [] rfl (eE rfl <| eN) (rN)
   ·
    refine gSkip <| eBlk <| eThen <| gReg <| R rfl (mv rfl) <| R rfl (I.add rfl rfl) <| R rfl (asg rfl) <| gNil <| eNext (fun aa ww h => h.sub [] (sS rfl <| sS rfl <| sS rfl <| sN) (rN))
  ·
   refine gExit <| eTexit <| eLeave <| eMidR (fun aa ww h => h.sub [] (sN) (rN))
 ·
  refine gSR <| R rfl (asg rfl) <| gNil <| eThen <| gRet <| eRet [] [] rfl (eE rfl <| eN) (rN)
theorem braidref09_At_q0_ok (a0 : List (Vector UInt8 32)) (q0 : Value) (l0 : List (Vector UInt8 32)) (a1 : Vector UInt8 32) : Spec Tryz.prog 30 [.vw (arrR 32 u8R) q0 l0 a0, .rd (arrR 32 u8R) a1] [(1, some (q0, .list (arrR 32 u8R) 27 l0))] (braidref09_At a0 a1) (fun r nv => ⟨[.rd i64R r], [(1, some (q0, .list (arrR 32 u8R) 27 l0))]⟩) := by
 refine spec 19 Tryz.func30 rfl rfl rfl fun H w => ?_
 refine gSR <| Eb rfl (bx 2 rfl) fun v1 => R rfl (asg rfl) <| gNil <| eThen <| gMidR (fun (s2 : Unit) aa ww => Sta (ctx 19 H [(1, some (q0, .list (arrR 32 u8R) 27 l0))] w) [] [(1, some (q0, .list (arrR 32 u8R) 27 l0))] aa ww) ?_ (fun s2 => ?_)
 ·
  refine gSR <| R rfl (asg rfl) <| gNil <| eThen <| gLoop (fun (s3 : Int) aa ww => Sta (ctx 19 H [(1, some (q0, .list (arrR 32 u8R) 27 l0))] w) [(0, .vw (arrR 32 u8R) q0 l0 a0), (3, .val (ptrTo v1 0)), (5, .rd i64R s3)] [(1, some (q0, .list (arrR 32 u8R) 27 l0)), (2, some (v1, .box 27 [.rd (arrR 32 u8R) a1]))] aa ww) (fun aa ww h => h.sub [1, 2] (sS rfl <| sS rfl <| sS rfl <| sN) (rR rfl rfl <| rR rfl rfl <| rN)) (fun s3 => ?_)
  refine gSeq <| gSR <| R rfl (mv rfl) <| R rfl (mv rfl) <| R rfl (len' rfl (.vw 1 rfl) rfl Tryz.underlying22) <| R rfl (I.lss rfl rfl) <| gNil <| eThen <| gIf rfl rfl (fun h4 => ?_) (fun h4 => ?_)
  ·
   refine gSkip <| eThen <| gSeq <| gBlk <| gSeq <| gRegQ mixed (by kernel_rfl) <| Rq rfl (mv rfl) <| Rq rfl (mv rfl) <| qBind fun x5 h6 => Rq rfl (ixQ 1 rfl rfl rfl h6 Tryz.underlying22 ti27) <| Rq rfl (ldQ 1 rfl rfl ty27 rfl) <| Rq rfl (ld 2 rfl rfl Foc.here ty27 rfl) <| Rq rfl (eqA rfl rfl eq27 rfl rfl gq27) <| qNil <| eThen <| gIf rfl rfl (fun h7 => ?_) (fun h7 => ?_)
   ·
    refine gSR <| R rfl (mv rfl) <| R rfl (asg rfl) <| gNil <| eThen <| gRet <| eBret <| eTret <| eLret <| eMret <| eRet [] [1] rfl (eE rfl <| eN) (rR rfl rfl <| rN)
   ·
    refine gSkip <| eBlk <| eThen <| gReg <| R rfl (mv rfl) <| R rfl (I.add rfl rfl) <| R rfl (asg rfl) <| gNil <| eNext (fun aa ww h => h.sub [1, 2] (sS rfl <| sS rfl <| sS rfl <| sN) (rR rfl rfl <| rR rfl rfl <| rN))
  ·
   refine gExit <| eTexit <| eLeave <| eMidR (fun aa ww h => h.sub [1] (sN) (rR rfl rfl <| rN))
 ·
  refine gSR <| R rfl (asg rfl) <| gNil <| eThen <| gRet <| eRet [] [1] rfl (eE rfl <| eN) (rR rfl rfl <| rN)
theorem braidref09_All_q0_ok (a0 : List (Vector UInt8 32)) (q0 : Value) (l0 : List (Vector UInt8 32)) (a1 : List (Vector UInt8 32)) : Spec Tryz.prog 48 [.vw (arrR 32 u8R) q0 l0 a0, .rd (sliceR (arrR 32 u8R)) a1] [(1, some (q0, .list (arrR 32 u8R) 27 l0))] (braidref09_All a0 a1) (fun r nv => ⟨[.rd boolR r], [(1, some (q0, .list (arrR 32 u8R) 27 l0))]⟩) := by
 refine spec 19 Tryz.func48 rfl rfl rfl fun H w => ?_
 refine gSR <| R rfl (asg rfl) <| gNil <| eThen <| gMidR (fun (s1 : Unit) aa ww => Sta (ctx 19 H [(1, some (q0, .list (arrR 32 u8R) 27 l0))] w) [] [(1, some (q0, .list (arrR 32 u8R) 27 l0))] aa ww) ?_ (fun s1 => ?_)
 ·
  refine gSR <| R rfl (asg rfl) <| gNil <| eThen <| gLoop (fun (s2 : Int) aa ww => Sta (ctx 19 H [(1, some (q0, .list (arrR 32 u8R) 27 l0))] w) [(0, .vw (arrR 32 u8R) q0 l0 a0), (1, .rd (sliceR (arrR 32 u8R)) a1), (5, .rd i64R s2)] [(1, some (q0, .list (arrR 32 u8R) 27 l0))] aa ww) (fun aa ww h => h.sub [1] (sS rfl <| sS rfl <| sS rfl <| sN) (rR rfl rfl <| rN)) (fun s2 => ?_)
  refine gSeq <| gSR <| R rfl (mv rfl) <| R rfl (mv rfl) <| R rfl (len' rfl .rd rfl Tryz.underlying22) <| R rfl (I.lss rfl rfl) <| gNil <| eThen <| gIf rfl rfl (fun h3 => ?_) (fun h3 => ?_)
  ·
   refine gSkip <| eThen <| gSeq <| gBlk <| gSR <| R rfl (mv rfl) <| R rfl (mv rfl) <| R rfl (mv rfl) <| lBind fun x4 h5 => R rfl (ixR rfl rfl h5 Tryz.underlying22 ti27 rfl) <| R rfl (ldR rfl ty27) <| call [1] [(1, 1)] rfl Tryz.func30 rfl rfl (braidref09_At_q0_ok _ _ _ _) (aQ rfl <| aQ rfl <| aN) (rR rfl rfl <| rN) fun r6 n7 => R rfl (I.lss rfl rfl) <| gNil <| eThen <| gIf rfl rfl (fun h8 => ?_) (fun h8 => ?_)
   ·
    refine gSR <| R rfl (asg rfl) <| gNil <| eThen <| gRet <| eBret <| eTret <| eLret <| eMret <| eRet [] [1] rfl (eE rfl <| eN) (rR rfl rfl <| rN)
   ·
    refine gSkip <| eBlk <| eThen <| gReg <| R rfl (mv rfl) <| R rfl (I.add rfl rfl) <| R rfl (asg rfl) <| gNil <| eNext (fun aa ww h => h.sub [1] (sS rfl <| sS rfl <| sS rfl <| sN) (rR rfl rfl <| rN))
  ·
   refine gExit <| eTexit <| eLeave <| eMidR (fun aa ww h => h.sub [1] (sN) (rR rfl rfl <| rN))
 ·
  refine gSR <| R rfl (asg rfl) <| gNil <| eThen <| gRet <| eRet [] [1] rfl (eE rfl <| eN) (rR rfl rfl <| rN)
def braidref09_Order_L2 (a0 : api_Graph) (s6 : (List Int) × (List (Vector UInt8 32)) × (List Bool) × Bool) (s9 : Int) : Option (Sum (Sum ((List Int)) ((List Int) × (List (Vector UInt8 32)) × (List Bool) × Bool)) Int) :=
 if decide (s9 < (a0.Ops.length : Int)) then
  (idx s6.2.2.1 s9 >>= fun x12 =>
  if !x12 then
   idx a0.Ops s9 >>= fun x15 =>
   braidref09_All s6.2.1 x15.Preds >>= fun r17 =>
   some r17
  else
   some false) >>= fun s11 =>
  if s11 then
   (idx a0.IDs s9 >>= fun x21 =>
   app 8 s6.1 [s9] >>= fun x24 =>
   app 32 s6.2.1 [x21] >>= fun x28 =>
   idx s6.2.2.1 s9 >>= fun x31 =>
   some (x24, x28)) >>= fun s20 =>
   some (.inl (.inr (s20.1, s20.2, s6.2.2.1.set (s9 : Int).toNat true, true)))
  else
   some (.inr (w64 (s9 + 1)))
 else
  some (.inl (.inr (s6.1, s6.2.1, s6.2.2.1, false)))
def braidref09_Order_L0 (a0 : api_Graph) (s6 : (List Int) × (List (Vector UInt8 32)) × (List Bool) × Bool) : Option (Sum ((List Int)) ((List Int) × (List (Vector UInt8 32)) × (List Bool) × Bool)) :=
 if s6.2.2.2 then
  iter (braidref09_Order_L2 a0 s6) 0
 else
  some (.inl s6.1)
def braidref09_Order (a0 : api_Graph) : Option ((List Int)) :=
 mkn 1 false (a0.Ops.length : Int) >>= fun x2 =>
 (iter (braidref09_Order_L0 a0) ([], [], x2, true)) >>= fun s5 =>
 some s5
theorem braidref09_Order_ok (a0 : api_Graph) : Spec Tryz.prog 64 [.rd R_api_Graph a0] [] (braidref09_Order a0) (fun r nv => ⟨[.val (nv 0)], [(100, some (nv 0, .list i64R 3 r))]⟩) := by
 refine spec 51 Tryz.func64 rfl rfl rfl fun H w => ?_
 refine gSR <| Eb rfl (bx 1 rfl) fun v1 => R rfl (asg rfl) <| gNil <| eThen <| gSR <| R rfl (asg rfl) <| gNil <| eThen <| gSR <| R rfl (asg rfl) <| gNil <| eThen <| gSR <| R rfl (faB 1 rfl rfl Tryz.underlying25 rfl (by exact ti23)) <| R rfl (ld 1 rfl rfl ((Foc.here).part (pt_api_Graph_Ops _)) ty23 rfl) <| R rfl (len' rfl .rd rfl Tryz.underlying23) <| lBind fun x2 h3 => Ef rfl (mks (R := boolR) 2 rfl rfl h3 Tryz.underlying68 ti4 Zr.bool rfl) fun v4 => R rfl (asg rfl) <| gNil <| eThen <| gMid (fun (s5 : (List Int)) aa ww => ∃ nv : Nat → Value, Sta (ctx 51 H [] w) [(3, .val (nv 0))] [(18, some ((nv 0), .list i64R 3 s5))] aa ww) ?_ (fun s5 => ?_)
 ·
  refine gSR <| R rfl (asg rfl) <| gNil <| eThen <| gNew i64R 3 59 <| gNew (arrR 32 u8R) 27 60 <| gLoop (fun (s6 : (List Int) × (List (Vector UInt8 32)) × (List Bool) × Bool) aa ww => ∃ nv : Nat → Value, Sta (ctx 51 H [] w) [(1, .val (ptrTo v1 0)), (3, .val (nv 0)), (4, .val (nv 1)), (5, .val v4), (6, .rd boolR s6.2.2.2)] [(1, some (v1, .box 25 [.rd R_api_Graph a0])), (34, some ((nv 0), .list i64R 3 s6.1)), (58, some ((nv 1), .list (arrR 32 u8R) 27 s6.2.1)), (2, some (v4, .list boolR 4 s6.2.2.1))] aa ww) (fun aa ww h => ⟨nvl [(.slice none 0 0), (.slice none 0 0)], h.sub [1, 59, 60, 2] (sS rfl <| sS rfl <| sS rfl <| sS rfl <| sS rfl <| sN) (rR rfl rfl <| rR rfl rfl <| rR rfl rfl <| rR rfl rfl <| rN)⟩) (fun s6 => ?_)
  refine gEx fun n7 => gSeq <| gSR <| R rfl (mv rfl) <| gNil <| eThen <| gIf rfl rfl (fun h8 => ?_) (fun h8 => ?_)
  ·
   refine gKn 6 rfl h8 <| gSkip <| eThen <| gBlk <| gSR <| R rfl (asg rfl) <| gNil <| eThen <| gSR <| R rfl (asg rfl) <| gNil <| eThen <| gLoop (fun (s9 : Int) aa ww => Sta (ctx 51 H [] w) [(1, .val (ptrTo v1 0)), (3, .val (n7 0)), (4, .val (n7 1)), (5, .val v4), (6, .rd boolR false), (7, .rd i64R s9)] [(1, some (v1, .box 25 [.rd R_api_Graph a0])), (34, some ((n7 0), .list i64R 3 s6.1)), (58, some ((n7 1), .list (arrR 32 u8R) 27 s6.2.1)), (2, some (v4, .list boolR 4 s6.2.2.1))] aa ww) (fun aa ww h => h.sub [1, 34, 58, 2] (sS rfl <| sS rfl <| sS rfl <| sS rfl <| sS rfl <| sS rfl <| sN) (rR rfl rfl <| rR rfl rfl <| rR rfl rfl <| rR rfl rfl <| rN)) (fun s9 => ?_)
   refine gSeq <| gSR <| R rfl (mv rfl) <| R rfl (faB 1 rfl rfl Tryz.underlying25 rfl (by exact ti23)) <| R rfl (ld 1 rfl rfl ((Foc.here).part (pt_api_Graph_Ops _)) ty23 rfl) <| R rfl (len' rfl .rd rfl Tryz.underlying23) <| R rfl (I.lss rfl rfl) <| gNil <| eThen <| gIf rfl rfl (fun h10 => ?_) (fun h10 => ?_)
   ·
    refine gSkip <| eThen <| gSeq <| gBlk <| gMid (fun (s11 : Bool) aa ww => Sta (ctx 51 H [] w) [(1, .val (ptrTo v1 0)), (3, .val (n7 0)), (4, .val (n7 1)), (5, .val v4), (6, .rd boolR false), (7, .rd i64R s9), (34, .rd boolR s11)] [(1, some (v1, .box 25 [.rd R_api_Graph a0])), (34, some ((n7 0), .list i64R 3 s6.1)), (58, some ((n7 1), .list (arrR 32 u8R) 27 s6.2.1)), (2, some (v4, .list boolR 4 s6.2.2.1))] aa ww) ?_ (fun s11 => ?_)
    ·
     refine gReg <| R rfl (mv rfl) <| R rfl (mv rfl) <| lBind fun x12 h13 => R rfl (ixO 2 rfl rfl rfl h13 Tryz.underlying68 ti4) <| R rfl (ld 2 rfl rfl (Foc.el h13) ty4 rfl) <| R rfl (not' rfl) <| R rfl (mv rfl) <| lSplit 25 rfl (fun h14 => ?_) (fun h14 => ?_)
     ·
      refine lKn 24 rfl h14 <| lRun (gd rfl rfl rfl rfl) rfl rfl (mv rfl) <| lRun (gd rfl rfl rfl rfl) rfl rfl (faB 1 rfl rfl Tryz.underlying25 rfl (by exact ti23)) <| lRun (gd rfl rfl rfl rfl) rfl rfl (ld 1 rfl rfl ((Foc.here).part (pt_api_Graph_Ops _)) ty23 rfl) <| lRun (gd rfl rfl rfl rfl) rfl rfl (mv rfl) <| lBind fun x15 h16 => lRun (gd rfl rfl rfl rfl) rfl rfl (ixR rfl rfl h16 Tryz.underlying23 ti65 rfl) <| lRun (gd rfl rfl rfl rfl) rfl rfl (faR rfl (pt_api_Op_Preds _) Tryz.underlying65 rfl rfl (by exact ti22)) <| lRun (gd rfl rfl rfl rfl) rfl rfl (ldR rfl ty22) <| callg [58] [(1, 58)] (gd rfl rfl rfl rfl) rfl Tryz.func48 rfl rfl (braidref09_All_q0_ok _ _ _ _) (aW rfl <| aQ rfl <| aN) (rR rfl rfl <| rN) fun r17 n18 => R rfl (pkT rfl rfl) <| gNil <| eMid (fun aa ww h => h.sub [1, 34, 58, 2] (sS rfl <| sS rfl <| sS rfl <| sS rfl <| sS rfl <| sS rfl <| sS rfl <| sN) (rR rfl rfl <| rR rfl rfl <| rR rfl rfl <| rR rfl rfl <| rN))
     ·
      refine lKn 24 rfl h14 <| lSkip (gd rfl rfl rfl rfl) rfl rfl <| lSkip (gd rfl rfl rfl rfl) rfl rfl <| lSkip (gd rfl rfl rfl rfl) rfl rfl <| lSkip (gd rfl rfl rfl rfl) rfl rfl <| lSkip (gd rfl rfl rfl rfl) rfl rfl <| lSkip (gd rfl rfl rfl rfl) rfl rfl <| lSkip (gd rfl rfl rfl rfl) rfl rfl <| lSkip (gd rfl rfl rfl rfl) rfl rfl <| R rfl (pkF rfl rfl) <| gNil <| eMid (fun aa ww h => h.sub [1, 34, 58, 2] (sS rfl <| sS rfl <| sS rfl <| sS rfl <| sS rfl <| sS rfl <| sS rfl <| sN) (rR rfl rfl <| rR rfl rfl <| rR rfl rfl <| rR rfl rfl <| rN))
    ·
     refine gIf rfl rfl (fun h19 => ?_) (fun h19 => ?_)
     ·
      refine gMid (fun (s20 : (List Int) × (List (Vector UInt8 32))) aa ww => ∃ nv : Nat → Value, Sta (ctx 51 H [] w) [(1, .val (ptrTo v1 0)), (3, .val (nv 0)), (4, .val (nv 1)), (5, .val v4), (6, .rd boolR true)] [(1, some (v1, .box 25 [.rd R_api_Graph a0])), (34, some ((nv 0), .list i64R 3 s20.1)), (58, some ((nv 1), .list (arrR 32 u8R) 27 s20.2)), (2, some (v4, .list boolR 4 (s6.2.2.1.set (s9 : Int).toNat true)))] aa ww) ?_ (fun s20 => ?_)
      ·
       refine gRegH [2, 34, 58, 73, 97] mixed rfl rfl <| hTk 0 rfl rfl (mv rfl) <| hTk 1 rfl rfl (mv rfl) <| hTk 2 rfl rfl (mv rfl) <| hTk 3 rfl rfl (mv rfl) <| hTk 6 rfl rfl (mv rfl) <| hTk 7 rfl rfl (faB 1 rfl rfl Tryz.underlying25 rfl (by exact ti22)) <| hTk 8 rfl rfl (ld 1 rfl rfl ((Foc.here).part (pt_api_Graph_IDs _)) ty22 rfl) <| hTk 9 rfl rfl (mv rfl) <| hBind fun x21 h22 => hTk 10 rfl rfl (ixR rfl rfl h22 Tryz.underlying22 ti27 rfl) <| hTk 11 rfl rfl (ldR rfl ty27) <| hAlt [4, 12] (by kernel_rfl) rfl ⟨?_, ?_, trivial⟩
       ·
        refine oDo 4 rfl (gd0 rfl) rfl rfl rfl (lit (R := i64R) ([s9] : List Int) 73 (pP rfl rfl <| pN) rfl Tryz.underlying78 ti3 rfl rfl) (fun _ => rfl) fun v23 => hAlt [5, 12] (by kernel_rfl) rfl ⟨?_, ?_, trivial⟩
        ·
         refine oBind fun x24 h25 => oDo 5 rfl (gd0 rfl) rfl rfl rfl (apn 34 rfl rfl rfl (.own 73 rfl) h25 Tryz.underlying78 ti3 rfl rfl rfl) (fun _ => rfl) fun v26 => hDo 12 rfl (by kernel_rfl) (gd0 rfl) rfl rfl rfl (lit (R := (arrR 32 u8R)) ([x21] : List (Vector UInt8 32)) 97 (pP rfl rfl <| pN) rfl Tryz.underlying22 ti27 rfl rfl) (fun _ => rfl) fun v27 => hFrz 97 [47] rfl (fS rfl <| fN) <| hBind fun x28 h29 => hDo 13 rfl (by kernel_rfl) (gd0 rfl) rfl rfl rfl (apn 58 rfl rfl rfl .rd h29 Tryz.underlying22 ti27 rfl rfl rfl) (fun _ => rfl) fun v30 => hTakeF 14 rfl (by kernel_rfl) (by kernel_rfl) (by kernel_rfl) (gd0 rfl) rfl rfl flat_val (asg rfl) <| hTakeF 15 rfl (by kernel_rfl) (by kernel_rfl) (by kernel_rfl) (gd0 rfl) rfl rfl flat_val (asg rfl) <| hBind fun x31 h32 => hTk 16 rfl rfl (ixO 2 rfl rfl rfl h32 Tryz.underlying68 ti4) <| hDoS 17 rfl (by kernel_rfl) (gd0 rfl) rfl rfl rfl rfl (sto 2 rfl rfl (Foc.el h32) rfl ti4) <| hTk 18 rfl rfl (asg rfl) <| hDone (by kernel_rfl) <| eMid (fun aa ww h => ⟨nvl [v26, v30], h.sub [1, 34, 58, 2] (sS rfl <| sS rfl <| sS rfl <| sS rfl <| sS rfl <| sN) (rR rfl rfl <| rR rfl rfl <| rR rfl rfl <| rR rfl rfl <| rN)⟩)
        ·
         refine oDo 12 rfl (gd0 rfl) rfl rfl rfl (lit (R := (arrR 32 u8R)) ([x21] : List (Vector UInt8 32)) 97 (pP rfl rfl <| pN) rfl Tryz.underlying22 ti27 rfl rfl) (fun _ => rfl) fun v33 => hBind fun x34 h35 => hDo 5 rfl (by kernel_rfl) (gd0 rfl) rfl rfl rfl (apn 34 rfl rfl rfl (.own 73 rfl) h35 Tryz.underlying78 ti3 rfl rfl rfl) (fun _ => rfl) fun v36 => hFrz 97 [47] rfl (fS rfl <| fN) <| hBind fun x37 h38 => hDo 13 rfl (by kernel_rfl) (gd0 rfl) rfl rfl rfl (apn 58 rfl rfl rfl .rd h38 Tryz.underlying22 ti27 rfl rfl rfl) (fun _ => rfl) fun v39 => hTakeF 14 rfl (by kernel_rfl) (by kernel_rfl) (by kernel_rfl) (gd0 rfl) rfl rfl flat_val (asg rfl) <| hTakeF 15 rfl (by kernel_rfl) (by kernel_rfl) (by kernel_rfl) (gd0 rfl) rfl rfl flat_val (asg rfl) <| hBind fun x40 h41 => hTk 16 rfl rfl (ixO 2 rfl rfl rfl h41 Tryz.underlying68 ti4) <| hDoS 17 rfl (by kernel_rfl) (gd0 rfl) rfl rfl rfl rfl (sto 2 rfl rfl (Foc.el h41) rfl ti4) <| hTk 18 rfl rfl (asg rfl) <| hDone (by kernel_rfl) <| eMid (fun aa ww h => ⟨nvl [v36, v39], h.sub [1, 34, 58, 2] (sS rfl <| sS rfl <| sS rfl <| sS rfl <| sS rfl <| sN) (rR rfl rfl <| rR rfl rfl <| rR rfl rfl <| rR rfl rfl <| rN)⟩)
       ·
        refine oDo 12 rfl (gd0 rfl) rfl rfl rfl (lit (R := (arrR 32 u8R)) ([x21] : List (Vector UInt8 32)) 97 (pP rfl rfl <| pN) rfl Tryz.underlying22 ti27 rfl rfl) (fun _ => rfl) fun v42 => hDo 4 rfl (by kernel_rfl) (gd0 rfl) rfl rfl rfl (lit (R := i64R) ([s9] : List Int) 73 (pP rfl rfl <| pN) rfl Tryz.underlying78 ti3 rfl rfl) (fun _ => rfl) fun v43 => hBind fun x44 h45 => hDo 5 rfl (by kernel_rfl) (gd0 rfl) rfl rfl rfl (apn 34 rfl rfl rfl (.own 73 rfl) h45 Tryz.underlying78 ti3 rfl rfl rfl) (fun _ => rfl) fun v46 => hFrz 97 [47] rfl (fS rfl <| fN) <| hBind fun x47 h48 => hDo 13 rfl (by kernel_rfl) (gd0 rfl) rfl rfl rfl (apn 58 rfl rfl rfl .rd h48 Tryz.underlying22 ti27 rfl rfl rfl) (fun _ => rfl) fun v49 => hTakeF 14 rfl (by kernel_rfl) (by kernel_rfl) (by kernel_rfl) (gd0 rfl) rfl rfl flat_val (asg rfl) <| hTakeF 15 rfl (by kernel_rfl) (by kernel_rfl) (by kernel_rfl) (gd0 rfl) rfl rfl flat_val (asg rfl) <| hBind fun x50 h51 => hTk 16 rfl rfl (ixO 2 rfl rfl rfl h51 Tryz.underlying68 ti4) <| hDoS 17 rfl (by kernel_rfl) (gd0 rfl) rfl rfl rfl rfl (sto 2 rfl rfl (Foc.el h51) rfl ti4) <| hTk 18 rfl rfl (asg rfl) <| hDone (by kernel_rfl) <| eMid (fun aa ww h => ⟨nvl [v46, v49], h.sub [1, 34, 58, 2] (sS rfl <| sS rfl <| sS rfl <| sS rfl <| sS rfl <| sN) (rR rfl rfl <| rR rfl rfl <| rR rfl rfl <| rR rfl rfl <| rN)⟩)
      ·
       refine gEx fun n52 => gExit <| eBother rfl <| eTexit <| eLeave <| eBlk <| eNext (fun aa ww h => ⟨nvl [(n52 0), (n52 1)], h.sub [1, 34, 58, 2] (sS rfl <| sS rfl <| sS rfl <| sS rfl <| sS rfl <| sN) (rR rfl rfl <| rR rfl rfl <| rR rfl rfl <| rR rfl rfl <| rN)⟩)
     ·
      refine gSkip <| eBlk <| eThen <| gReg <| R rfl (mv rfl) <| R rfl (I.add rfl rfl) <| R rfl (asg rfl) <| gNil <| eNext (fun aa ww h => h.sub [1, 34, 58, 2] (sS rfl <| sS rfl <| sS rfl <| sS rfl <| sS rfl <| sS rfl <| sN) (rR rfl rfl <| rR rfl rfl <| rR rfl rfl <| rR rfl rfl <| rN))
   ·
    refine gExit <| eTexit <| eLeave <| eBlk <| eNext (fun aa ww h => ⟨nvl [(n7 0), (n7 1)], h.sub [1, 34, 58, 2] (sS rfl <| sS rfl <| sS rfl <| sS rfl <| sS rfl <| sN) (rR rfl rfl <| rR rfl rfl <| rR rfl rfl <| rR rfl rfl <| rN)⟩)
  ·
   refine gKn 6 rfl h8 <| gExit <| eTexit <| eLeave <| eMid (fun aa ww h => ⟨nvl [(n7 0)], h.sub [34] (sS rfl <| sN) (rR rfl rfl <| rN)⟩)
 ·
  refine gEx fun n53 => gSR <| R rfl (mv rfl) <| R rfl (asg rfl) <| gNil <| eThen <| gRet <| eRet [(n53 0)] [18] rfl (eE rfl <| eN) (rR rfl rfl <| rN)
def braidref09_shape_L0 (a0 : api_Graph) (s6 : Int) : Option (Sum (Sum Int Unit) Int) :=
 if decide (s6 < (a0.Ops.length : Int)) then
  idx a0.Ops s6 >>= fun x8 =>
  braidref09_All a0.IDs x8.Preds >>= fun r10 =>
  if !r10 then
   some (.inl (.inl 40))
  else
   some (.inr (w64 (s6 + 1)))
 else
  some (.inl (.inr ()))
def braidref09_shape (a0 : api_Graph) : Option (Int) :=
 braidref04_Rising a0.IDs >>= fun r2 =>
 if !r2 then
  some 32
 else
  orRet (iter (braidref09_shape_L0 a0) 0) fun s5 =>
  braidref09_Order a0 >>= fun r13 =>
  if decide ((r13.length : Int) < (a0.Ops.length : Int)) then
   some 36
  else
   some 0
theorem braidref09_shape_ok (a0 : api_Graph) : Spec Tryz.prog 59 [.rd R_api_Graph a0] [] (braidref09_shape a0) (fun r nv => ⟨[.rd i64R r], []⟩) := by
 refine spec 32 Tryz.func59 rfl rfl rfl fun H w => ?_
 refine gSR <| Eb rfl (bx 1 rfl) fun v1 => R rfl (asg rfl) <| gNil <| eThen <| gSeq <| gSR <| R rfl (faB 1 rfl rfl Tryz.underlying25 rfl (by exact ti22)) <| R rfl (ld 1 rfl rfl ((Foc.here).part (pt_api_Graph_IDs _)) ty22 rfl) <| call [] [] rfl Tryz.func76 rfl rfl (braidref04_Rising_ok _) (aQ rfl <| aN) rN fun r2 n3 => R rfl (not' rfl) <| gNil <| eThen <| gIf rfl rfl (fun h4 => ?_) (fun h4 => ?_)
 ·
  refine gSR <| R rfl (asg rfl) <| gNil <| eThen <| gRet <| eTret <| eRet [] [] rfl (eE rfl <| eN) (rN)
 ·
  refine gSkip <| eThen <| gMidR (fun (s5 : Unit) aa ww => Sta (ctx 32 H [] w) [(1, .val (ptrTo v1 0))] [(1, some (v1, .box 25 [.rd R_api_Graph a0]))] aa ww) ?_ (fun s5 => ?_)
  ·
   refine gSR <| R rfl (asg rfl) <| gNil <| eThen <| gLoop (fun (s6 : Int) aa ww => Sta (ctx 32 H [] w) [(1, .val (ptrTo v1 0)), (3, .rd i64R s6)] [(1, some (v1, .box 25 [.rd R_api_Graph a0]))] aa ww) (fun aa ww h => h.sub [1] (sS rfl <| sS rfl <| sN) (rR rfl rfl <| rN)) (fun s6 => ?_)
   refine gSeq <| gSR <| R rfl (mv rfl) <| R rfl (faB 1 rfl rfl Tryz.underlying25 rfl (by exact ti23)) <| R rfl (ld 1 rfl rfl ((Foc.here).part (pt_api_Graph_Ops _)) ty23 rfl) <| R rfl (len' rfl .rd rfl Tryz.underlying23) <| R rfl (I.lss rfl rfl) <| gNil <| eThen <| gIf rfl rfl (fun h7 => ?_) (fun h7 => ?_)
   ·
    refine gSkip <| eThen <| gSeq <| gBlk <| gSeq <| gRegH [] mixed rfl rfl <| hTk 0 rfl rfl (faB 1 rfl rfl Tryz.underlying25 rfl (by exact ti22)) <| hTk 1 rfl rfl (ld 1 rfl rfl ((Foc.here).part (pt_api_Graph_IDs _)) ty22 rfl) <| hTk 2 rfl rfl (faB 1 rfl rfl Tryz.underlying25 rfl (by exact ti23)) <| hTk 3 rfl rfl (ld 1 rfl rfl ((Foc.here).part (pt_api_Graph_Ops _)) ty23 rfl) <| hTk 4 rfl rfl (mv rfl) <| hBind fun x8 h9 => hTk 5 rfl rfl (ixR rfl rfl h9 Tryz.underlying23 ti65 rfl) <| hTk 6 rfl rfl (faR rfl (pt_api_Op_Preds _) Tryz.underlying65 rfl rfl (by exact ti22)) <| hTk 7 rfl rfl (ldR rfl ty22) <| hCallF 8 [] [] rfl (by kernel_rfl) rfl (gd0 rfl) rfl Tryz.func48 rfl rfl (braidref09_All_ok _ _) (aQ rfl <| aQ rfl <| aN) rN rfl (fun _ _ => flat_bool) fun r10 n11 => hTk 9 rfl rfl (not' rfl) <| hDone (by kernel_rfl) <| eThen <| gIf rfl rfl (fun h12 => ?_) (fun h12 => ?_)
    ·
     refine gSR <| R rfl (asg rfl) <| gNil <| eThen <| gRet <| eBret <| eTret <| eLret <| eMret <| eRet [] [] rfl (eE rfl <| eN) (rN)
    ·
     refine gSkip <| eBlk <| eThen <| gReg <| R rfl (mv rfl) <| R rfl (I.add rfl rfl) <| R rfl (asg rfl) <| gNil <| eNext (fun aa ww h => h.sub [1] (sS rfl <| sS rfl <| sN) (rR rfl rfl <| rN))
   ·
    refine gExit <| eTexit <| eLeave <| eMidR (fun aa ww h => h.sub [1] (sS rfl <| sN) (rR rfl rfl <| rN))
  ·
   refine gSeq <| gSeq <| gRegH [38] mixed rfl rfl <| hTk 0 rfl rfl (ld 1 rfl rfl Foc.here ty25 rfl) <| hTk 3 rfl rfl (faB 1 rfl rfl Tryz.underlying25 rfl (by exact ti23)) <| hTk 4 rfl rfl (ld 1 rfl rfl ((Foc.here).part (pt_api_Graph_Ops _)) ty23 rfl) <| hTk 5 rfl rfl (len' rfl .rd rfl Tryz.underlying23) <| hCallF 1 [] [(100, 38)] rfl (by kernel_rfl) rfl (gd0 rfl) rfl Tryz.func64 rfl rfl (braidref09_Order_ok _) (aQ rfl <| aN) rN rfl (fun _ _ => flat_val) fun r13 n14 => hTakeF 2 rfl (by kernel_rfl) (by kernel_rfl) (by kernel_rfl) (gd0 rfl) rfl rfl flat_num (len' rfl (.own 38 rfl) rfl Tryz.underlying78) <| hTk 6 rfl rfl (I.lss rfl rfl) <| hDone (by kernel_rfl) <| eThen <| gIf rfl rfl (fun h15 => ?_) (fun h15 => ?_)
   ·
    refine gSR <| R rfl (asg rfl) <| gNil <| eThen <| gRet <| eTret <| eRet [] [] rfl (eE rfl <| eN) (rN)
   ·
    refine gSkip <| eThen <| gSR <| R rfl (asg rfl) <| gNil <| eThen <| gRet <| eRet [] [] rfl (eE rfl <| eN) (rN)
def braidref09_Check_L0 (a0 : api_Graph) (s5 : Int) : Option (Sum (Sum Int Unit) Int) :=
 if decide (s5 < (a0.Ops.length : Int)) then
  idx a0.Ops s5 >>= fun x7 =>
  braidref06_Verify x7 >>= fun r9 =>
  if r9 != 0 then
   some (.inl (.inl 8))
  else
   idx a0.Ops s5 >>= fun x12 =>
   idx a0.IDs s5 >>= fun x14 =>
   braidref06_Of x12 >>= fun r16 =>
   if !decide (r16 = x14) then
    some (.inl (.inl 8))
   else
    some (.inr (w64 (s5 + 1)))
 else
  some (.inl (.inr ()))
def braidref09_Check (a0 : api_Graph) : Option (Int) :=
 if decide (60 < (a0.Ops.length : Int)) then
  some 4
 else
  if (a0.IDs.length : Int) != (a0.Ops.length : Int) then
   some 8
  else
   orRet (iter (braidref09_Check_L0 a0) 0) fun s4 =>
   braidref09_shape a0 >>= fun r19 =>
   some r19
theorem braidref09_Check_ok (a0 : api_Graph) : Spec Tryz.prog 33 [.rd R_api_Graph a0] [] (braidref09_Check a0) (fun r nv => ⟨[.rd i64R r], []⟩) := by
 refine spec 45 Tryz.func33 rfl rfl rfl fun H w => ?_
 refine gSR <| Eb rfl (bx 1 rfl) fun v1 => R rfl (asg rfl) <| gNil <| eThen <| gSeq <| gSR <| R rfl (faB 1 rfl rfl Tryz.underlying25 rfl (by exact ti23)) <| R rfl (ld 1 rfl rfl ((Foc.here).part (pt_api_Graph_Ops _)) ty23 rfl) <| R rfl (len' rfl .rd rfl Tryz.underlying23) <| R rfl (I.gtr rfl rfl) <| gNil <| eThen <| gIf rfl rfl (fun h2 => ?_) (fun h2 => ?_)
 ·
  refine gSR <| R rfl (asg rfl) <| gNil <| eThen <| gRet <| eTret <| eRet [] [] rfl (eE rfl <| eN) (rN)
 ·
  refine gSkip <| eThen <| gSeq <| gSR <| R rfl (faB 1 rfl rfl Tryz.underlying25 rfl (by exact ti22)) <| R rfl (ld 1 rfl rfl ((Foc.here).part (pt_api_Graph_IDs _)) ty22 rfl) <| R rfl (len' rfl .rd rfl Tryz.underlying22) <| R rfl (faB 1 rfl rfl Tryz.underlying25 rfl (by exact ti23)) <| R rfl (ld 1 rfl rfl ((Foc.here).part (pt_api_Graph_Ops _)) ty23 rfl) <| R rfl (len' rfl .rd rfl Tryz.underlying23) <| R rfl (I.neq rfl rfl) <| gNil <| eThen <| gIf rfl rfl (fun h3 => ?_) (fun h3 => ?_)
  ·
   refine gSR <| R rfl (asg rfl) <| gNil <| eThen <| gRet <| eTret <| eRet [] [] rfl (eE rfl <| eN) (rN)
  ·
   refine gSkip <| eThen <| gMidR (fun (s4 : Unit) aa ww => Sta (ctx 45 H [] w) [(1, .val (ptrTo v1 0))] [(1, some (v1, .box 25 [.rd R_api_Graph a0]))] aa ww) ?_ (fun s4 => ?_)
   ·
    refine gSR <| R rfl (asg rfl) <| gNil <| eThen <| gLoop (fun (s5 : Int) aa ww => Sta (ctx 45 H [] w) [(1, .val (ptrTo v1 0)), (3, .rd i64R s5)] [(1, some (v1, .box 25 [.rd R_api_Graph a0]))] aa ww) (fun aa ww h => h.sub [1] (sS rfl <| sS rfl <| sN) (rR rfl rfl <| rN)) (fun s5 => ?_)
    refine gSeq <| gSR <| R rfl (mv rfl) <| R rfl (faB 1 rfl rfl Tryz.underlying25 rfl (by exact ti23)) <| R rfl (ld 1 rfl rfl ((Foc.here).part (pt_api_Graph_Ops _)) ty23 rfl) <| R rfl (len' rfl .rd rfl Tryz.underlying23) <| R rfl (I.lss rfl rfl) <| gNil <| eThen <| gIf rfl rfl (fun h6 => ?_) (fun h6 => ?_)
    ·
     refine gSkip <| eThen <| gSeq <| gBlk <| gSeq <| gRegH [] mixed rfl rfl <| hTk 0 rfl rfl (faB 1 rfl rfl Tryz.underlying25 rfl (by exact ti23)) <| hTk 1 rfl rfl (ld 1 rfl rfl ((Foc.here).part (pt_api_Graph_Ops _)) ty23 rfl) <| hTk 2 rfl rfl (mv rfl) <| hBind fun x7 h8 => hTk 3 rfl rfl (ixR rfl rfl h8 Tryz.underlying23 ti65 rfl) <| hTk 4 rfl rfl (ldR rfl ty65) <| hCallF 5 [] [] rfl (by kernel_rfl) rfl (gd0 rfl) rfl Tryz.func57 rfl rfl (braidref06_Verify_ok _) (aQ rfl <| aN) rN rfl (fun _ _ => flat_num) fun r9 n10 => hTk 6 rfl rfl (I.neq rfl rfl) <| hTk 7 rfl rfl (mv rfl) <| hIf 29 rfl rfl (fun h11 => ?_) (fun h11 => ?_)
     ·
      refine hKn 28 rfl rfl h11 <| hSkip 8 rfl (by kernel_rfl) (by kernel_rfl) (by kernel_rfl) (gd rfl rfl rfl rfl) rfl rfl <| hSkip 9 rfl (by kernel_rfl) (by kernel_rfl) (by kernel_rfl) (gd rfl rfl rfl rfl) rfl rfl <| hSkip 10 rfl (by kernel_rfl) (by kernel_rfl) (by kernel_rfl) (gd rfl rfl rfl rfl) rfl rfl <| hSkip 11 rfl (by kernel_rfl) (by kernel_rfl) (by kernel_rfl) (gd rfl rfl rfl rfl) rfl rfl <| hSkip 12 rfl (by kernel_rfl) (by kernel_rfl) (by kernel_rfl) (gd rfl rfl rfl rfl) rfl rfl <| hSkip 13 rfl (by kernel_rfl) (by kernel_rfl) (by kernel_rfl) (gd rfl rfl rfl rfl) rfl rfl <| hSkip 14 rfl (by kernel_rfl) (by kernel_rfl) (by kernel_rfl) (gd rfl rfl rfl rfl) rfl rfl <| hSkip 15 rfl (by kernel_rfl) (by kernel_rfl) (by kernel_rfl) (gd rfl rfl rfl rfl) rfl rfl <| hSkip 16 rfl (by kernel_rfl) (by kernel_rfl) (by kernel_rfl) (gd rfl rfl rfl rfl) rfl rfl <| hSkip 17 rfl (by kernel_rfl) (by kernel_rfl) (by kernel_rfl) (gd rfl rfl rfl rfl) rfl rfl <| hSkip 18 rfl (by kernel_rfl) (by kernel_rfl) (by kernel_rfl) (gd rfl rfl rfl rfl) rfl rfl <| hSkip 19 rfl (by kernel_rfl) (by kernel_rfl) (by kernel_rfl) (gd rfl rfl rfl rfl) rfl rfl <| hTk 20 rfl rfl (pkT rfl rfl) <| hDone (by kernel_rfl) <| eThen <| gTrue rfl <| gSR <| R rfl (asg rfl) <| gNil <| eThen <| gRet <| eBret <| eTret <| eLret <| eMret <| eRet [] [] rfl (eE rfl <| eN) (rN)
     ·
      refine hKn 28 rfl rfl h11 <| hTake 8 rfl (by kernel_rfl) (by kernel_rfl) (by kernel_rfl) (gd rfl rfl rfl rfl) rfl rfl (faB 1 rfl rfl Tryz.underlying25 rfl (by exact ti23)) <| hTake 9 rfl (by kernel_rfl) (by kernel_rfl) (by kernel_rfl) (gd rfl rfl rfl rfl) rfl rfl (ld 1 rfl rfl ((Foc.here).part (pt_api_Graph_Ops _)) ty23 rfl) <| hTake 10 rfl (by kernel_rfl) (by kernel_rfl) (by kernel_rfl) (gd rfl rfl rfl rfl) rfl rfl (mv rfl) <| hBind fun x12 h13 => hTake 11 rfl (by kernel_rfl) (by kernel_rfl) (by kernel_rfl) (gd rfl rfl rfl rfl) rfl rfl (ixR rfl rfl h13 Tryz.underlying23 ti65 rfl) <| hTake 12 rfl (by kernel_rfl) (by kernel_rfl) (by kernel_rfl) (gd rfl rfl rfl rfl) rfl rfl (ldR rfl ty65) <| hTake 14 rfl (by kernel_rfl) (by kernel_rfl) (by kernel_rfl) (gd rfl rfl rfl rfl) rfl rfl (faB 1 rfl rfl Tryz.underlying25 rfl (by exact ti22)) <| hTake 15 rfl (by kernel_rfl) (by kernel_rfl) (by kernel_rfl) (gd rfl rfl rfl rfl) rfl rfl (ld 1 rfl rfl ((Foc.here).part (pt_api_Graph_IDs _)) ty22 rfl) <| hTake 16 rfl (by kernel_rfl) (by kernel_rfl) (by kernel_rfl) (gd rfl rfl rfl rfl) rfl rfl (mv rfl) <| hBind fun x14 h15 => hTake 17 rfl (by kernel_rfl) (by kernel_rfl) (by kernel_rfl) (gd rfl rfl rfl rfl) rfl rfl (ixR rfl rfl h15 Tryz.underlying22 ti27 rfl) <| hTake 18 rfl (by kernel_rfl) (by kernel_rfl) (by kernel_rfl) (gd rfl rfl rfl rfl) rfl rfl (ldR rfl ty27) <| hCallJ 13 [] [] rfl (by kernel_rfl) rfl (gd rfl rfl rfl rfl) rfl Tryz.func58 rfl rfl (braidref06_Of_ok _) (aQ rfl <| aN) rN rfl fun r16 n17 => hTakeF 19 rfl (by kernel_rfl) (by kernel_rfl) (by kernel_rfl) (gd rfl rfl rfl rfl) rfl rfl flat_bool (neA rfl rfl eq27 rfl rfl gq27) <| hTk 20 rfl rfl (pkF rfl rfl) <| hDone (by kernel_rfl) <| eThen <| gIf rfl rfl (fun h18 => ?_) (fun h18 => ?_)
      ·
       refine gKn 41 rfl h18 <| gSR <| R rfl (asg rfl) <| gNil <| eThen <| gRet <| eBret <| eTret <| eLret <| eMret <| eRet [] [] rfl (eE rfl <| eN) (rN)
      ·
       refine gKn 41 rfl h18 <| gSkip <| eBlk <| eThen <| gReg <| R rfl (mv rfl) <| R rfl (I.add rfl rfl) <| R rfl (asg rfl) <| gNil <| eNext (fun aa ww h => h.sub [1] (sS rfl <| sS rfl <| sN) (rR rfl rfl <| rN))
    ·
     refine gExit <| eTexit <| eLeave <| eMidR (fun aa ww h => h.sub [1] (sS rfl <| sN) (rR rfl rfl <| rN))
   ·
    refine gSR <| R rfl (ld 1 rfl rfl Foc.here ty25 rfl) <| call [] [] rfl Tryz.func59 rfl rfl (braidref09_shape_ok _) (aQ rfl <| aN) rN fun r19 n20 => R rfl (asg rfl) <| gNil <| eThen <| gRet <| eRet [] [] rfl (eE rfl <| eN) (rN)
end Go.Proofs.YtjnheeekdadcpaaGreatDoor
